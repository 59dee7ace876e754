/- DERIVED. Chapter 42: a plan's line. -/
import Derived.Test.YtkdmodanfcpcfaaDoorRLine2
import Derived.Test.YtkdmodanfcpcfaaDoorEventV
import Derived.BigRegion
import Derived.Deep.RegionHeld3
namespace Go.Proofs.YtkdmodanfcpcfaaDoor
open Go.RowKit

structure PlanA.ok (p : PlanA) : Prop where
  threads : -9223372036854775808 ≤ p.threads ∧ p.threads ≤ 9223372036854775807
  slots : -9223372036854775808 ≤ p.slots ∧ p.slots ≤ 9223372036854775807
  levels : -9223372036854775808 ≤ p.levels ∧ p.levels ≤ 9223372036854775807
  gen : p.gen < 18446744073709551616
theorem planT_len {p : PlanA} (h : p.ok) : (planT p).length ≤ 92 := by
  have h1 := itoa_len p.threads h.threads.1 h.threads.2
  have h2 := itoa_len p.slots h.slots.1 h.slots.2
  have h3 := itoa_len p.levels h.levels.1 h.levels.2
  have h4 := dig_len p.gen h.gen
  rw [Str.size] at h1 h2 h3 h4
  simp [planT]
  omega
set_option maxRecDepth 20000 in
set_option maxHeartbeats 4000000 in
theorem head_any (p : PlanA) (hp : p.ok) (w : World) (hg : Glob w) :
    Calls Tryd.prog 39 #[.agg #[.int .i64 p.threads, .int .i64 p.slots, .int .i64 p.levels, .int .u64 p.gen]] w fun x w' => x = .returned (.string (Str (planT p))) ∧ Fr [] w w' := by
  have F0 : Fr [] w (w.alloc (.cells #[.int .i64 p.threads, .int .i64 p.slots, .int .i64 p.levels, .int .u64 p.gen] 38)) := (Fr.refl _ _).alloc _
  have B0 := Box.new w #[.int .i64 p.threads, .int .i64 p.slots, .int .i64 p.levels, .int .u64 p.gen] 38
  have C1 := fun W hW => itoa_any p.threads hp.threads.1 hp.threads.2 W hW
  have C2 := fun W hW => itoa_any p.slots hp.slots.1 hp.slots.2 W hW
  have C3 := fun W hW => itoa_any p.levels hp.levels.1 hp.levels.2 W hW
  have C4 := fun W hW => fmtU_any p.gen hp.gen W hW
  simp only [Str.lit] at C1 C2 C3 C4
  have HL := Lib.hid (planT_len hp)
  have H1 := Lib.hid C1
  have H2 := Lib.hid C2
  have H3 := Lib.hid C3
  have H4 := Lib.hid C4
  clear C1 C2 C3 C4 hp
  go_enter Tryd.func39, Tryd.ntmps39
  go_upto_region 1 with (fail)
  obtain ⟨g, hgg⟩ : ∃ g, w.heap.size = g := ⟨_, rfl⟩
  obtain ⟨U, hU⟩ : ∃ U, w.alloc (.cells #[.int .i64 p.threads, .int .i64 p.slots, .int .i64 p.levels, .int .u64 p.gen] 38) = U := ⟨_, rfl⟩
  rw [hU] at F0 B0 ⊢
  rw [hgg] at B0 ⊢
  clear hU hgg
  have HS := Lib.hid (show ∀ W, Fr [] U W → W.cell? ⟨g, 0, none⟩ = some (.int .i64 p.threads) ∧ W.cell? ⟨g, 1, none⟩ = some (.int .i64 p.slots) ∧ W.cell? ⟨g, 2, none⟩ = some (.int .i64 p.levels) ∧ W.cell? ⟨g, 3, none⟩ = some (.int .u64 p.gen) from fun W hW =>
    have h := B0.keep0 hW
    ⟨h.cell 0, h.cell 1, h.cell 2, h.cell 3⟩)
  have HT := Lib.hid (show ∀ W, Fr [] U W → Tab W from fun W hW => (hg.keep (F0.trans0 hW)).tab)
  have HF := Lib.hid F0
  have hfr0 := Fr.refl [] U
  clear B0 F0 hg
  go_region_held3 (fun W => W.cell? ⟨g, 0, none⟩ = some (.int .i64 p.threads) ∧ W.cell? ⟨g, 1, none⟩ = some (.int .i64 p.slots) ∧ W.cell? ⟨g, 2, none⟩ = some (.int .i64 p.levels) ∧ W.cell? ⟨g, 3, none⟩ = some (.int .u64 p.gen))
    ((refine HS.out _ ?_; (with_reducible repeat' first | exact hfr0 | exact Fr.refl _ _ | (refine Fr.trans0 ?_ f9) | (refine Fr.trans0 ?_ f8) | (refine Fr.trans0 ?_ f7) | (refine Fr.trans0 ?_ f6) | (refine Fr.alloc ?_ _) | (refine Fr.drew ?_))))
    (first
      | (go_at_call 23; with_reducible refine (H1.out _ (HT.out _ (by with_reducible repeat' first | exact hfr0 | exact Fr.refl _ _ | (refine Fr.drew ?_)))).mono ?_; rintro e w6 ⟨rfl, f6⟩)
      | (go_at_call 23; with_reducible refine (H2.out _ (HT.out _ (by with_reducible repeat' first | exact hfr0 | exact Fr.refl _ _ | (refine Fr.trans0 ?_ f6) | (refine Fr.drew ?_)))).mono ?_; rintro e w7 ⟨rfl, f7⟩)
      | (go_at_call 23; with_reducible refine (H3.out _ (HT.out _ (by with_reducible repeat' first | exact hfr0 | exact Fr.refl _ _ | (refine Fr.trans0 ?_ f7) | (refine Fr.trans0 ?_ f6) | (refine Fr.drew ?_)))).mono ?_; rintro e w8 ⟨rfl, f8⟩)
      | (go_at_call 50; with_reducible refine (H4.out _ (HT.out _ (by with_reducible repeat' first | exact hfr0 | exact Fr.refl _ _ | (refine Fr.trans0 ?_ f8) | (refine Fr.trans0 ?_ f7) | (refine Fr.trans0 ?_ f6) | (refine Fr.drew ?_)))).mono ?_; rintro e w9 ⟨rfl, f9⟩))
  rename_i hHeld
  clear hHeld
  have F9 : Fr [] U w9 := by with_reducible repeat' first | exact hfr0 | exact Fr.refl _ _ | (refine Fr.trans0 ?_ f9) | (refine Fr.trans0 ?_ f8) | (refine Fr.trans0 ?_ f7) | (refine Fr.trans0 ?_ f6) | (refine Fr.drew ?_)
  have FX := Lib.hid (HF.out.trans0 (F9.alloc (.cells #[.string ⟨#[112, 108, 97, 110]⟩, .string (Str (Lib.itoa p.threads)), .string (Str (Lib.itoa p.slots)), .string (Str (Lib.itoa p.levels)), .string (Str (Lib.decDigits p.gen))] 9)))
  clear f6 f7 f8 f9 hfr0 F9
  have BX := Box.new w9 #[.string ⟨#[112, 108, 97, 110]⟩, .string (Str (Lib.itoa p.threads)), .string (Str (Lib.itoa p.slots)), .string (Str (Lib.itoa p.levels)), .string (Str (Lib.decDigits p.gen))] 9
  obtain ⟨X, hX⟩ : ∃ X, w9.alloc (.cells #[.string ⟨#[112, 108, 97, 110]⟩, .string (Str (Lib.itoa p.threads)), .string (Str (Lib.itoa p.slots)), .string (Str (Lib.itoa p.levels)), .string (Str (Lib.decDigits p.gen))] 9) = X := ⟨_, rfl⟩
  have hlt : w9.heap.size < X.heap.size := by rw [← hX, World.size_alloc]; omega
  rw [hX] at FX BX ⊢
  clear hX
  have hpt : planT p = Lib.join ([[112, 108, 97, 110], Lib.itoa p.threads, Lib.itoa p.slots, Lib.itoa p.levels, Lib.decDigits p.gen]) [32] ++ [10] := by simp [planT, Lib.join]
  have e2 : ([[112, 108, 97, 110], Lib.itoa p.threads, Lib.itoa p.slots, Lib.itoa p.levels, Lib.decDigits p.gen].map Str).map (·.data.toList) = [[112, 108, 97, 110], Lib.itoa p.threads, Lib.itoa p.slots, Lib.itoa p.levels, Lib.decDigits p.gen] := by
    rw [List.map_map]; simp [Function.comp_def, Str]
  have JN := Tryd.strings_Join w9.heap.size 0 5 ([[112, 108, 97, 110], Lib.itoa p.threads, Lib.itoa p.slots, Lib.itoa p.levels, Lib.decDigits p.gen].map Str) ⟨#[32]⟩ X (by
    intro j x hx
    have hj : j < 5 := by have := List.getElem?_eq_some_iff.1 hx; simpa using this.1
    have h0 := BX.cell 0
    have h1 := BX.cell 1
    have h2 := BX.cell 2
    have h3 := BX.cell 3
    have h4 := BX.cell 4
    match j, hj with
    | 0, _ => simp at hx; subst hx; exact h0
    | 1, _ => simp at hx; subst hx; exact h1
    | 2, _ => simp at hx; subst hx; exact h2
    | 3, _ => simp at hx; subst hx; exact h3
    | 4, _ => simp at hx; subst hx; exact h4) hlt (by simp) (by simp) (by
      rw [e2]
      have := HL.out
      rw [hpt] at this
      simp only [List.length_append] at this
      exact Nat.le_trans (Nat.le_trans (Nat.le_add_right _ _) this) (by omega))
  rw [e2] at JN
  have hpt2 : Str (planT p) = Str (Lib.join ([[112, 108, 97, 110], Lib.itoa p.threads, Lib.itoa p.slots, Lib.itoa p.levels, Lib.decDigits p.gen]) [32]) ++ ⟨#[10]⟩ := by
    rw [hpt]; apply ByteArray.ext; simp [Str, ByteArray.data_append]
  have hz : (Str (Lib.join ([[112, 108, 97, 110], Lib.itoa p.threads, Lib.itoa p.slots, Lib.itoa p.levels, Lib.decDigits p.gen]) [32])).size ≤ 92 := by
    have := HL.out
    rw [hpt] at this
    simp only [List.length_append] at this
    rw [Str.size]
    omega
  obtain ⟨J, hJ⟩ : ∃ J, Str (Lib.join ([[112, 108, 97, 110], Lib.itoa p.threads, Lib.itoa p.slots, Lib.itoa p.levels, Lib.decDigits p.gen]) [32]) = J := ⟨_, rfl⟩
  have JM : Calls Tryd.prog 56 #[.slice (some ⟨w9.heap.size, 0, none⟩) 5 5, .string ⟨#[32]⟩] X fun e w' => e = .returned (.string J) ∧ Below X.heap.size X w' := by
    rw [← hJ]; exact JN
  rw [hJ] at hz hpt2
  have HJ := Lib.hid JM
  have HP := Lib.hid hpt2
  clear JN JM hpt2 hJ hpt e2 BX hlt H1 H2 H3 H4
  go_wp2_with fail
  refine HJ.out.mono ?_
  rintro e w10 ⟨rfl, hb⟩
  have FZ := Lib.hid (FX.out.trans0 (Fr.of_below hb))
  clear hb HJ
  have y1 : ¬ (9223372036854775807 < J.size + 1) := by omega
  go_wp2
  go_ret
  exact ⟨by rw [HP.out]; rfl, FZ.out⟩
end Go.Proofs.YtkdmodanfcpcfaaDoor

/- DERIVED. Chapter 42: a plan's line, of the document's answer. -/
namespace Go.Proofs.YtkdmodanfcpcfaaDoor
open Go.RowKit

set_option maxRecDepth 20000 in
set_option maxHeartbeats 4000000 in
theorem rhead_any (p : PlanA) (hp : p.ok) (w : World) :
    Calls Tryd.prog 43 #[.agg #[.int .i64 p.threads, .int .i64 p.slots, .int .i64 p.levels, .int .u64 p.gen]] w fun x w' => x = .returned (.string (Str (planT p))) ∧ Fr [] w w' := by
  have F0 : Fr [] w (w.alloc (.cells #[.int .i64 p.threads, .int .i64 p.slots, .int .i64 p.levels, .int .u64 p.gen] 38)) := (Fr.refl _ _).alloc _
  have B0 := Box.new w #[.int .i64 p.threads, .int .i64 p.slots, .int .i64 p.levels, .int .u64 p.gen] 38
  have C1 := fun W => number_any p.threads hp.threads.1 hp.threads.2 W
  have C2 := fun W => number_any p.slots hp.slots.1 hp.slots.2 W
  have C3 := fun W => number_any p.levels hp.levels.1 hp.levels.2 W
  have C4 := fun W => digits_any p.gen hp.gen W
  simp only [Str.lit] at C1 C2 C3 C4
  have s1 := itoa_len p.threads hp.threads.1 hp.threads.2
  have s2 := itoa_len p.slots hp.slots.1 hp.slots.2
  have s3 := itoa_len p.levels hp.levels.1 hp.levels.2
  have s4 := dig_len p.gen hp.gen
  have hres : Str (planT p) = ⟨#[112, 108, 97, 110, 32]⟩ ++ Str (Lib.itoa p.threads) ++ ⟨#[32]⟩ ++ Str (Lib.itoa p.slots) ++ ⟨#[32]⟩ ++ Str (Lib.itoa p.levels) ++ ⟨#[32]⟩ ++ Str (Lib.decDigits p.gen) ++ ⟨#[10]⟩ := by
    apply ByteArray.ext
    simp [Str, planT, ByteArray.data_append]
  obtain ⟨a1, h1⟩ : ∃ a, Str (Lib.itoa p.threads) = a := ⟨_, rfl⟩
  obtain ⟨a2, h2⟩ : ∃ a, Str (Lib.itoa p.slots) = a := ⟨_, rfl⟩
  obtain ⟨a3, h3⟩ : ∃ a, Str (Lib.itoa p.levels) = a := ⟨_, rfl⟩
  obtain ⟨a4, h4⟩ : ∃ a, Str (Lib.decDigits p.gen) = a := ⟨_, rfl⟩
  rw [h1] at C1 s1 hres
  rw [h2] at C2 s2 hres
  rw [h3] at C3 s3 hres
  rw [h4] at C4 s4 hres
  have HR := Lib.hid hres
  have H1 := Lib.hid C1
  have H2 := Lib.hid C2
  have H3 := Lib.hid C3
  have H4 := Lib.hid C4
  clear C1 C2 C3 C4 hp hres h1 h2 h3 h4
  go_enter Tryd.func43, Tryd.ntmps43
  go_upto_region 1 with (fail)
  obtain ⟨g, hgg⟩ : ∃ g, w.heap.size = g := ⟨_, rfl⟩
  obtain ⟨U, hU⟩ : ∃ U, w.alloc (.cells #[.int .i64 p.threads, .int .i64 p.slots, .int .i64 p.levels, .int .u64 p.gen] 38) = U := ⟨_, rfl⟩
  rw [hU] at F0 B0 ⊢
  rw [hgg] at B0 ⊢
  clear hU hgg
  have HS := Lib.hid (show ∀ W, Fr [] U W → W.cell? ⟨g, 0, none⟩ = some (.int .i64 p.threads) ∧ W.cell? ⟨g, 1, none⟩ = some (.int .i64 p.slots) ∧ W.cell? ⟨g, 2, none⟩ = some (.int .i64 p.levels) ∧ W.cell? ⟨g, 3, none⟩ = some (.int .u64 p.gen) from fun W hW =>
    have h := B0.keep0 hW
    ⟨h.cell 0, h.cell 1, h.cell 2, h.cell 3⟩)
  have HF := Lib.hid F0
  have hfr0 := Fr.refl [] U
  clear B0 F0
  have y0 : ¬ (9223372036854775807 < 5 + a1.size) := by omega
  have y1 : ¬ (9223372036854775807 < 5 + a1.size + 1) := by omega
  have y2 : ¬ (9223372036854775807 < 5 + a1.size + 1 + a2.size) := by omega
  have y3 : ¬ (9223372036854775807 < 5 + a1.size + 1 + a2.size + 1) := by omega
  have y4 : ¬ (9223372036854775807 < 5 + a1.size + 1 + a2.size + 1 + a3.size) := by omega
  have y5 : ¬ (9223372036854775807 < 5 + a1.size + 1 + a2.size + 1 + a3.size + 1) := by omega
  have y6 : ¬ (9223372036854775807 < 5 + a1.size + 1 + a2.size + 1 + a3.size + 1 + a4.size) := by omega
  have y7 : ¬ (9223372036854775807 < 5 + a1.size + 1 + a2.size + 1 + a3.size + 1 + a4.size + 1) := by omega
  go_region_held3 (fun W => W.cell? ⟨g, 0, none⟩ = some (.int .i64 p.threads) ∧ W.cell? ⟨g, 1, none⟩ = some (.int .i64 p.slots) ∧ W.cell? ⟨g, 2, none⟩ = some (.int .i64 p.levels) ∧ W.cell? ⟨g, 3, none⟩ = some (.int .u64 p.gen))
    ((refine HS.out _ ?_; (with_reducible repeat' first | exact hfr0 | exact Fr.refl _ _ | (refine Fr.trans0 ?_ f9) | (refine Fr.trans0 ?_ f8) | (refine Fr.trans0 ?_ f7) | (refine Fr.trans0 ?_ f6) | (refine Fr.drew ?_))))
    (first
      | (go_at_call 24; with_reducible refine (H1.out _).mono ?_; rintro e w6 ⟨rfl, f6⟩)
      | (go_at_call 24; with_reducible refine (H2.out _).mono ?_; rintro e w7 ⟨rfl, f7⟩)
      | (go_at_call 24; with_reducible refine (H3.out _).mono ?_; rintro e w8 ⟨rfl, f8⟩)
      | (go_at_call 48; with_reducible refine (H4.out _).mono ?_; rintro e w9 ⟨rfl, f9⟩))
  have F9 : Fr [] U w9 := by with_reducible repeat' first | exact hfr0 | exact Fr.refl _ _ | (refine Fr.trans0 ?_ f9) | (refine Fr.trans0 ?_ f8) | (refine Fr.trans0 ?_ f7) | (refine Fr.trans0 ?_ f6) | (refine Fr.drew ?_)
  have FX := Lib.hid (HF.out.trans0 F9)
  clear f6 f7 f8 f9 hfr0 F9
  go_wp2
  go_ret
  exact ⟨by rw [HR.out]; rfl, FX.out⟩
end Go.Proofs.YtkdmodanfcpcfaaDoor
