/- DERIVED. Chapter 51: awake, and the law's walk. -/
import Derived.Test.YtkdmodanfcpcfaaDoorRefRec
namespace Go.Proofs.YtkdmodanfcpcfaaDoor
open Go.RowKit

def r51 : RecA := ⟨0, ⟨1, 5, 0, 0, 0⟩, 1, 20, true, ⟨0, true, 1, none, 0, 0⟩, none, 0, 0⟩
theorem dig1 {i : Nat} (h : i < 10) : Lib.itoa (i : Int) = [UInt8.ofNat (48 + i)] := by rw [Lib.itoa_nonneg, Lib.decDigits_one h]
theorem rec51 : Str (recordT r51 []) = ⟨#[48, 32, 115, 116, 97, 114, 116, 32, 53, 32, 48, 32, 102, 114, 111, 109, 32, 49, 32, 116, 111, 32, 50, 48, 58, 32, 104, 97, 110, 100, 108, 101, 32, 48, 46, 49, 10]⟩ := by
  have e0 : Lib.itoa 0 = [48] := dig1 (i := 0) (by omega)
  have e5 : Lib.itoa 5 = [53] := dig1 (i := 5) (by omega)
  have e1 : Lib.itoa 1 = [49] := dig1 (i := 1) (by omega)
  have e20 : Lib.itoa 20 = [50, 48] := by
    rw [show (20 : Int) = ((20 : Nat) : Int) from rfl, Lib.itoa_nonneg, Lib.decDigits_two (by omega) (by omega)]; rfl
  have d0 : Lib.decDigits 0 = [48] := Lib.decDigits_one (by omega)
  have d1 : Lib.decDigits 1 = [49] := Lib.decDigits_one (by omega)
  have hh : handleT 1 = [48, 46, 49] := by simp [handleT, hiN, loN, d0, d1]
  refine ByteArray.ext ?_
  simp [recordT, r51, headT, callT, joinT_eq, fieldT, answerT, Str, e0, e5, e1, e20, d0, hh]
theorem err51 : Str (errT 3) = ⟨#[102, 117, 108, 108]⟩ := rfl

set_option maxRecDepth 20000 in
set_option maxHeartbeats 2000000 in
theorem awake51 (w : World) (ht : Tab w) : Calls Tryd.prog 7 #[] w fun e w' => e = .returned (.bool true) ∧ Fr [] w w' := by
  have R := fun W (hW : Fr [] w W) => record_any r51 [] W (ht.keep hW) ⟨by simp [r51], ⟨by simp [r51], by simp [r51], by simp [r51], by simp [r51], by simp [r51]⟩, by simp [r51], by simp [r51], ⟨by simp [r51], by simp [r51]⟩⟩ ⟨0, 0, ⟨none, 0, rfl, by simp, by simp, by simp⟩, by simp, by simp⟩ (by simp) (by simp)
  have E := fun W (hW : Fr [] w W) => error_any 3 (by omega) (by omega) W (ht.keep hW)
  rw [rec51] at R
  rw [err51] at E
  simp only [r51] at R
  have HR := Lib.hid (And.intro R E)
  clear R E ht
  have F0 : Fr [] w (w.alloc (.cells #[.int .i64 0, .int .i64 1, .int .i64 5, .int .u64 0, .int .u64 0, .int .i64 0, .int .i64 1, .int .i64 20, .bool true, .int .i64 0, .bool true, .int .u64 1, .slice none 0 0, .slice none 0 0] 31)) := (Fr.refl _ _).alloc _
  have HF := Lib.hid F0
  clear F0
  go_enter Tryd.func7, Tryd.ntmps7
  go_wp2_with fail
  refine (HR.out.1 _ HF.out).mono ?_
  rintro e w1 ⟨rfl, f1⟩
  have H1 := Lib.hid (HF.out.trans0 f1)
  clear f1 HF
  go_wp2_with fail
  refine (HR.out.2 _ H1.out).mono ?_
  rintro e w2 ⟨rfl, f2⟩
  have H2 := Lib.hid (H1.out.trans0 f2)
  clear f2 H1 HR
  go_wp2
  go_ret
  exact ⟨rfl, H2.out⟩

set_option maxRecDepth 20000 in
set_option maxHeartbeats 2000000 in
theorem story_long (x : Int) (r : RecA) (h100 : 100 < r.ans.bn) (w : World) (ht : Tab w) :
    Calls Tryd.prog 3 #[.int .i64 x, .agg #[.int .i64 r.thread, .int .i64 r.call.kind, .int .i64 r.call.deadline, .int .u64 r.call.draw, .int .u64 r.call.handle, .int .i64 r.call.count, .int .i64 r.beg, .int .i64 r.fin, .bool r.done, .int .i64 r.ans.err, .bool r.ans.ok, .int .u64 r.ans.handle, .slice r.ans.ba r.ans.bn r.ans.bc, .slice r.aa r.an r.ac]] w fun e w' => e = .returned (.bool true) ∧ Fr [] w w' := by
  have F0 : Fr [] w (w.alloc (.cells #[.int .i64 r.thread, .int .i64 r.call.kind, .int .i64 r.call.deadline, .int .u64 r.call.draw, .int .u64 r.call.handle, .int .i64 r.call.count, .int .i64 r.beg, .int .i64 r.fin, .bool r.done, .int .i64 r.ans.err, .bool r.ans.ok, .int .u64 r.ans.handle, .slice r.ans.ba r.ans.bn r.ans.bc, .slice r.aa r.an r.ac] 31)) := (Fr.refl _ _).alloc _
  have AW := awake51 _ (ht.keep F0)
  have HA := Lib.hid (And.intro F0 AW)
  have d1 : decide ((100 : Int) < r.ans.bn) = true := by simp; omega
  have d2 : (100 : Int) < r.ans.bn := by omega
  clear F0 AW ht
  go_enter Tryd.func3, Tryd.ntmps3
  go_wp2_with fail
  refine HA.out.2.mono ?_
  rintro e w1 ⟨rfl, f1⟩
  have H1 := Lib.hid (HA.out.1.trans0 f1)
  clear f1 HA
  go_wp2
  go_ret
  exact ⟨rfl, H1.out⟩

set_option maxRecDepth 20000 in
set_option maxHeartbeats 4000000 in
theorem story_core (x : Int) (hx0 : -9223372036854775808 ≤ x) (hx1 : x ≤ 9223372036854775807) (r : RecA) (l : List DueR) (w : World) (ht : Tab w) (hr : r.good) (hb : Rd encDue w (.slice r.ans.ba r.ans.bn r.ans.bc) l) (hl : ∀ d ∈ l, d.ok) (hn : l.length ≤ 100) (hbn : r.ans.bn = l.length) :
    Calls Tryd.prog 3 #[.int .i64 x, .agg #[.int .i64 r.thread, .int .i64 r.call.kind, .int .i64 r.call.deadline, .int .u64 r.call.draw, .int .u64 r.call.handle, .int .i64 r.call.count, .int .i64 r.beg, .int .i64 r.fin, .bool r.done, .int .i64 r.ans.err, .bool r.ans.ok, .int .u64 r.ans.handle, .slice r.ans.ba r.ans.bn r.ans.bc, .slice r.aa r.an r.ac]] w fun e w' => e = .returned (.bool true) ∧ Fr [] w w' := by
  have F0 : Fr [] w (w.alloc (.cells #[.int .i64 r.thread, .int .i64 r.call.kind, .int .i64 r.call.deadline, .int .u64 r.call.draw, .int .u64 r.call.handle, .int .i64 r.call.count, .int .i64 r.beg, .int .i64 r.fin, .bool r.done, .int .i64 r.ans.err, .bool r.ans.ok, .int .u64 r.ans.handle, .slice r.ans.ba r.ans.bn r.ans.bc, .slice r.aa r.an r.ac] 31)) := (Fr.refl _ _).alloc _
  have B0 := Box.new w #[.int .i64 r.thread, .int .i64 r.call.kind, .int .i64 r.call.deadline, .int .u64 r.call.draw, .int .u64 r.call.handle, .int .i64 r.call.count, .int .i64 r.beg, .int .i64 r.fin, .bool r.done, .int .i64 r.ans.err, .bool r.ans.ok, .int .u64 r.ans.handle, .slice r.ans.ba r.ans.bn r.ans.bc, .slice r.aa r.an r.ac] 31
  have d1 : decide ((100 : Int) < r.ans.bn) = false := by simp; omega
  have d2 : (r.ans.bn : Int) ≤ 100 := by omega
  clear hbn
  go_enter Tryd.func3, Tryd.ntmps3
  go_upto_region 3 with (fail)
  obtain ⟨g, hg⟩ : ∃ g, w.heap.size = g := ⟨_, rfl⟩
  rw [hg] at B0 ⊢
  clear hg
  obtain ⟨u, hu⟩ : ∃ u, w.alloc (.cells #[.int .i64 r.thread, .int .i64 r.call.kind, .int .i64 r.call.deadline, .int .u64 r.call.draw, .int .u64 r.call.handle, .int .i64 r.call.count, .int .i64 r.beg, .int .i64 r.fin, .bool r.done, .int .i64 r.ans.err, .bool r.ans.ok, .int .u64 r.ans.handle, .slice r.ans.ba r.ans.bn r.ans.bc, .slice r.aa r.an r.ac] 31) = u := ⟨_, rfl⟩
  rw [hu] at F0 B0 ⊢
  clear hu
  have tu := ht.keep F0
  have hbu := hb.keep0 F0
  have C1 := fun W (hW : Fr [] u W) => error_any x hx0 hx1 W (tu.keep hW)
  have C2 := fun W => refError_any x hx0 hx1 W
  have C3 := fun W (hW : Fr [] u W) => answer_any r.call r.ans l W (tu.keep hW) hr.ans (hbu.keep0 hW) hl hn
  have C4 := fun W (hW : Fr [] u W) => refAnswer_any r.call r.ans l W hr.ans (hbu.keep0 hW) hl hn
  have C5 := fun W (hW : Fr [] u W) => record_any r l W (tu.keep hW) hr (hbu.keep0 hW) hl hn
  have C6 := fun W (hW : Fr [] u W) => refRecord_any r l W hr (hbu.keep0 hW) hl hn
  have C7 := fun W (hW : Fr [] u W) => awake51 W (tu.keep hW)
  obtain ⟨a1, h1⟩ : ∃ p, Str (errT x) = p := ⟨_, rfl⟩
  obtain ⟨a2, h2⟩ : ∃ p, Str (answerT r.call r.ans l) = p := ⟨_, rfl⟩
  obtain ⟨a3, h3⟩ : ∃ p, Str (recordT r l) = p := ⟨_, rfl⟩
  rw [h1] at C1 C2
  rw [h2] at C3 C4
  rw [h3] at C5 C6
  have facts : ∀ W, Fr [] u W → (W.cell? ⟨g, 0, none⟩ = some (.int .i64 r.thread) ∧ W.cell? ⟨g, 1, none⟩ = some (.int .i64 r.call.kind) ∧ W.cell? ⟨g, 2, none⟩ = some (.int .i64 r.call.deadline) ∧ W.cell? ⟨g, 3, none⟩ = some (.int .u64 r.call.draw) ∧ W.cell? ⟨g, 4, none⟩ = some (.int .u64 r.call.handle) ∧ W.cell? ⟨g, 5, none⟩ = some (.int .i64 r.call.count) ∧ W.cell? ⟨g, 6, none⟩ = some (.int .i64 r.beg) ∧ W.cell? ⟨g, 7, none⟩ = some (.int .i64 r.fin) ∧ W.cell? ⟨g, 8, none⟩ = some (.bool r.done) ∧ W.cell? ⟨g, 9, none⟩ = some (.int .i64 r.ans.err) ∧ W.cell? ⟨g, 10, none⟩ = some (.bool r.ans.ok) ∧ W.cell? ⟨g, 11, none⟩ = some (.int .u64 r.ans.handle) ∧ W.cell? ⟨g, 12, none⟩ = some (.slice r.ans.ba r.ans.bn r.ans.bc) ∧ W.cell? ⟨g, 13, none⟩ = some (.slice r.aa r.an r.ac)) := by
    intro W hW
    have B := (B0.keep0 hW).cell
    exact ⟨B 0, B 1, B 2, B 3, B 4, B 5, B 6, B 7, B 8, B 9, B 10, B 11, B 12, B 13⟩
  have FA := Lib.hid facts
  have HC1 := Lib.hid C1
  have HC2 := Lib.hid C2
  have HC3 := Lib.hid C3
  have HC4 := Lib.hid C4
  have HC5 := Lib.hid C5
  have HC6 := Lib.hid C6
  have HC7 := Lib.hid C7
  have HF := Lib.hid F0
  have hfr0 : Fr [] u u.drew := (Fr.refl _ _).drew
  clear C1 C2 C3 C4 C5 C6 C7 h1 h2 h3 facts F0 B0 hr hb hl tu hbu ht hx0 hx1 d1
  go_region_held3 (fun W => (W.cell? ⟨g, 0, none⟩ = some (.int .i64 r.thread) ∧ W.cell? ⟨g, 1, none⟩ = some (.int .i64 r.call.kind) ∧ W.cell? ⟨g, 2, none⟩ = some (.int .i64 r.call.deadline) ∧ W.cell? ⟨g, 3, none⟩ = some (.int .u64 r.call.draw) ∧ W.cell? ⟨g, 4, none⟩ = some (.int .u64 r.call.handle) ∧ W.cell? ⟨g, 5, none⟩ = some (.int .i64 r.call.count) ∧ W.cell? ⟨g, 6, none⟩ = some (.int .i64 r.beg) ∧ W.cell? ⟨g, 7, none⟩ = some (.int .i64 r.fin) ∧ W.cell? ⟨g, 8, none⟩ = some (.bool r.done) ∧ W.cell? ⟨g, 9, none⟩ = some (.int .i64 r.ans.err) ∧ W.cell? ⟨g, 10, none⟩ = some (.bool r.ans.ok) ∧ W.cell? ⟨g, 11, none⟩ = some (.int .u64 r.ans.handle) ∧ W.cell? ⟨g, 12, none⟩ = some (.slice r.ans.ba r.ans.bn r.ans.bc) ∧ W.cell? ⟨g, 13, none⟩ = some (.slice r.aa r.an r.ac)))
    ((refine FA.out _ ?_; (with_reducible repeat' first | exact hfr0 | exact Fr.refl _ _ | (refine Fr.trans0 ?_ f7) | (refine Fr.trans0 ?_ f6) | (refine Fr.trans0 ?_ f5) | (refine Fr.trans0 ?_ f4) | (refine Fr.trans0 ?_ f3) | (refine Fr.trans0 ?_ f2) | (refine Fr.trans0 ?_ f1) | (refine Fr.alloc ?_ _) | (refine Fr.drew ?_))))
    (first
      | (go_at_call 8; with_reducible refine (HC1.out _ (by (with_reducible repeat' first | exact hfr0 | exact Fr.refl _ _ | (refine Fr.trans0 ?_ f7) | (refine Fr.trans0 ?_ f6) | (refine Fr.trans0 ?_ f5) | (refine Fr.trans0 ?_ f4) | (refine Fr.trans0 ?_ f3) | (refine Fr.trans0 ?_ f2) | (refine Fr.trans0 ?_ f1) | (refine Fr.alloc ?_ _) | (refine Fr.drew ?_)))).mono ?_; rintro e w1 ⟨rfl, f1⟩)
      | (go_at_call 9; with_reducible refine (HC2.out _).mono ?_; rintro e w2 ⟨rfl, f2⟩)
      | (go_at_call 10; with_reducible refine (HC3.out _ (by (with_reducible repeat' first | exact hfr0 | exact Fr.refl _ _ | (refine Fr.trans0 ?_ f7) | (refine Fr.trans0 ?_ f6) | (refine Fr.trans0 ?_ f5) | (refine Fr.trans0 ?_ f4) | (refine Fr.trans0 ?_ f3) | (refine Fr.trans0 ?_ f2) | (refine Fr.trans0 ?_ f1) | (refine Fr.alloc ?_ _) | (refine Fr.drew ?_)))).mono ?_; rintro e w3 ⟨rfl, f3⟩)
      | (go_at_call 11; with_reducible refine (HC4.out _ (by (with_reducible repeat' first | exact hfr0 | exact Fr.refl _ _ | (refine Fr.trans0 ?_ f7) | (refine Fr.trans0 ?_ f6) | (refine Fr.trans0 ?_ f5) | (refine Fr.trans0 ?_ f4) | (refine Fr.trans0 ?_ f3) | (refine Fr.trans0 ?_ f2) | (refine Fr.trans0 ?_ f1) | (refine Fr.alloc ?_ _) | (refine Fr.drew ?_)))).mono ?_; rintro e w4 ⟨rfl, f4⟩)
      | (go_at_call 12; with_reducible refine (HC5.out _ (by (with_reducible repeat' first | exact hfr0 | exact Fr.refl _ _ | (refine Fr.trans0 ?_ f7) | (refine Fr.trans0 ?_ f6) | (refine Fr.trans0 ?_ f5) | (refine Fr.trans0 ?_ f4) | (refine Fr.trans0 ?_ f3) | (refine Fr.trans0 ?_ f2) | (refine Fr.trans0 ?_ f1) | (refine Fr.alloc ?_ _) | (refine Fr.drew ?_)))).mono ?_; rintro e w5 ⟨rfl, f5⟩)
      | (go_at_call 13; with_reducible refine (HC6.out _ (by (with_reducible repeat' first | exact hfr0 | exact Fr.refl _ _ | (refine Fr.trans0 ?_ f7) | (refine Fr.trans0 ?_ f6) | (refine Fr.trans0 ?_ f5) | (refine Fr.trans0 ?_ f4) | (refine Fr.trans0 ?_ f3) | (refine Fr.trans0 ?_ f2) | (refine Fr.trans0 ?_ f1) | (refine Fr.alloc ?_ _) | (refine Fr.drew ?_)))).mono ?_; rintro e w6 ⟨rfl, f6⟩)
      | (go_at_call 7; with_reducible refine (HC7.out _ (by (with_reducible repeat' first | exact hfr0 | exact Fr.refl _ _ | (refine Fr.trans0 ?_ f7) | (refine Fr.trans0 ?_ f6) | (refine Fr.trans0 ?_ f5) | (refine Fr.trans0 ?_ f4) | (refine Fr.trans0 ?_ f3) | (refine Fr.trans0 ?_ f2) | (refine Fr.trans0 ?_ f1) | (refine Fr.alloc ?_ _) | (refine Fr.drew ?_)))).mono ?_; rintro e w7 ⟨rfl, f7⟩))
  have HR : Fr [] w w7 := by
    refine HF.out.trans0 ?_
    (with_reducible repeat' first | exact hfr0 | exact Fr.refl _ _ | (refine Fr.trans0 ?_ f7) | (refine Fr.trans0 ?_ f6) | (refine Fr.trans0 ?_ f5) | (refine Fr.trans0 ?_ f4) | (refine Fr.trans0 ?_ f3) | (refine Fr.trans0 ?_ f2) | (refine Fr.trans0 ?_ f1) | (refine Fr.alloc ?_ _) | (refine Fr.drew ?_))
  have HG := Lib.hid HR
  clear HR f1 f2 f3 f4 f5 f6 f7 FA HC1 HC2 HC3 HC4 HC5 HC6 HC7 hfr0
  go_wp2
  go_ret
  exact ⟨rfl, HG.out⟩
end Go.Proofs.YtkdmodanfcpcfaaDoor
