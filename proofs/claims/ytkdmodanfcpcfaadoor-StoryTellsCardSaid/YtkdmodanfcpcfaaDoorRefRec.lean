/- DERIVED. Chapter 51: a record's line, of the reference. -/
import Derived.Test.YtkdmodanfcpcfaaDoorRecT
namespace Go.Proofs.YtkdmodanfcpcfaaDoor
open Go.RowKit

set_option maxRecDepth 20000 in
set_option maxHeartbeats 4000000 in
theorem refRecord_any (r : RecA) (l : List DueR) (w : World) (hr : r.good) (hb : Rd encDue w (.slice r.ans.ba r.ans.bn r.ans.bc) l) (hl : ∀ d ∈ l, d.ok) (hn : l.length ≤ 100) :
    Calls Tryd.prog 13 #[.agg #[.int .i64 r.thread, .int .i64 r.call.kind, .int .i64 r.call.deadline, .int .u64 r.call.draw, .int .u64 r.call.handle, .int .i64 r.call.count, .int .i64 r.beg, .int .i64 r.fin, .bool r.done, .int .i64 r.ans.err, .bool r.ans.ok, .int .u64 r.ans.handle, .slice r.ans.ba r.ans.bn r.ans.bc, .slice r.aa r.an r.ac]] w fun e w' =>
      e = .returned (.string (Str (recordT r l))) ∧ Fr [] w w' := by
  have F0 : Fr [] w (w.alloc (.cells #[.int .i64 r.thread, .int .i64 r.call.kind, .int .i64 r.call.deadline, .int .u64 r.call.draw, .int .u64 r.call.handle, .int .i64 r.call.count, .int .i64 r.beg, .int .i64 r.fin, .bool r.done, .int .i64 r.ans.err, .bool r.ans.ok, .int .u64 r.ans.handle, .slice r.ans.ba r.ans.bn r.ans.bc, .slice r.aa r.an r.ac] 31)) := (Fr.refl _ _).alloc _
  have B0 := Box.new w #[.int .i64 r.thread, .int .i64 r.call.kind, .int .i64 r.call.deadline, .int .u64 r.call.draw, .int .u64 r.call.handle, .int .i64 r.call.count, .int .i64 r.beg, .int .i64 r.fin, .bool r.done, .int .i64 r.ans.err, .bool r.ans.ok, .int .u64 r.ans.handle, .slice r.ans.ba r.ans.bn r.ans.bc, .slice r.aa r.an r.ac] 31
  have C1 := fun W => number_any r.thread hr.thread.1 hr.thread.2 W
  have C2 := fun W => refCall_any r.call hr.call W
  have C3 := fun W => number_any r.beg hr.beg.1 hr.beg.2 W
  have s1 := itoa_len r.thread hr.thread.1 hr.thread.2
  have s2 := callT_len hr.call
  have s3 := itoa_len r.beg hr.beg.1 hr.beg.2
  have hhd : Str (headT r) = Str (Lib.itoa r.thread) ++ ⟨#[32]⟩ ++ Str (callT r.call) ++ ⟨#[32, 102, 114, 111, 109, 32]⟩ ++ Str (Lib.itoa r.beg) := ByteArray.ext (by simp [headT, Str, ByteArray.data_append])
  simp only [Str.lit] at C1 C3
  obtain ⟨p, hp⟩ : ∃ p, Str (headT r) = p := ⟨_, rfl⟩
  obtain ⟨a1, h1⟩ : ∃ p, Str (Lib.itoa r.thread) = p := ⟨_, rfl⟩
  obtain ⟨a2, h2⟩ : ∃ p, Str (callT r.call) = p := ⟨_, rfl⟩
  obtain ⟨a3, h3⟩ : ∃ p, Str (Lib.itoa r.beg) = p := ⟨_, rfl⟩
  rw [hp, h1, h2, h3] at hhd
  rw [h1] at C1 s1
  rw [h2] at C2 s2
  rw [h3] at C3 s3
  have z1 : ¬ (9223372036854775807 < a1.size + 1) := by omega
  have z2 : ¬ (9223372036854775807 < a1.size + 1 + a2.size) := by omega
  have z3 : ¬ (9223372036854775807 < a1.size + 1 + a2.size + 6) := by omega
  have z4 : ¬ (9223372036854775807 < a1.size + 1 + a2.size + 6 + a3.size) := by omega
  have HC1 := Lib.hid C1
  have HC2 := Lib.hid C2
  have HC3 := Lib.hid C3
  have HH := Lib.hid (And.intro hr (And.intro hb (And.intro hl (And.intro hhd hp))))
  clear C1 C2 C3 h1 h2 h3 hhd hp hr hb hl
  go_enter Tryd.func13, Tryd.ntmps13
  go_upto_region 1 with (fail)
  obtain ⟨g, hg⟩ : ∃ g, w.heap.size = g := ⟨_, rfl⟩
  rw [hg] at B0 ⊢
  clear hg
  obtain ⟨u, hu⟩ : ∃ u, w.alloc (.cells #[.int .i64 r.thread, .int .i64 r.call.kind, .int .i64 r.call.deadline, .int .u64 r.call.draw, .int .u64 r.call.handle, .int .i64 r.call.count, .int .i64 r.beg, .int .i64 r.fin, .bool r.done, .int .i64 r.ans.err, .bool r.ans.ok, .int .u64 r.ans.handle, .slice r.ans.ba r.ans.bn r.ans.bc, .slice r.aa r.an r.ac] 31) = u := ⟨_, rfl⟩
  rw [hu] at F0 B0 ⊢
  clear hu
  have facts : ∀ W, Fr [] u W → (W.cell? ⟨g, 0, none⟩ = some (.int .i64 r.thread) ∧ W.cell? ⟨g, 1, none⟩ = some (.int .i64 r.call.kind) ∧ W.cell? ⟨g, 2, none⟩ = some (.int .i64 r.call.deadline) ∧ W.cell? ⟨g, 3, none⟩ = some (.int .u64 r.call.draw) ∧ W.cell? ⟨g, 4, none⟩ = some (.int .u64 r.call.handle) ∧ W.cell? ⟨g, 5, none⟩ = some (.int .i64 r.call.count) ∧ W.cell? ⟨g, 6, none⟩ = some (.int .i64 r.beg)) := by
    intro W hW
    have B := (B0.keep0 hW).cell
    exact ⟨B 0, B 1, B 2, B 3, B 4, B 5, B 6⟩
  have FA := Lib.hid facts
  have HB := Lib.hid (And.intro F0 B0)
  have hfr0 : Fr [] u u.drew := (Fr.refl _ _).drew
  clear facts F0 B0
  go_region_held3 (fun W => (W.cell? ⟨g, 0, none⟩ = some (.int .i64 r.thread) ∧ W.cell? ⟨g, 1, none⟩ = some (.int .i64 r.call.kind) ∧ W.cell? ⟨g, 2, none⟩ = some (.int .i64 r.call.deadline) ∧ W.cell? ⟨g, 3, none⟩ = some (.int .u64 r.call.draw) ∧ W.cell? ⟨g, 4, none⟩ = some (.int .u64 r.call.handle) ∧ W.cell? ⟨g, 5, none⟩ = some (.int .i64 r.call.count) ∧ W.cell? ⟨g, 6, none⟩ = some (.int .i64 r.beg)))
    ((refine FA.out _ ?_; (with_reducible repeat' first | exact hfr0 | exact Fr.refl _ _ | (refine Fr.trans0 ?_ f8) | (refine Fr.trans0 ?_ f7) | (refine Fr.trans0 ?_ f6) | (refine Fr.alloc ?_ _) | (refine Fr.drew ?_))))
    (first
      | (go_at_call 24; with_reducible refine (HC1.out _).mono ?_; rintro e w6 ⟨rfl, f6⟩)
      | (go_at_call 32; with_reducible refine (HC2.out _).mono ?_; rintro e w7 ⟨rfl, f7⟩)
      | (go_at_call 24; with_reducible refine (HC3.out _).mono ?_; rintro e w8 ⟨rfl, f8⟩))
  have FR : Fr [] u w8 := by (with_reducible repeat' first | exact hfr0 | exact Fr.refl _ _ | (refine Fr.trans0 ?_ f8) | (refine Fr.trans0 ?_ f7) | (refine Fr.trans0 ?_ f6) | (refine Fr.alloc ?_ _) | (refine Fr.drew ?_))
  rename_i hHeld
  obtain ⟨hr, hb, hl, hhd, hp⟩ := HH.out
  have B1 := HB.out.2.keep0 FR
  have F2 := HB.out.1.trans0 FR
  have hb1 := hb.keep0 F2
  rw [← hhd]
  have s0 := head_len hr
  rw [hp] at s0
  clear hHeld FA HC1 HC2 HC3 hfr0 z1 z2 z3 z4 HH hb hhd HB FR f6 f7 f8 s1 s2 s3
  cases hd : r.done
  · have b1 := B1.cell
    rw [hd] at b1
    have he : Str (recordT r l) = p ++ ⟨#[58, 32, 117, 110, 100, 101, 114, 32, 119, 97, 121, 10]⟩ := by
      unfold recordT; rw [if_pos hd, ← hp]; exact ByteArray.ext (by simp [Str, ByteArray.data_append])
    have HE := Lib.hid (And.intro he F2)
    clear he F2 hp hd hb1 hr hl B1
    go_wp2
    go_ret
    exact ⟨ret_str HE.out.1.symm, HE.out.2⟩
  · have he : Str (recordT r l) = p ++ ⟨#[32, 116, 111, 32]⟩ ++ Str (Lib.itoa r.fin) ++ ⟨#[58, 32]⟩ ++ Str (answerT r.call r.ans l) ++ ⟨#[10]⟩ := by
      unfold recordT; rw [if_neg (by simp [hd]), ← hp]; exact ByteArray.ext (by simp [Str, ByteArray.data_append])
    have C4 := fun W => number_any r.fin hr.fin.1 hr.fin.2 W
    have C5 := fun W (hW : Fr [] w8 W) => refAnswer_any r.call r.ans l W hr.ans (hb1.keep0 hW) hl hn
    have s5 := itoa_len r.fin hr.fin.1 hr.fin.2
    have s6 := answer_len r.call hr.ans hl hn
    simp only [Str.lit] at C4
    obtain ⟨a5, h5⟩ : ∃ p, Str (Lib.itoa r.fin) = p := ⟨_, rfl⟩
    obtain ⟨a6, h6⟩ : ∃ p, Str (answerT r.call r.ans l) = p := ⟨_, rfl⟩
    rw [h5] at C4 s5 he
    rw [h6] at C5 s6 he
    have z1 : ¬ (9223372036854775807 < p.size + 4) := by omega
    have z2 : ¬ (9223372036854775807 < p.size + 4 + a5.size) := by omega
    have z3 : ¬ (9223372036854775807 < p.size + 4 + a5.size + 2) := by omega
    have z4 : ¬ (9223372036854775807 < p.size + 4 + a5.size + 2 + a6.size) := by omega
    have z5 : ¬ (9223372036854775807 < p.size + 4 + a5.size + 2 + a6.size + 1) := by omega
    have facts : ∀ W, Fr [] w8 W → (W.cell? ⟨g, 1, none⟩ = some (.int .i64 r.call.kind) ∧ W.cell? ⟨g, 2, none⟩ = some (.int .i64 r.call.deadline) ∧ W.cell? ⟨g, 3, none⟩ = some (.int .u64 r.call.draw) ∧ W.cell? ⟨g, 4, none⟩ = some (.int .u64 r.call.handle) ∧ W.cell? ⟨g, 5, none⟩ = some (.int .i64 r.call.count) ∧ W.cell? ⟨g, 7, none⟩ = some (.int .i64 r.fin) ∧
        W.cell? ⟨g, 9, none⟩ = some (.int .i64 r.ans.err) ∧ W.cell? ⟨g, 10, none⟩ = some (.bool r.ans.ok) ∧ W.cell? ⟨g, 11, none⟩ = some (.int .u64 r.ans.handle) ∧ W.cell? ⟨g, 12, none⟩ = some (.slice r.ans.ba r.ans.bn r.ans.bc)) := by
      intro W hW
      have B := (B1.keep0 hW).cell
      exact ⟨B 1, B 2, B 3, B 4, B 5, B 7, B 9, B 10, B 11, B 12⟩
    have b1 := B1.cell
    rw [hd] at b1
    have FA := Lib.hid facts
    have HC4 := Lib.hid C4
    have HC5 := Lib.hid C5
    have HE := Lib.hid (And.intro he F2)
    have hfr1 : Fr [] w8 w8.drew := (Fr.refl _ _).drew
    clear he F2 hp hd hb1 hr hl B1 C4 C5 facts h5 h6
    go_wp2_with fail
    clear b1
    go_region_held3 (fun W => (W.cell? ⟨g, 1, none⟩ = some (.int .i64 r.call.kind) ∧ W.cell? ⟨g, 2, none⟩ = some (.int .i64 r.call.deadline) ∧ W.cell? ⟨g, 3, none⟩ = some (.int .u64 r.call.draw) ∧ W.cell? ⟨g, 4, none⟩ = some (.int .u64 r.call.handle) ∧ W.cell? ⟨g, 5, none⟩ = some (.int .i64 r.call.count) ∧ W.cell? ⟨g, 7, none⟩ = some (.int .i64 r.fin) ∧
        W.cell? ⟨g, 9, none⟩ = some (.int .i64 r.ans.err) ∧ W.cell? ⟨g, 10, none⟩ = some (.bool r.ans.ok) ∧ W.cell? ⟨g, 11, none⟩ = some (.int .u64 r.ans.handle) ∧ W.cell? ⟨g, 12, none⟩ = some (.slice r.ans.ba r.ans.bn r.ans.bc)))
      ((refine FA.out _ ?_; (with_reducible repeat' first | exact hfr1 | exact Fr.refl _ _ | (refine Fr.trans0 ?_ f10) | (refine Fr.trans0 ?_ f9) | (refine Fr.alloc ?_ _) | (refine Fr.drew ?_))))
      (first
        | (go_at_call 24; with_reducible refine (HC4.out _).mono ?_; rintro e w9 ⟨rfl, f9⟩)
        | (go_at_call 11; with_reducible refine (HC5.out _ (by with_reducible repeat' first | exact hfr1 | exact Fr.refl _ _ | (refine Fr.trans0 ?_ f9) | (refine Fr.alloc ?_ _) | (refine Fr.drew ?_))).mono ?_; rintro e w10 ⟨rfl, f10⟩))
    have HF : Fr [] w w10 := by
      refine HE.out.2.trans0 ?_
      with_reducible repeat' first | exact hfr1 | exact Fr.refl _ _ | (refine Fr.trans0 ?_ f10) | (refine Fr.trans0 ?_ f9) | (refine Fr.alloc ?_ _) | (refine Fr.drew ?_)
    have HG := Lib.hid HF
    clear HF f9 f10 FA HC4 HC5 hfr1
    go_wp2
    go_ret
    exact ⟨ret_str HE.out.1.symm, HG.out⟩
end Go.Proofs.YtkdmodanfcpcfaaDoor
