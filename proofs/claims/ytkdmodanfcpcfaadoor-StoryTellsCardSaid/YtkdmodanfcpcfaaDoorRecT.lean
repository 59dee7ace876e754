/- DERIVED. Chapter 51: a record's line, of the program. -/
import Derived.Test.YtkdmodanfcpcfaaDoorAns
import Derived.Deep.CutRange
namespace Go.Proofs.YtkdmodanfcpcfaaDoor
open Go.RowKit

structure RecA where
  thread : Int
  call : CallA
  beg : Int
  fin : Int
  done : Bool
  ans : AnsA
  aa : Option Addr
  an : Nat
  ac : Nat
structure RecA.good (r : RecA) : Prop where
  thread : -9223372036854775808 ≤ r.thread ∧ r.thread ≤ 9223372036854775807
  call : r.call.ok
  beg : -9223372036854775808 ≤ r.beg ∧ r.beg ≤ 9223372036854775807
  fin : -9223372036854775808 ≤ r.fin ∧ r.fin ≤ 9223372036854775807
  ans : r.ans.good
def headT (r : RecA) : List UInt8 := Lib.itoa r.thread ++ 32 :: callT r.call ++ [32, 102, 114, 111, 109] ++ 32 :: Lib.itoa r.beg
def recordT (r : RecA) (l : List DueR) : List UInt8 :=
  if r.done = false then headT r ++ [58, 32, 117, 110, 100, 101, 114, 32, 119, 97, 121, 10] else headT r ++ [32, 116, 111] ++ 32 :: Lib.itoa r.fin ++ [58, 32] ++ answerT r.call r.ans l ++ [10]
theorem head_eq (r : RecA) : Str (headT r) = Str (wordsT (Lib.itoa r.thread) [callT r.call, [102, 114, 111, 109]]) ++ Str (wordsI [] [r.beg]) := by
  rw [Str.app]; simp [headT, wordsT, wordsI]
theorem head_len {r : RecA} (h : r.good) : (Str (headT r)).size ≤ 300 := by
  have h1 := itoa_len r.thread h.thread.1 h.thread.2
  have h2 := callT_len h.call
  have h3 := itoa_len r.beg h.beg.1 h.beg.2
  rw [Str.size] at h1 h2 h3 ⊢
  simp [headT]; omega

theorem two_str (w : World) (x y : List UInt8) (g : Nat) (hg : g = w.heap.size) : Rd encS (w.alloc (.cells #[.string (Str x), .string (Str y)] 9)) (.slice (some ⟨g, 0, none⟩) 2 2) [x, y] := by
  subst hg
  have h : Own encS 9 (w.alloc (.cells #[.string (Str x), .string (Str y)] 9)) (.slice (some ⟨w.heap.size, 0, none⟩) 2 2) [x, y] := Own.lit (xs := [x, y]) (heap_alloc_new w _) rfl (by simp [maxLen])
  obtain ⟨g, h⟩ := h.rd; exact ⟨g, 0, h⟩
theorem one_int (w : World) (n : Int) (g : Nat) (hg : g = w.heap.size) : Rd encI (w.alloc (.cells #[.int .i64 n] 3)) (.slice (some ⟨g, 0, none⟩) 1 1) [n] := by
  subst hg
  have h : Own encI 3 (w.alloc (.cells #[.int .i64 n] 3)) (.slice (some ⟨w.heap.size, 0, none⟩) 1 1) [n] := Own.lit (xs := [n]) (heap_alloc_new w _) rfl (by simp [maxLen])
  obtain ⟨g, h⟩ := h.rd; exact ⟨g, 0, h⟩

set_option maxRecDepth 20000 in
set_option maxHeartbeats 4000000 in
theorem record_any (r : RecA) (l : List DueR) (w : World) (ht : Tab w) (hr : r.good) (hb : Rd encDue w (.slice r.ans.ba r.ans.bn r.ans.bc) l) (hl : ∀ d ∈ l, d.ok) (hn : l.length ≤ 100) :
    Calls Tryd.prog 12 #[.agg #[.int .i64 r.thread, .int .i64 r.call.kind, .int .i64 r.call.deadline, .int .u64 r.call.draw, .int .u64 r.call.handle, .int .i64 r.call.count, .int .i64 r.beg, .int .i64 r.fin, .bool r.done, .int .i64 r.ans.err, .bool r.ans.ok, .int .u64 r.ans.handle, .slice r.ans.ba r.ans.bn r.ans.bc, .slice r.aa r.an r.ac]] w fun e w' =>
      e = .returned (.string (Str (recordT r l))) ∧ Fr [] w w' := by
  have F0 : Fr [] w (w.alloc (.cells #[.int .i64 r.thread, .int .i64 r.call.kind, .int .i64 r.call.deadline, .int .u64 r.call.draw, .int .u64 r.call.handle, .int .i64 r.call.count, .int .i64 r.beg, .int .i64 r.fin, .bool r.done, .int .i64 r.ans.err, .bool r.ans.ok, .int .u64 r.ans.handle, .slice r.ans.ba r.ans.bn r.ans.bc, .slice r.aa r.an r.ac] 31)) := (Fr.refl _ _).alloc _
  have B0 := Box.new w #[.int .i64 r.thread, .int .i64 r.call.kind, .int .i64 r.call.deadline, .int .u64 r.call.draw, .int .u64 r.call.handle, .int .i64 r.call.count, .int .i64 r.beg, .int .i64 r.fin, .bool r.done, .int .i64 r.ans.err, .bool r.ans.ok, .int .u64 r.ans.handle, .slice r.ans.ba r.ans.bn r.ans.bc, .slice r.aa r.an r.ac] 31
  go_enter Tryd.func12, Tryd.ntmps12
  go_upto_region 1 with (fail)
  obtain ⟨g, hg⟩ : ∃ g, w.heap.size = g := ⟨_, rfl⟩
  rw [hg] at B0 ⊢
  clear hg
  obtain ⟨u, hu⟩ : ∃ u, w.alloc (.cells #[.int .i64 r.thread, .int .i64 r.call.kind, .int .i64 r.call.deadline, .int .u64 r.call.draw, .int .u64 r.call.handle, .int .i64 r.call.count, .int .i64 r.beg, .int .i64 r.fin, .bool r.done, .int .i64 r.ans.err, .bool r.ans.ok, .int .u64 r.ans.handle, .slice r.ans.ba r.ans.bn r.ans.bc, .slice r.aa r.an r.ac] 31) = u := ⟨_, rfl⟩
  rw [hu] at F0 B0 ⊢
  clear hu
  have tu := ht.keep F0
  have s0 := head_len hr
  have hhd := head_eq r
  have hw1 : (wordsT (Lib.itoa r.thread) [callT r.call, [102, 114, 111, 109]]).length ≤ 1000 := by
    have h1 := itoa_len r.thread hr.thread.1 hr.thread.2
    have h2 := callT_len hr.call
    rw [Str.size] at h1 h2
    simp [wordsT]; omega
  have hw2 : (wordsI [] [r.beg]).length ≤ 1000 := by
    have h3 := itoa_len r.beg hr.beg.1 hr.beg.2
    rw [Str.size] at h3
    simp [wordsI, wordsT]; omega
  have C1 := fun W (hW : Fr [] u W) => itoa_any r.thread hr.thread.1 hr.thread.2 W (tu.keep hW)
  have C2 := fun W (hW : Fr [] u W) => callText_any r.call hr.call W (tu.keep hW)
  have C3 := fun v W (hv : Rd encS W v [callT r.call, [102, 114, 111, 109]]) => wordsS_any (Lib.itoa r.thread) v [callT r.call, [102, 114, 111, 109]] W hv (by omega) (by simp)
  have C4 := fun v W (hW : Fr [] u W) (hv : Rd encI W v [r.beg]) => wordsI_any [] v [r.beg] W hv (tu.keep hW) (by intro n hn; simp at hn; subst hn; exact hr.beg) (by omega) (by simp)
  simp only [Str.lit] at C1
  have D3 := fun W' W G (hf : Fr [] (W.alloc (.cells #[.string (Str (callT r.call)), .string (Str [102, 114, 111, 109])] 9)) W') (hG : G = W.heap.size) => (two_str W (callT r.call) [102, 114, 111, 109] G hG).keep0 hf
  obtain ⟨p, hp⟩ : ∃ p, Str (headT r) = p := ⟨_, rfl⟩
  obtain ⟨a1, h1⟩ : ∃ p, Str (Lib.itoa r.thread) = p := ⟨_, rfl⟩
  obtain ⟨a2, h2⟩ : ∃ p, Str (callT r.call) = p := ⟨_, rfl⟩
  obtain ⟨a3, h3⟩ : ∃ p, Str (wordsT (Lib.itoa r.thread) [callT r.call, [102, 114, 111, 109]]) = p := ⟨_, rfl⟩
  obtain ⟨a4, h4⟩ : ∃ p, Str (wordsI [] [r.beg]) = p := ⟨_, rfl⟩
  have z1 : ¬ (9223372036854775807 < a3.size + a4.size) := by
    rw [← h3, ← h4, Str.size, Str.size]; omega
  rw [hp, h3, h4] at hhd
  rw [hp] at s0
  rw [h1] at C1 C3
  rw [h2] at C2 D3
  rw [h3] at C3
  rw [h4] at C4
  rw [show Str [102, 114, 111, 109] = ⟨#[102, 114, 111, 109]⟩ from rfl] at D3
  rw [show Str [] = ⟨#[]⟩ from rfl] at C4
  have D4 := fun W' W G (hf : Fr [] (W.alloc (.cells #[.int .i64 r.beg] 3)) W') (hG : G = W.heap.size) => (one_int W r.beg G hG).keep0 hf
  have facts : ∀ W, Fr [] u W → (W.cell? ⟨g, 0, none⟩ = some (.int .i64 r.thread) ∧ W.cell? ⟨g, 1, none⟩ = some (.int .i64 r.call.kind) ∧ W.cell? ⟨g, 2, none⟩ = some (.int .i64 r.call.deadline) ∧ W.cell? ⟨g, 3, none⟩ = some (.int .u64 r.call.draw) ∧ W.cell? ⟨g, 4, none⟩ = some (.int .u64 r.call.handle) ∧ W.cell? ⟨g, 5, none⟩ = some (.int .i64 r.call.count) ∧ W.cell? ⟨g, 6, none⟩ = some (.int .i64 r.beg)) := by
    intro W hW
    have B := (B0.keep0 hW).cell
    exact ⟨B 0, B 1, B 2, B 3, B 4, B 5, B 6⟩
  have FA := Lib.hid facts
  have HC1 := Lib.hid C1
  have HC2 := Lib.hid C2
  have HC3 := Lib.hid C3
  have HC4 := Lib.hid C4
  have HD3 := Lib.hid D3
  have HD4 := Lib.hid D4
  have hfr0 : Fr [] u u.drew := (Fr.refl _ _).drew
  have HH := Lib.hid (And.intro hr (And.intro hb (And.intro hl (And.intro tu (And.intro F0 (And.intro B0 (And.intro hhd hp)))))))
  clear C1 C2 C3 C4 D3 D4 facts h1 h2 h3 h4 hw1 hw2 hhd hp hr hb hl ht tu F0 B0
  go_cut [3] from 4 to 16 (fun s3 wx => s3 = .string p ∧ Fr [] u wx)
  case first =>
    go_region_held3 (fun W => (W.cell? ⟨g, 0, none⟩ = some (.int .i64 r.thread) ∧ W.cell? ⟨g, 1, none⟩ = some (.int .i64 r.call.kind) ∧ W.cell? ⟨g, 2, none⟩ = some (.int .i64 r.call.deadline) ∧ W.cell? ⟨g, 3, none⟩ = some (.int .u64 r.call.draw) ∧ W.cell? ⟨g, 4, none⟩ = some (.int .u64 r.call.handle) ∧ W.cell? ⟨g, 5, none⟩ = some (.int .i64 r.call.count) ∧ W.cell? ⟨g, 6, none⟩ = some (.int .i64 r.beg)))
      ((refine FA.out _ ?_; (with_reducible repeat' first | exact hfr0 | exact Fr.refl _ _ | (refine Fr.trans0 ?_ f9) | (refine Fr.trans0 ?_ f7) | (refine Fr.trans0 ?_ f6) | (refine Fr.alloc ?_ _) | (refine Fr.drew ?_))))
      (first
        | (go_at_call 23; with_reducible refine (HC1.out _ (by with_reducible repeat' first | exact hfr0 | exact Fr.refl _ _ | (refine Fr.trans0 ?_ f9) | (refine Fr.trans0 ?_ f7) | (refine Fr.trans0 ?_ f6) | (refine Fr.alloc ?_ _) | (refine Fr.drew ?_))).mono ?_; rintro e w6 ⟨rfl, f6⟩)
        | (go_at_call 30; with_reducible refine (HC2.out _ (by with_reducible repeat' first | exact hfr0 | exact Fr.refl _ _ | (refine Fr.trans0 ?_ f9) | (refine Fr.trans0 ?_ f7) | (refine Fr.trans0 ?_ f6) | (refine Fr.alloc ?_ _) | (refine Fr.drew ?_))).mono ?_; rintro e w7 ⟨rfl, f7⟩)
        | (go_at_call 31; with_reducible refine (HC4.out _ _ (by with_reducible repeat' first | exact hfr0 | exact Fr.refl _ _ | (refine Fr.trans0 ?_ f9) | (refine Fr.trans0 ?_ f7) | (refine Fr.trans0 ?_ f6) | (refine Fr.alloc ?_ _) | (refine Fr.drew ?_)) (HD4.out _ _ _ (by with_reducible repeat' first | exact Fr.refl _ _ | (refine Fr.trans0 ?_ f9) | (refine Fr.trans0 ?_ f7) | (refine Fr.trans0 ?_ f6) | (refine Fr.alloc ?_ _) | (refine Fr.drew ?_)) (by simp))).mono ?_; rintro e w9 ⟨rfl, f9⟩)
        | (go_at_call 25; with_reducible refine (HC3.out _ _ (HD3.out _ _ _ (by with_reducible repeat' first | exact Fr.refl _ _ | (refine Fr.trans0 ?_ f9) | (refine Fr.trans0 ?_ f7) | (refine Fr.trans0 ?_ f6) | (refine Fr.alloc ?_ _) | (refine Fr.drew ?_)) (by simp))).mono ?_; rintro e w8 ⟨rfl, rfl⟩))
    all_goals
      go_wp2_with fail
      go_meet
      exact ⟨by rw [HH.out.2.2.2.2.2.2.1], by with_reducible repeat' first | exact hfr0 | exact Fr.refl _ _ | (refine Fr.trans0 ?_ f9) | (refine Fr.trans0 ?_ f7) | (refine Fr.trans0 ?_ f6) | (refine Fr.alloc ?_ _) | (refine Fr.drew ?_)⟩
  case rest =>
    obtain ⟨rfl, F1⟩ := hcut
    obtain ⟨hr, hb, hl, tu, F0, B0, hhd, hp⟩ := HH.out
    have B1 := B0.keep0 F1
    have F2 := F0.trans0 F1
    have tw := tu.keep F1
    have hb1 := hb.keep0 F2
    clear FA HC1 HC2 HC3 HC4 HD3 HD4 hfr0 z1 HH hb tu F0 B0 F1 hhd
    cases hd : r.done
    · have b1 := B1.cell
      rw [hd] at b1
      have he : Str (recordT r l) = p ++ ⟨#[58, 32, 117, 110, 100, 101, 114, 32, 119, 97, 121, 10]⟩ := by
        unfold recordT; rw [if_pos hd, ← hp]; exact ByteArray.ext (by simp [Str, ByteArray.data_append])
      have HE := Lib.hid (And.intro he F2)
      clear he F2 hp hd tw hb1 hr hl B1
      go_wp2
      go_ret
      exact ⟨ret_str HE.out.1.symm, HE.out.2⟩
    · have hw5 : (wordsI [32, 116, 111] [r.fin]).length ≤ 1000 := by
        have h3 := itoa_len r.fin hr.fin.1 hr.fin.2
        rw [Str.size] at h3
        simp [wordsI, wordsT]; omega
      have he : Str (recordT r l) = p ++ Str (wordsI [32, 116, 111] [r.fin]) ++ ⟨#[58, 32]⟩ ++ Str (answerT r.call r.ans l) ++ ⟨#[10]⟩ := by
        unfold recordT; rw [if_neg (by simp [hd]), ← hp]; exact ByteArray.ext (by simp [Str, ByteArray.data_append, wordsI, wordsT])
      have C4 := fun v W (hW : Fr [] wc W) (hv : Rd encI W v [r.fin]) => wordsI_any [32, 116, 111] v [r.fin] W hv (tw.keep hW) (by intro n hn; simp at hn; subst hn; exact hr.fin) (by omega) (by simp)
      have C5 := fun W (hW : Fr [] wc W) => answer_any r.call r.ans l W (tw.keep hW) hr.ans (hb1.keep0 hW) hl hn
      have D4 := fun W' W G (hf : Fr [] (W.alloc (.cells #[.int .i64 r.fin] 3)) W') (hG : G = W.heap.size) => (one_int W r.fin G hG).keep0 hf
      have s5 : (Str (wordsI [32, 116, 111] [r.fin])).size ≤ 1000 := by rw [Str.size]; exact hw5
      have s6 := answer_len r.call hr.ans hl hn
      obtain ⟨a5, h5⟩ : ∃ p, Str (wordsI [32, 116, 111] [r.fin]) = p := ⟨_, rfl⟩
      obtain ⟨a6, h6⟩ : ∃ p, Str (answerT r.call r.ans l) = p := ⟨_, rfl⟩
      rw [h5] at C4 s5 he
      rw [h6] at C5 s6 he
      rw [show Str [32, 116, 111] = ⟨#[32, 116, 111]⟩ from rfl] at C4
      have z1 : ¬ (9223372036854775807 < p.size + a5.size) := by omega
      have z2 : ¬ (9223372036854775807 < p.size + a5.size + 2) := by omega
      have z3 : ¬ (9223372036854775807 < p.size + a5.size + 2 + a6.size) := by omega
      have z4 : ¬ (9223372036854775807 < p.size + a5.size + 2 + a6.size + 1) := by omega
      have facts : ∀ W, Fr [] wc W → (W.cell? ⟨g, 1, none⟩ = some (.int .i64 r.call.kind) ∧ W.cell? ⟨g, 2, none⟩ = some (.int .i64 r.call.deadline) ∧ W.cell? ⟨g, 3, none⟩ = some (.int .u64 r.call.draw) ∧ W.cell? ⟨g, 4, none⟩ = some (.int .u64 r.call.handle) ∧ W.cell? ⟨g, 5, none⟩ = some (.int .i64 r.call.count) ∧ W.cell? ⟨g, 7, none⟩ = some (.int .i64 r.fin) ∧
          W.cell? ⟨g, 9, none⟩ = some (.int .i64 r.ans.err) ∧ W.cell? ⟨g, 10, none⟩ = some (.bool r.ans.ok) ∧ W.cell? ⟨g, 11, none⟩ = some (.int .u64 r.ans.handle) ∧ W.cell? ⟨g, 12, none⟩ = some (.slice r.ans.ba r.ans.bn r.ans.bc)) := by
        intro W hW
        have B := (B1.keep0 hW).cell
        exact ⟨B 1, B 2, B 3, B 4, B 5, B 7, B 9, B 10, B 11, B 12⟩
      have b1 := B1.cell
      rw [hd] at b1
      have FA := Lib.hid facts
      have HC4 := Lib.hid C4
      have HC5 := Lib.hid C5
      have HD4 := Lib.hid D4
      have HE := Lib.hid (And.intro he F2)
      have hfr1 : Fr [] wc wc.drew := (Fr.refl _ _).drew
      clear he F2 hp hd tw hb1 hr hl B1 C4 C5 D4 facts h5 h6 hw5
      go_wp2_with fail
      clear b1
      go_region_held3 (fun W => (W.cell? ⟨g, 1, none⟩ = some (.int .i64 r.call.kind) ∧ W.cell? ⟨g, 2, none⟩ = some (.int .i64 r.call.deadline) ∧ W.cell? ⟨g, 3, none⟩ = some (.int .u64 r.call.draw) ∧ W.cell? ⟨g, 4, none⟩ = some (.int .u64 r.call.handle) ∧ W.cell? ⟨g, 5, none⟩ = some (.int .i64 r.call.count) ∧ W.cell? ⟨g, 7, none⟩ = some (.int .i64 r.fin) ∧
          W.cell? ⟨g, 9, none⟩ = some (.int .i64 r.ans.err) ∧ W.cell? ⟨g, 10, none⟩ = some (.bool r.ans.ok) ∧ W.cell? ⟨g, 11, none⟩ = some (.int .u64 r.ans.handle) ∧ W.cell? ⟨g, 12, none⟩ = some (.slice r.ans.ba r.ans.bn r.ans.bc)))
        ((refine FA.out _ ?_; (with_reducible repeat' first | exact hfr1 | exact Fr.refl _ _ | (refine Fr.trans0 ?_ f9) | (refine Fr.trans0 ?_ f8) | (refine Fr.alloc ?_ _) | (refine Fr.drew ?_))))
        (first
          | (go_at_call 31; with_reducible refine (HC4.out _ _ (by with_reducible repeat' first | exact hfr1 | exact Fr.refl _ _ | (refine Fr.trans0 ?_ f9) | (refine Fr.trans0 ?_ f8) | (refine Fr.alloc ?_ _) | (refine Fr.drew ?_)) (HD4.out _ _ _ (by with_reducible repeat' first | exact Fr.refl _ _ | (refine Fr.trans0 ?_ f9) | (refine Fr.alloc ?_ _) | (refine Fr.drew ?_)) (by simp))).mono ?_; rintro e w9 ⟨rfl, f9⟩)
          | (go_at_call 10; with_reducible refine (HC5.out _ (by with_reducible repeat' first | exact hfr1 | exact Fr.refl _ _ | (refine Fr.trans0 ?_ f9) | (refine Fr.trans0 ?_ f8) | (refine Fr.alloc ?_ _) | (refine Fr.drew ?_))).mono ?_; rintro e w8 ⟨rfl, f8⟩))
      have HF : Fr [] w w8 := by
        refine HE.out.2.trans0 ?_
        with_reducible repeat' first | exact hfr1 | exact Fr.refl _ _ | (refine Fr.trans0 ?_ f8) | (refine Fr.trans0 ?_ f9) | (refine Fr.alloc ?_ _) | (refine Fr.drew ?_)
      have HG := Lib.hid HF
      clear HF f8 f9 FA HC4 HC5 HD4 hfr1
      go_wp2
      go_ret
      exact ⟨ret_str HE.out.1.symm, HG.out⟩
end Go.Proofs.YtkdmodanfcpcfaaDoor
