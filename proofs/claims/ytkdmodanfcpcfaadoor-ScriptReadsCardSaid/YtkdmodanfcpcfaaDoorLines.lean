/- DERIVED. Chapter 42: a text's lines, told by the function that 'lines' hands back; and lines itself. -/
import Derived.Test.YtkdmodanfcpcfaaDoorRange
import Derived.Test.YtkdmodanfcpcfaaDoorHnd
import Derived.RangeFuncNested
import Derived.RangeFuncBound
import Derived.Shelf.Abstract
import Derived.Shelf.RegionOpen
import Derived.OwnWalkIn
import Derived.TacticsInMore
import Derived.LoopNIn
import Derived.LoopIn
namespace Go.Proofs.YtkdmodanfcpcfaaDoor
open Go.RowKit Go.Shelf
attribute [local go_sem] Oper.semAt_some

/-- how much is left, read off the box -/
def leftB (B : Nat) (W : World) : Nat := match W.cell? ⟨B, 0, none⟩ with
  | some (.string s) => s.size
  | _ => 0
theorem leftB_eq {B : Nat} {W : World} {s : ByteArray} (h : W.cell? ⟨B, 0, none⟩ = some (.string s)) : leftB B W = s.size := by unfold leftB; rw [h]
def encL (t : List UInt8) : Array Value := #[.string (Str (cutV 10 t).1), .bool (cutV 10 t).2.2]
def nextL (t : List UInt8) : List UInt8 := (cutV 10 t).2.1
theorem nextL_lt {t : List UInt8} (h : t ≠ []) : (nextL t).length < t.length := by
  unfold nextL
  cases t with
  | nil => exact absurd rfl h
  | cons c r =>
    rw [cutV_cons]
    split
    · simp
    · have := (cutV_len 10 r).2.1
      simp; omega

set_option maxRecDepth 100000 in
set_option maxHeartbeats 2000000 in
theorem lines1_in (n : Nat) (hn : 1 ≤ n) (B : Nat) (t0 : List UInt8) (ht0 : t0.length ≤ 1000000) (w : World) (hc0 : w.cell? ⟨B, 0, none⟩ = some (.string (Str t0))) (hz0 : w.frozen? ⟨B, 0, none⟩ = false) :
    SeqSt Fence.wide n Tryd.prog 58 #[.pointer (some ⟨B, 0, none⟩)] B encL (fun t => t ≠ []) nextL Glob t0 w := by
  intro l J Jx W hJ hPre hY h0 hBW hlt
  have hc : W.cell? ⟨B, 0, none⟩ = some (.string (Str t0)) := (World.cell?_of_block (a := ⟨B, 0, none⟩) hBW).trans hc0
  have hz : W.frozen? ⟨B, 0, none⟩ = false := (World.frozen?_of_block (a := ⟨B, 0, none⟩) hBW).trans hz0
  clear hBW hc0 hz0
  refine callsIn_of_wp Tryd.func58 rfl trivial ?_ rfl
  simp only [Tryd.ntmps58, List.size_toArray, List.length_cons, List.length_nil, Nat.reduceAdd, Nat.reduceSub, Array.replicate_succ, Array.replicate_zero, List.push_toArray, List.append_toArray, List.nil_append, List.cons_append]
  gi_wp2
  gi_loopw [3] (fun _ wr => ∃ t : List UInt8, wr.cell? ⟨B, 0, none⟩ = some (.string (Str t)) ∧ wr.frozen? ⟨B, 0, none⟩ = false ∧ t.length ≤ 1000000 ∧ J t wr ∧ B < wr.heap.size) (fun _ wr => leftB B wr)
  case atStart => exact ⟨t0, hc, hz, ht0, h0, hlt⟩
  case round =>
    obtain ⟨t, hct, hzt, htl, hJt, hBt⟩ := hrel
    have hG := hPre t wr hJt
    by_cases hne : t = []
    · subst hne
      replace hct : wr.cell? ⟨B, 0, none⟩ = some (.string ⟨#[]⟩) := hct
      gi_wp2
      go_end0
      exact ⟨⟨_, rfl⟩, .inl ⟨[], by simp, hJt⟩⟩
    · have hq2 : ((Str t).toList == []) = false := by
        have := (Lib.bytes_beq_false_iff (Str t) ⟨#[]⟩).2 (fun e => hne (by have := congrArg (fun b => b.data.toList) e; simpa [Str] using this))
        simpa using this
      have C := cut_any 10 t htl wr hG
      have hm : leftB B wr = t.length := by rw [leftB_eq hct, Str.size]
      have hlt2 := nextL_lt hne
      obtain ⟨x, hx⟩ : ∃ x, (cutV 10 t).1 = x := ⟨_, rfl⟩
      obtain ⟨y, hy⟩ : ∃ x, (cutV 10 t).2.2 = x := ⟨_, rfl⟩
      have hY2 := fun X h => hY t X h hne
      simp only [encL, hx, hy] at hY2
      have hnx : (cutV 10 t).2.1 = nextL t := rfl
      rw [hx, hy, hnx] at C
      obtain ⟨T, hT⟩ : ∃ T, Str t = T := ⟨_, rfl⟩
      obtain ⟨X1, hX1⟩ : ∃ T, Str x = T := ⟨_, rfl⟩
      obtain ⟨R1, hR1⟩ : ∃ T, Str (nextL t) = T := ⟨_, rfl⟩
      rw [hX1] at hY2
      rw [hT] at hct hq2
      rw [hT, hX1, hR1] at C
      have HC := Lib.hid C
      have HY := Lib.hid hY2
      clear C hY2 hT hX1 hx hy hnx hY
      gi_wp2_with (refine ⟨trivial, ?_⟩; gi_at_call 59; rw [show (⟨#[10]⟩ : ByteArray) = Str [10] from rfl]; refine (callsIn_wide.2 HC.out).mono ?_; rintro e w2 ⟨rfl, f2⟩; have hct2 : w2.cell? ⟨B, 0, none⟩ = some (.string T) := (f2.cell hBt (by simp) 0).trans hct; have hzt2 : w2.frozen? ⟨B, 0, none⟩ = false := (f2.frozen hBt (by simp) 0).trans hzt; have hJ2 := hJ t wr w2 hJt (f2.mono (by simp)); obtain ⟨fn, tmps, assign, body, hyy, hRR⟩ := HY.out w2 hJ2)
      refine hRR.mono ?_
      rintro e W3 (⟨rfl, hJ3, hk3⟩ | ⟨rfl, hJx3⟩)
      · have hc3 : W3.cell? ⟨B, 0, none⟩ = some (.string T) := (World.cell?_of_block (a := ⟨B, 0, none⟩) hk3).trans hct2
        have hz3 : W3.frozen? ⟨B, 0, none⟩ = false := (World.frozen?_of_block (a := ⟨B, 0, none⟩) hk3).trans hzt2
        have hb3 : B < W3.heap.size := block_lt_of_cell hc3
        have hs3 : (W3.setCell ⟨B, 0, none⟩ (.string R1)).cell? ⟨B, 0, none⟩ = some (.string R1) := World.cell?_setCell_same' _ _ _ (by rw [hc3]; rfl)
        gi_wp2
        go_roundw
        case rel => exact ⟨nextL t, by rw [hR1]; exact hs3, by rw [World.frozen?_setCell]; exact hz3, by omega, hJ _ W3 _ hJ3 ((Fr.refl _ _).setCell (p := ⟨B, 0, none⟩) (.inl (by simp)) _), by simp [World.setCell]; exact hb3⟩
        case measure => rw [leftB_eq hs3, hm, ← hR1, Str.size]; exact hlt2
      · gi_wp2
        refine bodyPost_ret (results_none rfl _ _ _) rfl ?_
        exact ⟨⟨_, rfl⟩, .inr hJx3⟩

theorem lines_any (s : ByteArray) (w : World) : Calls Tryd.prog 33 #[.string s] w fun e w' => e = .returned (.func (.func 58) #[] #[.pointer (some ⟨w.heap.size, 0, none⟩)]) ∧ w' = w.alloc (.cells #[.string s] 9) := by
  go_enter Tryd.func33, Tryd.ntmps33
  go_wp2
  go_ret
  exact ⟨rfl, rfl⟩
end Go.Proofs.YtkdmodanfcpcfaaDoor
