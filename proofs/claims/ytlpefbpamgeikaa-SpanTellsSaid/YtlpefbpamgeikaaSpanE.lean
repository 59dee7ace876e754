/- DERIVED. Chapter 50: awake. -/
import Derived.Test.YtlpefbpamgeikaaSpanD
namespace Go.Proofs.Ytlpefbpamgeikaa
open Go.RowKit

def r0 : Rec := ⟨0, ⟨6, 0, 0, 0, 0⟩, 1, 3, true, 0, false, 0, ⟨none, 0, 0⟩, ⟨none, 0, 0⟩⟩
def r1 : Rec := ⟨1, ⟨5, 0, 0, 0, 0⟩, 1, 0, false, 0, false, 0, ⟨none, 0, 0⟩, ⟨none, 0, 0⟩⟩
def t0 : Stp := ⟨2, 0, 0, 0, 0, 0, 0, 0, 0, false⟩
def t1 : Stp := ⟨3, 0, 0, 0, 0, 0, 0, 0, 0, false⟩
def t2 : Stp := ⟨4, 1, 0, 0, 0, 0, 0, 0, 0, false⟩

abbrev recs2 : Array Value := #[.int .i64 0, .int .i64 6, .int .i64 0, .int .u64 0, .int .u64 0, .int .i64 0, .int .i64 1, .int .i64 3, .bool true, .int .i64 0, .bool false, .int .u64 0, .slice none 0 0, .slice none 0 0,
  .int .i64 1, .int .i64 5, .int .i64 0, .int .u64 0, .int .u64 0, .int .i64 0, .int .i64 1, .int .i64 0, .bool false, .int .i64 0, .bool false, .int .u64 0, .slice none 0 0, .slice none 0 0]
abbrev stps3 : Array Value := #[.int .i64 2, .int .i64 0, .int .i64 0, .int .i64 0, .int .u64 0, .int .u64 0, .int .u64 0, .int .u64 0, .int .u64 0, .bool false,
  .int .i64 3, .int .i64 0, .int .i64 0, .int .i64 0, .int .u64 0, .int .u64 0, .int .u64 0, .int .u64 0, .int .u64 0, .bool false,
  .int .i64 4, .int .i64 1, .int .i64 0, .int .i64 0, .int .u64 0, .int .u64 0, .int .u64 0, .int .u64 0, .int .u64 0, .bool false]
theorem made50 (w : World) : Own encRec 52 ((w.alloc (.cells recs2 52)).alloc (.cells stps3 39)) (.slice (some ⟨w.heap.size, 0, none⟩) 2 2) [r0, r1] ∧
    Own encStp 39 ((w.alloc (.cells recs2 52)).alloc (.cells stps3 39)) (.slice (some ⟨w.heap.size + 1, 0, none⟩) 3 3) [t0, t1, t2] ∧
    Fr [] w ((w.alloc (.cells recs2 52)).alloc (.cells stps3 39)) := by
  have hl : Own encRec 52 (w.alloc (.cells recs2 52)) (.slice (some ⟨w.heap.size, 0, none⟩) 2 2) [r0, r1] := Own.lit (xs := [r0, r1]) (heap_alloc_new w _) rfl (by simp [maxLen])
  refine ⟨hl.keep0 ((Fr.refl [] _).alloc _), ?_, ((Fr.refl [] w).alloc _).alloc _⟩
  refine Own.lit (cur := stps3) (e := 39) (xs := [t0, t1, t2]) ?_ rfl (by simp [maxLen])
  have := heap_alloc_new (w.alloc (.cells recs2 52)) (.cells stps3 39)
  rw [World.size_alloc] at this
  exact this

set_option maxHeartbeats 1000000 in
theorem awake50 (w : World) : Calls Try.prog 15 #[] w fun e w' => e = .returned (.bool true) ∧ Fr [] w w' := by
  obtain ⟨hl, hs, hF⟩ := made50 w
  have HL := Lib.hid hl
  have HS := Lib.hid hs
  have HF := Lib.hid hF
  clear hl hs hF
  go_enter Try.func15, Try.ntmps15
  go_wp2_with fail
  refine (bound_yes ⟨1, 1, 1, 0⟩ _ (by unfold PlanOk; decide)).mono ?_
  rintro e w1 ⟨rfl, f1⟩
  rw [show boundV ⟨1, 1, 1, 0⟩ = 506 by decide +kernel]
  have hl2 := HL.out.keep0 f1
  have hs2 := HS.out.keep0 f1
  have F1 := HF.out.trans0 f1
  clear HL HS HF f1
  obtain ⟨g1, q1⟩ := hl2.rd
  obtain ⟨g2, q2⟩ := hs2.rd
  clear hl2 hs2
  have HQ1 := Lib.hid q1
  have HQ2 := Lib.hid q2
  clear q1 q2
  go_wp2_with fail
  refine (longest_any _ _ _ _ w1 ⟨_, _, HQ1.out⟩ (by simp) ⟨_, _, HQ2.out⟩ (by simp) (by simp [okStp, t0, t1, t2])).mono ?_
  rintro e w2 ⟨rfl, f2⟩
  rw [show longF [r0, r1] [t0, t1, t2] = 2 by decide +kernel]
  have q1 := HQ1.out.keep0 f2
  have q2 := HQ2.out.keep0 f2
  have F2 := F1.trans0 f2
  clear HQ1 HQ2 f2 F1
  obtain ⟨rfl, _⟩ := q2.base (by simp)
  have i2 := idxS q2 (k := 2) (by simp)
  have c2 := stpAt q2 (k := 2) (r := t2) rfl
  have HQ1 := Lib.hid q1
  clear q1 q2
  simp only [t2] at c2
  simp only [Nat.zero_add, Nat.reduceMul, Nat.reduceAdd] at c2
  go_wp2_with fail
  refine (counts_any _ _ t2 w2 ⟨_, _, HQ1.out⟩ (by simp)).mono ?_
  rintro e w3 ⟨rfl, f3⟩
  rw [show cnt [r0, r1] t2 = false by decide +kernel]
  have F3 := F2.trans0 f3
  go_wp2
  go_ret
  exact ⟨rfl, F3⟩
end Go.Proofs.Ytlpefbpamgeikaa
