/- DERIVED. Chapter 8: Right, of the program and of the reference. -/
import Derived.Test.YtlpefbpamgeikaaRows
import Derived.Test.YtlpefbpamgeikaaTypes
import Derived.RegionTactic
import Derived.ChangeAlike
import Derived.Deep.QuietTactic
import Derived.BigQuiet
namespace Go.Proofs.Ytlpefbpamgeikaa
open Go.RowKit

def PlanOk (p : Plan) : Prop := 1 ≤ p.threads ∧ p.threads ≤ 8 ∧ 1 ≤ p.slots ∧ p.slots ≤ 64 ∧ 1 ≤ p.levels ∧ p.levels ≤ 8 ∧ p.gen ≤ 4294967295

set_option maxHeartbeats 400000 in
theorem right_yes (p : Plan) (w : World) (h : PlanOk p) :
    Calls Try.prog 29 #[.agg #[.int .i64 p.threads, .int .i64 p.slots, .int .i64 p.levels, .int .u64 p.gen]] w fun e w' => e = .returned (.int .i64 0) ∧ Fr [] w w' := by
  obtain ⟨h1, h2, h3, h4, h5, h6, h7⟩ := h
  go_enter Try.func29, Try.ntmps29
  go_wp2
  go_ret
  exact ⟨rfl, (Fr.refl _ _).alloc _⟩
set_option maxHeartbeats 1000000 in
theorem right_no (p : Plan) (w : World) (h : ¬ PlanOk p) :
    Calls Try.prog 29 #[.agg #[.int .i64 p.threads, .int .i64 p.slots, .int .i64 p.levels, .int .u64 p.gen]] w fun e w' => e = .returned (.int .i64 1) ∧ Fr [] w w' := by
  unfold PlanOk at h
  have fin : ∀ (e : Ending) (w' : World), (e = .returned (.int .i64 1) ∧ w' = w.alloc (.cells #[.int .i64 p.threads, .int .i64 p.slots, .int .i64 p.levels, .int .u64 p.gen] 32)) → e = .returned (.int .i64 1) ∧ Fr [] w w' := by
    rintro e w' ⟨rfl, rfl⟩; exact ⟨rfl, (Fr.refl _ _).alloc _⟩
  by_cases h1 : 1 ≤ p.threads
  · by_cases h2 : p.threads ≤ 8
    · by_cases h3 : 1 ≤ p.slots
      · by_cases h4 : p.slots ≤ 64
        · by_cases h5 : 1 ≤ p.levels
          · by_cases h6 : p.levels ≤ 8
            · have h7 : 4294967295 < p.gen := by omega
              clear h
              go_enter Try.func29, Try.ntmps29
              go_wp2
              go_ret
              exact fin _ _ ⟨rfl, rfl⟩
            · clear h; go_enter Try.func29, Try.ntmps29; go_wp2; go_ret; exact fin _ _ ⟨rfl, rfl⟩
          · clear h; go_enter Try.func29, Try.ntmps29; go_wp2; go_ret; exact fin _ _ ⟨rfl, rfl⟩
        · clear h; go_enter Try.func29, Try.ntmps29; go_wp2; go_ret; exact fin _ _ ⟨rfl, rfl⟩
      · clear h; go_enter Try.func29, Try.ntmps29; go_wp2; go_ret; exact fin _ _ ⟨rfl, rfl⟩
    · clear h; go_enter Try.func29, Try.ntmps29; go_wp2; go_ret; exact fin _ _ ⟨rfl, rfl⟩
  · clear h; go_enter Try.func29, Try.ntmps29; go_wp2; go_ret; exact fin _ _ ⟨rfl, rfl⟩

set_option maxHeartbeats 400000 in
theorem refRight_yes (p : Plan) (w : World) (h : PlanOk p) :
    Calls Try.prog 30 #[.agg #[.int .i64 p.threads, .int .i64 p.slots, .int .i64 p.levels, .int .u64 p.gen]] w fun e w' => e = .returned (.bool true) ∧ Fr [] w w' := by
  obtain ⟨h1, h2, h3, h4, h5, h6, h7⟩ := h
  go_enter Try.func30, Try.ntmps30
  go_wp2
  go_ret
  exact ⟨rfl, (Fr.refl _ _).alloc _⟩
set_option maxHeartbeats 1000000 in
theorem refRight_no (p : Plan) (w : World) (h : ¬ PlanOk p) :
    Calls Try.prog 30 #[.agg #[.int .i64 p.threads, .int .i64 p.slots, .int .i64 p.levels, .int .u64 p.gen]] w fun e w' => e = .returned (.bool false) ∧ Fr [] w w' := by
  unfold PlanOk at h
  have fin : ∀ (e : Ending) (w' : World), (e = .returned (.bool false) ∧ w' = w.alloc (.cells #[.int .i64 p.threads, .int .i64 p.slots, .int .i64 p.levels, .int .u64 p.gen] 32)) → e = .returned (.bool false) ∧ Fr [] w w' := by
    rintro e w' ⟨rfl, rfl⟩; exact ⟨rfl, (Fr.refl _ _).alloc _⟩
  by_cases h1 : 1 ≤ p.threads
  · by_cases h2 : p.threads ≤ 8
    · by_cases h3 : 1 ≤ p.slots
      · by_cases h4 : p.slots ≤ 64
        · by_cases h5 : 1 ≤ p.levels
          · by_cases h6 : p.levels ≤ 8
            · have h7 : 4294967295 < p.gen := by omega
              have h8 : decide (p.gen ≤ 4294967295) = false := by simp; omega
              clear h
              go_enter Try.func30, Try.ntmps30
              go_wp2
              go_ret
              exact fin _ _ ⟨rfl, rfl⟩
            · clear h; go_enter Try.func30, Try.ntmps30; go_wp2; go_ret; exact fin _ _ ⟨rfl, rfl⟩
          · clear h; go_enter Try.func30, Try.ntmps30; go_wp2; go_ret; exact fin _ _ ⟨rfl, rfl⟩
        · clear h; go_enter Try.func30, Try.ntmps30; go_wp2; go_ret; exact fin _ _ ⟨rfl, rfl⟩
      · clear h; go_enter Try.func30, Try.ntmps30; go_wp2; go_ret; exact fin _ _ ⟨rfl, rfl⟩
    · clear h; go_enter Try.func30, Try.ntmps30; go_wp2; go_ret; exact fin _ _ ⟨rfl, rfl⟩
  · clear h; go_enter Try.func30, Try.ntmps30; go_wp2; go_ret; exact fin _ _ ⟨rfl, rfl⟩
end Go.Proofs.Ytlpefbpamgeikaa
