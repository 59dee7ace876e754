/- DERIVED. Chapter 5: contracts of Height (program, reference), awake of law 5. -/
import Derived.Test.YtlpefbpamgeikaaRows
import Derived.WalkKit
import Derived.WalkSpells
import Derived.WalkLawsBesides
import Derived.IntWalk
import Derived.WalkSmall
namespace Go.Proofs.Ytlpefbpamgeikaa
open Go.RowKit

/-- trailing ones, at most k -/
def tz : Nat → Int → Int
  | 0, _ => 0
  | k + 1, n => if n % 2 = 1 then 1 + tz k (n / 2) else 0
/-- the height drawn -/
def ht (n lv : Int) : Int := if lv < 1 then 0 else 1 + tz (min (lv - 1) 64).toNat n

theorem tz_bd (k : Nat) : ∀ n, 0 ≤ tz k n ∧ tz k n ≤ k := by
  induction k with
  | zero => intro n; simp [tz]
  | succ k ih => intro n; have := ih (n / 2); unfold tz; split <;> omega
theorem ht_bd (n lv : Int) (h : 1 ≤ lv) : 1 ≤ ht n lv ∧ ht n lv ≤ lv ∧ ht n lv ≤ 65 := by
  have := tz_bd (min (lv - 1) 64).toNat n; unfold ht; rw [if_neg (by omega)]; omega
theorem tz_stop (j : Nat) (x : Int) (h : x % 2 = 0) : tz j x = 0 := by cases j <;> simp [tz, h]
theorem pow_half (n : Int) (k : Nat) : n / 2 ^ (k + 1) = n / 2 ^ k / 2 := by
  rw [Int.pow_succ, Int.mul_comm, Int.mul_comm, Int.ediv_ediv_of_nonneg (Int.le_of_lt (Int.pow_pos (by omega)))]
theorem pow_range (n : Int) (k : Nat) (h0 : 0 ≤ n) (h1 : n ≤ 18446744073709551615) : 0 ≤ n / 2 ^ k ∧ n / 2 ^ k ≤ 18446744073709551615 := by
  have : (0 : Int) < 2 ^ k := Int.pow_pos (by omega)
  exact ⟨Int.ediv_nonneg h0 (by omega), Int.le_trans (Int.ediv_le_self _ h0) h1⟩

theorem ret_i64 {a b : Int} (h : a = b) : Ending.returned (.int .i64 a) = .returned (.int .i64 b) := by rw [h]

set_option maxHeartbeats 400000 in
theorem height_lt (n lv : Int) (w : World) (h : lv < 1) :
    Calls Try.prog 7 #[.int .u64 n, .int .i64 lv] w fun e w' => e = .returned (.int .i64 (ht n lv)) ∧ w = w' := by
  have hf : Hid (ht n lv = 0) := by unfold Hid ht; rw [if_pos h]
  go_enter Try.func7, Try.ntmps7
  go_wp2
  go_ret
  exact ⟨ret_i64 hf.out.symm, rfl⟩

set_option maxHeartbeats 400000 in
theorem height_ge (n lv : Int) (w : World) (h : 1 ≤ lv) (h0 : 0 ≤ n) (h1 : n ≤ 18446744073709551615) (hlv : lv ≤ 9223372036854775807) :
    Calls Try.prog 7 #[.int .u64 n, .int .i64 lv] w fun e w' => e = .returned (.int .i64 (ht n lv)) ∧ w = w' := by
  have hF : Hid (ht n lv = 1 + tz (min (lv - 1) 64).toNat n) := by unfold Hid ht; rw [if_neg (by omega)]
  go_enter Try.func7, Try.ntmps7
  go_wp2
  go_loop [5, 9] (fun h i => ∃ (k : Nat), k ≤ 64 ∧ i = .int .i64 k ∧ h = .int .i64 (k + 1) ∧ (k : Int) + 1 ≤ lv ∧ Hid (ht n lv = k + 1 + tz (min (lv - 1) 64 - k).toNat (n / 2 ^ k))) (fun _ i => 64 - (intOf i).toNat)
  case atStart => exact ⟨0, by omega, rfl, rfl, by omega, by have := hF.out; unfold Hid; simpa using this⟩
  case round =>
    obtain ⟨k, hk, rfl, rfl, hm, hr⟩ := hrel
    have hp := pow_range n k h0 h1
    have hb : Hid (bits BinOp.and IntKind.u64 (n / 2 ^ k) 1 = n / 2 ^ k % 2) := and_one_u64 _ hp.1 hp.2
    clear hF hp
    by_cases hlt : k < 64
    · by_cases hl2 : lv ≤ ↑k + 1
      · go_wp2
        all_goals
          go_ret
          refine ⟨ret_i64 ?_, rfl⟩
          rw [hr.out, show (min (lv - 1) 64 - (k : Int)).toNat = 0 by omega]; simp [tz]
      · by_cases hz : n / 2 ^ k % 2 = 0
        · have hz2 : (bits BinOp.and IntKind.u64 (n / 2 ^ k) 1 == 0) = true := by rw [hb.out]; simpa using hz
          have HZ : Hid (n / 2 ^ k % 2 = 0) := hz
          clear hz
          go_wp2
          go_ret
          refine ⟨ret_i64 ?_, rfl⟩
          rw [hr.out, tz_stop _ _ HZ.out]; omega
        · have hz2 : (bits BinOp.and IntKind.u64 (n / 2 ^ k) 1 == 0) = false := by rw [hb.out]; simpa using hz
          have HZ : Hid (n / 2 ^ k % 2 = 1) := by unfold Hid; omega
          clear hz
          go_wp2
          go_round
          case rel =>
            refine ⟨k + 1, by omega, by go_num, by go_num, by omega, ?_⟩
            have h2 := hr.out
            rw [show (min (lv - 1) 64 - (k : Int)).toNat = (min (lv - 1) 64 - ((k + 1 : Nat) : Int)).toNat + 1 by omega, tz, if_pos HZ.out, ← pow_half] at h2
            unfold Hid; rw [h2]; push_cast; omega
          case measure => simp [intOf]; omega
    · have hk64 : Hid (k = 64) := by unfold Hid; omega
      go_wp2
      go_ret
      refine ⟨ret_i64 ?_, rfl⟩
      have := hk64.out
      rw [hr.out, show (min (lv - 1) 64 - (k : Int)).toNat = 0 by omega]; simp [tz]

theorem height_any (n lv : Int) (w : World) (h0 : 0 ≤ n) (h1 : n ≤ 18446744073709551615) (hlv : lv ≤ 9223372036854775807) :
    Calls Try.prog 7 #[.int .u64 n, .int .i64 lv] w fun e w' => e = .returned (.int .i64 (ht n lv)) ∧ w = w' := by
  by_cases h : lv < 1
  · exact height_lt n lv w h
  · exact height_ge n lv w (by omega) h0 h1 hlv
end Go.Proofs.Ytlpefbpamgeikaa
