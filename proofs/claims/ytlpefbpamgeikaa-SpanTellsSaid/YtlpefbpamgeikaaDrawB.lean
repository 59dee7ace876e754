/- DERIVED. Chapter 5: the reference's Height, awake, DrawMore. -/
import Derived.Test.YtlpefbpamgeikaaDraw
import Derived.ProofKit
import Derived.OpenShut
import Derived.ShutString
namespace Go.Proofs.Ytlpefbpamgeikaa
open Go.RowKit

theorem tz_gt (k : Nat) : ∀ n, 0 ≤ n → n < 2 ^ k → ∀ j, k ≤ j → tz j n = tz k n := by
  induction k with
  | zero => intro n h0 h1 j _; have : n = 0 := by simp at h1; omega
            subst this; simp [tz, tz_stop]
  | succ k ih =>
    intro n h0 h1 j hj
    obtain ⟨j, rfl⟩ : ∃ i, j = i + 1 := ⟨j - 1, by omega⟩
    unfold tz
    split
    · rw [ih (n / 2) (by omega) (by rw [Int.pow_succ] at h1; omega) j (by omega)]
    · rfl
theorem ht_eq (n lv : Int) (h0 : 0 ≤ n) (h1 : n ≤ 18446744073709551615) (h : 1 ≤ lv) : ht n lv = 1 + tz (lv - 1).toNat n := by
  unfold ht; rw [if_neg (by omega)]
  by_cases h6 : lv - 1 ≤ 64
  · rw [show min (lv - 1) 64 = lv - 1 by omega]
  · rw [show (min (lv - 1) 64).toNat = 64 by omega]
    rw [tz_gt 64 n h0 (by omega) (lv - 1).toNat (by omega)]

set_option maxHeartbeats 400000 in
theorem refHeight_any (n lv : Int) (w : World) (h0 : 0 ≤ n) (h1 : n ≤ 18446744073709551615) (hlv : lv ≤ 9223372036854775807) :
    Calls Try.prog 9 #[.int .u64 n, .int .i64 lv] w fun e w' => e = .returned (.int .i64 (ht n lv)) ∧ w = w' := by
  by_cases h : lv < 1
  · have hf : Hid (ht n lv = 0) := by unfold Hid ht; rw [if_pos h]
    go_enter Try.func9, Try.ntmps9
    go_wp2
    go_ret
    exact ⟨ret_i64 hf.out.symm, rfl⟩
  · have hF : Hid (ht n lv = 1 + tz (lv - 1).toNat n) := ht_eq n lv h0 h1 (by omega)
    go_enter Try.func9, Try.ntmps9
    go_wp2
    go_loop [0, 5] (fun v hh => ∃ (m k : Int), v = .int .u64 m ∧ hh = .int .i64 k ∧ 0 ≤ m ∧ m ≤ 18446744073709551615 ∧ 1 ≤ k ∧ k ≤ lv ∧ Hid (ht n lv = k + tz (lv - k).toNat m)) (fun _ k => (lv - intOf k).toNat)
    case atStart => exact ⟨n, 1, rfl, rfl, h0, h1, by omega, by omega, hF⟩
    case round =>
      obtain ⟨m, k, rfl, rfl, hm0, hm1, hk0, hk1, hr⟩ := hrel
      clear hF
      by_cases hlt : k < lv
      · by_cases hm : m % 2 = 1
        · have HM : Hid (m % 2 = 1) := hm
          have hb : (m % 2 == 1) = true := by simpa using hm
          clear hm
          go_wp2
          go_round
          case rel =>
            refine ⟨m / 2, k + 1, rfl, rfl, by omega, by omega, by omega, by omega, ?_⟩
            have h2 := hr.out
            rw [show (lv - k).toNat = (lv - (k + 1)).toNat + 1 by omega, tz, if_pos HM.out] at h2
            unfold Hid; omega
          case measure => simp [intOf]; omega
        · have HM : Hid (m % 2 = 0) := by unfold Hid; omega
          have hb : (m % 2 == 1) = false := by simpa using hm
          clear hm
          go_wp2
          go_ret
          refine ⟨ret_i64 ?_, rfl⟩
          rw [hr.out, tz_stop _ _ HM.out]; omega
      · go_wp2
        all_goals
          go_ret
          refine ⟨ret_i64 ?_, rfl⟩
          rw [hr.out, show (lv - k).toNat = 0 by omega]; simp [tz]

set_option maxHeartbeats 400000 in
theorem awake05 (w : World) : Calls Try.prog 8 #[] w fun e w' => e = .returned (.bool true) ∧ w = w' := by
  go_enter Try.func8, Try.ntmps8
  go_wp2_with fail
  refine (height_any 0 4 w (by omega) (by omega) (by omega)).mono ?_
  rintro e w' ⟨rfl, rfl⟩
  rw [show ht 0 4 = 1 by decide]
  go_wp2_with fail
  refine (height_any 1 4 w (by omega) (by omega) (by omega)).mono ?_
  rintro e w' ⟨rfl, rfl⟩
  rw [show ht 1 4 = 2 by decide]
  go_wp2_with fail
  refine (height_any 11 4 w (by omega) (by omega) (by omega)).mono ?_
  rintro e w' ⟨rfl, rfl⟩
  rw [show ht 11 4 = 3 by decide]
  go_wp2_with fail
  refine (height_any 31 4 w (by omega) (by omega) (by omega)).mono ?_
  rintro e w' ⟨rfl, rfl⟩
  rw [show ht 31 4 = 4 by decide]
  go_wp2_with fail
  refine (height_any 3 0 w (by omega) (by omega) (by omega)).mono ?_
  rintro e w' ⟨rfl, rfl⟩
  rw [show ht 3 0 = 0 by decide]
  go_wp2
  go_ret
  exact ⟨rfl, rfl⟩
end Go.Proofs.Ytlpefbpamgeikaa
