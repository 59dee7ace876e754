/- 'DrawMore' of law 5 returns true for every input: with more levels no height is less, it is from 1 to how many levels there are, and of an even number it is 1. No condition. -/
import Derived.Test.YtlpefbpamgeikaaDrawB
import Derived.Test.YtlpefbpamgeikaaLib
import Derived.ProofKit
import Derived.OpenShut
import Derived.ShutString
namespace Go.Proofs.Ytlpefbpamgeikaa.drawMore
open Go.ChangeShapes Go.WideShapes Go.ChangeAt Go.RowKit
open Go.ChangeMaps (open_string shut_string)
set_option linter.unusedVariables false

theorem own : ownKnob Try.prog.godebug = none := by kernel_rfl

theorem ht_le (n a b : Int) (h0 : 0 ≤ n) (h1 : n ≤ 18446744073709551615) (ha : 1 ≤ a) (hab : a ≤ b) : ht n a ≤ ht n b ∧ (ht n a = a ∨ ht n a = ht n b) := by
  rw [ht_eq n a h0 h1 ha, ht_eq n b h0 h1 (by omega)]
  have key : ∀ j k : Nat, ∀ n : Int, j ≤ k → tz j n ≤ tz k n ∧ (tz j n = j ∨ tz j n = tz k n) := by
    intro j
    induction j with
    | zero => intro k n _; have := tz_bd k n; simp [tz]; omega
    | succ j ih =>
      intro k n hk
      obtain ⟨k, rfl⟩ : ∃ i, k = i + 1 := ⟨k - 1, by omega⟩
      have := ih k (n / 2) (by omega)
      unfold tz
      split
      · push_cast; omega
      · simp
  have := key (a - 1).toNat (b - 1).toNat n (by omega)
  omega
theorem ht_even (n a : Int) (h0 : 0 ≤ n) (h1 : n ≤ 18446744073709551615) (ha : 1 ≤ a) (he : n % 2 = 0) : ht n a = 1 := by
  rw [ht_eq n a h0 h1 ha, tz_stop _ _ he]; rfl
theorem ht_odd (n a : Int) (h0 : 0 ≤ n) (h1 : n ≤ 18446744073709551615) (ha : 2 ≤ a) (he : n % 2 = 1) : 1 < ht n a := by
  rw [ht_eq n a h0 h1 (by omega), show (a - 1).toNat = (a - 2).toNat + 1 by omega, tz, if_pos he]
  have := tz_bd (a - 2).toNat (n / 2); omega

set_option maxHeartbeats 1000000 in
theorem core (n lv more : Int) (w : World) (h0 : 0 ≤ n) (h1 : n ≤ 18446744073709551615) (hl : lv ≤ 9223372036854775807) (hm : more ≤ 9223372036854775807) (hl1 : 1 ≤ lv) (hlm : lv ≤ more) :
    Calls Try.prog 3 #[.int .u64 n, .int .i64 lv, .int .i64 more] w fun e w' => e = .returned (.bool true) ∧ w = w' := by
  have b1 := ht_bd n lv hl1
  have b2 := ht_le n lv more h0 h1 hl1 hlm
  have b3 := ht_even n lv h0 h1 hl1
  have b4 := ht_odd n lv h0 h1
  have H := Lib.hid (And.intro b1 (And.intro b2 (And.intro b3 b4)))
  clear b1 b2 b3 b4
  go_enter Try.func3, Try.ntmps3
  go_wp2_with fail
  refine (height_any n lv w h0 h1 hl).mono ?_
  rintro e w' ⟨rfl, rfl⟩
  go_wp2_with fail
  refine (height_any n more w h0 h1 hm).mono ?_
  rintro e w' ⟨rfl, rfl⟩
  generalize ht n lv = h at H ⊢
  generalize ht n more = k at H ⊢
  obtain ⟨⟨c1, c2, _⟩, ⟨c3, c4⟩, c5, c6⟩ := H.out
  by_cases e1 : n % 2 = 0
  · have e2 := c5 e1
    have f1 : (n % 2 == 1) = false := by simp; omega
    have f2 : (n % 2 == 0) = true := by simpa using e1
    have f3 : (h == 1) = true := by simpa using e2
    have K := Lib.hid e2
    by_cases e4 : h = lv
    · have f4 : (h == lv) = true := by simpa using e4
      clear c4 c5 c6 H e1 e2 e4
      go_wp2_with fail
      refine (awake05 w).mono ?_
      rintro e w' ⟨rfl, rfl⟩
      go_wp2
      go_ret
      exact ⟨rfl, rfl⟩
    · have f4 : (h == lv) = false := by simpa using e4
      have f5 : (h == k) = true := by have := c4.resolve_left e4; simpa using this
      clear c4 c5 c6 H e1 e2 e4
      go_wp2_with fail
      refine (awake05 w).mono ?_
      rintro e w' ⟨rfl, rfl⟩
      go_wp2
      go_ret
      exact ⟨rfl, rfl⟩
  · have f1 : (n % 2 == 1) = true := by simp; omega
    have f2 : (n % 2 == 0) = false := by simpa using e1
    have c6' : 2 ≤ lv → 1 < h := fun q => c6 q (by omega)
    by_cases e4 : h = lv
    · have f4 : (h == lv) = true := by simpa using e4
      by_cases e5 : lv = 1
      · have f5 : (lv == 1) = true := by simpa using e5
        clear c4 c5 c6 c6' H e1 e4 e5
        go_wp2_with fail
        refine (awake05 w).mono ?_
        rintro e w' ⟨rfl, rfl⟩
        go_wp2
        go_ret
        exact ⟨rfl, rfl⟩
      · have f5 : (lv == 1) = false := by simpa using e5
        have f6 : 1 < h := c6' (by omega)
        clear c4 c5 c6 c6' H e1 e4 e5
        go_wp2_with fail
        refine (awake05 w).mono ?_
        rintro e w' ⟨rfl, rfl⟩
        go_wp2
        go_ret
        exact ⟨rfl, rfl⟩
    · have f4 : (h == lv) = false := by simpa using e4
      have f7 : (h == k) = true := by have := c4.resolve_left e4; simpa using this
      have e5 : lv ≠ 1 := by omega
      have f5 : (lv == 1) = false := by simpa using e5
      have f6 : 1 < h := c6' (by omega)
      clear c4 c5 c6 c6' H e1 e4 e5
      go_wp2_with fail
      refine (awake05 w).mono ?_
      rintro e w' ⟨rfl, rfl⟩
      go_wp2
      go_ret
      exact ⟨rfl, rfl⟩

set_option maxHeartbeats 400000 in
theorem low (n lv more : Int) (w : World) (h0 : 0 ≤ n) (h1 : n ≤ 18446744073709551615) (hl : lv < 1 ∨ more < lv) :
    Calls Try.prog 3 #[.int .u64 n, .int .i64 lv, .int .i64 more] w fun e w' => e = .returned (.bool true) ∧ w = w' := by
  have b : ht n 1 = 1 := by unfold ht; rw [if_neg (by omega)]; rfl
  have H := Lib.hid b
  clear b
  by_cases e1 : lv < 1
  · go_enter Try.func3, Try.ntmps3
    go_wp2_with fail
    refine (height_any n 1 w h0 h1 (by omega)).mono ?_
    rintro e w' ⟨rfl, rfl⟩
    rw [H.out]
    go_wp2_with fail
    refine (awake05 w).mono ?_
    rintro e w' ⟨rfl, rfl⟩
    go_wp2
    go_ret
    exact ⟨rfl, rfl⟩
  · have e2 : more < lv := by omega
    go_enter Try.func3, Try.ntmps3
    go_wp2_with fail
    refine (height_any n 1 w h0 h1 (by omega)).mono ?_
    rintro e w' ⟨rfl, rfl⟩
    rw [H.out]
    go_wp2_with fail
    refine (awake05 w).mono ?_
    rintro e w' ⟨rfl, rfl⟩
    go_wp2
    go_ret
    exact ⟨rfl, rfl⟩

theorem walk (a0 : Int) (a1 : Int) (a2 : Int) (w0 : (Lit.int .u64 a0).wf = true) (w1 : (Lit.int .i64 a1).wf = true) (w2 : (Lit.int .i64 a2).wf = true) (w : World) :
    Calls Try.prog 3 #[.int .u64 a0, .int .i64 a1, .int .i64 a2] w fun e w' => e = .returned (.bool true) ∧ Grown w w' := by
  have b0 := bounds_u64 w0
  have b1 := bounds_i64 w1
  have b2 := bounds_i64 w2
  by_cases h : 1 ≤ a1 ∧ a1 ≤ a2
  · refine (core a0 a1 a2 w (by omega) (by omega) (by omega) (by omega) h.1 h.2).mono ?_
    rintro e w' ⟨rfl, rfl⟩
    exact ⟨rfl, Grown.refl _⟩
  · refine (low a0 a1 a2 w (by omega) (by omega) (by omega)).mono ?_
    rintro e w' ⟨rfl, rfl⟩
    exact ⟨rfl, Grown.refl _⟩

/-! ### THE ROW's STEP: WRITTEN OUT: LEAVE IT -/
set_option maxRecDepth 100000 in
theorem lifted (os : Os) (started : os.Started) (H : Type) (enc : TypeId × Value → H) :
    ReturnsInHanded {} Try.checked os 3 .any (Rows.drawMoreSpec.pre6 enc Try.prog Try.f3 Rows.drawMoreRow.domain false) (Rows.drawMoreSpec.post enc Try.prog Try.f3 false true false false) := by
  refine returnsInHanded_of_change (C := Try.checked) own started (by kernel_rfl) Try.func3
    (ChangeSpec.witness6 (enc := enc) (C := Try.checked) false ⟨#[], #[.int .u64 0, .int .i64 0, .int .i64 0], []⟩ 8 (by kernel_rfl) (by kernel_rfl) (by kernel_rfl) (by kernel_rfl)) ?_
  intro W base args ds gs before hval0 hW hcnd _
  have hval : ∀ (j : Nat) t v, Try.f3.params[j]? = some t → args[j]? = some v → Value.okWide Try.prog W .any base t v := hval0
  have hW' := hW
  obtain ⟨p, q, hA0, hV, rfl, hfz, hnd⟩ := hW
  have hA : DataW.TrodAll enc Try.prog W 0 (fun _ => true) true Try.f3.params.toList args.toList ds p := hA0
  rw [Try.params3] at hA hval
  obtain ⟨v0, vs0, d0, ds0, p0, q0, hargs, rfl, rfl, h0, r0⟩ := trodAll_cons hA
  obtain ⟨v1, vs1, d1, ds1, p1, q1, rfl, rfl, rfl, h1, r1⟩ := trodAll_cons r0
  obtain ⟨v2, vs2, d2, ds2, p2, q2, rfl, rfl, rfl, h2, r2⟩ := trodAll_cons r1
  obtain ⟨rfl, rfl, rfl⟩ := trodAll_nil r2
  obtain rfl : args = #[v0, v1, v2] := by cases args; simp_all
  obtain ⟨rfl, rfl⟩ := trodVars_none hV
  obtain ⟨a0, rfl, rfl, rfl, w0⟩ := open_int Try.underlying22 (hval 0 22 v0 rfl rfl) h0
  obtain ⟨a1, rfl, rfl, rfl, w1⟩ := open_int Try.underlying3 (hval 1 3 v1 rfl rfl) h1
  obtain ⟨a2, rfl, rfl, rfl, w2⟩ := open_int Try.underlying3 (hval 2 3 v2 rfl rfl) h2
  clear hA0 hval0
  simp only [List.append_nil] at hW'
  refine (walk a0 a1 a2 w0 w1 w2 W).mono fun e W' ⟨he, hg⟩ => ?_
  subst he
  exact ⟨_, rfl, post_of_same (pa := []) (pv := []) hW' (fun _ _ _ => (trodAll_cons_mk (shut_bool Try.underlying4 _) trodAll_mk0)) (fun sp _ => (trodAll_cons_mk (shut_int Try.underlying22 w0) (trodAll_cons_mk (shut_int Try.underlying3 w1) (trodAll_cons_mk (shut_int Try.underlying3 w2) trodAll_mk0)))) (fun _ _ => rfl) rfl
    (hg.frame _) hg.2.1 (ok_one (by kernel_rfl) rfl (okWide_bool_mk Try.underlying4 _))⟩

theorem over : Rows.drawMoreRow.holds Try.pinned (OpenSpec.ofChange Rows.drawMoreSpec) :=
  OpenClaim.holds_of_wide 3 Try.f3 rfl rfl rfl rfl rfl rfl rfl ⟨rfl, rfl, rfl, rfl, rfl⟩ rfl rfl rfl rfl rfl (by kernel_rfl) Try.func3 (by kernel_rfl)
    (of_decide_eq_true (by kernel_rfl)) (by unfold Func.isWrapper; first | (rw [if_pos (by decide +kernel)]; kernel_rfl) | (rw [if_neg (by decide +kernel)]; exact ⟨rfl, rfl⟩))
    (fun os started H enc _ => lifted os started H enc)

/-- ████ THE STATEMENT ████ -/
theorem proved : Rows.DrawMoreSaid :=
  over
#print axioms proved
end Go.Proofs.Ytlpefbpamgeikaa.drawMore
