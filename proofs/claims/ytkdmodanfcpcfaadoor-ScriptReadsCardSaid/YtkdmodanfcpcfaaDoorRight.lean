/- DERIVED. Chapter 8: Right, of the program and of the reference; small of chapter 42's reference. -/
import Derived.Test.YtkdmodanfcpcfaaDoorSpl
namespace Go.Proofs.YtkdmodanfcpcfaaDoor
open Go.RowKit

structure PlanA where
  threads : Int
  slots : Int
  levels : Int
  gen : Nat
def planAgg (p : PlanA) : Value := .agg #[.int .i64 p.threads, .int .i64 p.slots, .int .i64 p.levels, .int .u64 p.gen]
def PlanA.right (p : PlanA) : Bool := decide (1 ≤ p.threads ∧ p.threads ≤ 8) && decide (1 ≤ p.slots ∧ p.slots ≤ 64) && decide (1 ≤ p.levels ∧ p.levels ≤ 8) && decide (p.gen ≤ 4294967295)

set_option maxRecDepth 20000 in
theorem within_any (n m : Int) (w : World) : Calls Tryd.prog 46 #[.int .i64 n, .int .i64 m] w fun e w' => e = .returned (.bool (decide (1 ≤ n ∧ n ≤ m))) ∧ Fr [] w w' := by
  by_cases h : 1 ≤ n
  · go_enter Tryd.func46, Tryd.ntmps46
    go_wp2
    go_ret
    exact ⟨ret_b (by simp [h]), Fr.refl _ _⟩
  · go_enter Tryd.func46, Tryd.ntmps46
    go_wp2
    go_ret
    exact ⟨ret_b (by symm; simp; omega), Fr.refl _ _⟩

set_option maxRecDepth 20000 in
set_option maxHeartbeats 1000000 in
theorem small_any (s : List UInt8) (hs : s.length ≤ 1000000) (w : World) :
    Calls Tryd.prog 63 #[.string (Str s)] w fun e w' => e = .returned (.tuple #[.int .i64 (((numB 9223372036854775808 s).getD 0 : Nat) : Int), .bool (numB 9223372036854775808 s).isSome]) ∧ Fr [] w w' := by
  have C := refWhole_any s (by omega) w
  obtain ⟨S, hS⟩ : ∃ S, Str s = S := ⟨_, rfl⟩
  rw [hS] at C ⊢
  have h63 : ∀ n, numB 9223372036854775808 s = some n ↔ numB 18446744073709551616 s = some n ∧ n < 9223372036854775808 := by
    intro n
    rw [numB_some, numB_some]
    constructor
    · rintro ⟨h1, h2⟩; exact ⟨⟨h1, by omega⟩, h2⟩
    · rintro ⟨⟨h1, _⟩, h2⟩; exact ⟨h1, h2⟩
  have HC := Lib.hid C
  clear C hS
  cases hr : numB 18446744073709551616 s with
  | none =>
    have hn : numB 9223372036854775808 s = none := by
      cases h : numB 9223372036854775808 s with
      | none => rfl
      | some n => rw [((h63 n).1 h).1] at hr; cases hr
    rw [hr] at HC
    rw [hn]
    clear h63 hn hr
    simp only [Option.getD_none, Option.isSome_none] at HC ⊢
    go_enter Tryd.func63, Tryd.ntmps63
    go_wp2_with fail
    refine HC.out.mono ?_
    rintro e w1 ⟨rfl, f1⟩
    clear HC
    go_wp2
    go_ret2
    exact ⟨rfl, f1⟩
  | some n =>
    rw [hr] at HC
    by_cases hb : n < 9223372036854775808
    · have hn : numB 9223372036854775808 s = some n := (h63 n).2 ⟨hr, hb⟩
      rw [hn]
      clear h63 hn hr
      simp only [Option.getD_some, Option.isSome_some] at HC ⊢
      have hw : wrap64 (n : Int) = n := by unfold wrap64; omega
      go_enter Tryd.func63, Tryd.ntmps63
      go_wp2_with fail
      refine HC.out.mono ?_
      rintro e w1 ⟨rfl, f1⟩
      clear HC
      go_wp2
      go_ret2
      exact ⟨by first | rfl | rw [hw], f1⟩
    · have hn : numB 9223372036854775808 s = none := by
        cases h : numB 9223372036854775808 s with
        | none => rfl
        | some m => have := (h63 m).1 h; rw [hr] at this; have h1 := this.1; injection h1 with h1; omega
      rw [hn]
      clear h63 hn hr
      simp only [Option.getD_some, Option.isSome_some, Option.getD_none, Option.isSome_none] at HC ⊢
      go_enter Tryd.func63, Tryd.ntmps63
      go_wp2_with fail
      refine HC.out.mono ?_
      rintro e w1 ⟨rfl, f1⟩
      clear HC
      go_wp2
      go_ret2
      exact ⟨rfl, f1⟩
end Go.Proofs.YtkdmodanfcpcfaaDoor
