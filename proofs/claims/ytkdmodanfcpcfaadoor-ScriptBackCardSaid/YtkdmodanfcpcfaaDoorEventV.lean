/- DERIVED. Chapter 8: Right, of the program and of the reference; small of chapter 42's reference. -/
import Derived.Test.YtkdmodanfcpcfaaDoorSpl
import Derived.Test.YtkdmodanfcpcfaaDoorCallP
namespace Go.Proofs.YtkdmodanfcpcfaaDoor
open Go.RowKit

structure PlanA where
  threads : Int
  slots : Int
  levels : Int
  gen : Nat
def planAgg (p : PlanA) : Value := .agg #[.int .i64 p.threads, .int .i64 p.slots, .int .i64 p.levels, .int .u64 p.gen]
def PlanA.right (p : PlanA) : Bool := decide (1 ≤ p.threads ∧ p.threads ≤ 8) && decide (1 ≤ p.slots ∧ p.slots ≤ 64) && decide (1 ≤ p.levels ∧ p.levels ≤ 8) && decide (p.gen ≤ 4294967295)

set_option maxRecDepth 20000 in
theorem within_any (n m : Int) (w : World) : Calls Tryd.prog 46 #[.int .i64 n, .int .i64 m] w fun e w' => e = .returned (.bool (decide (1 ≤ n ∧ n ≤ m))) ∧ Fr [] w w' := by
  by_cases h : 1 ≤ n
  · go_enter Tryd.func46, Tryd.ntmps46
    go_wp2
    go_ret
    exact ⟨ret_b (by simp [h]), Fr.refl _ _⟩
  · go_enter Tryd.func46, Tryd.ntmps46
    go_wp2
    go_ret
    exact ⟨ret_b (by symm; simp; omega), Fr.refl _ _⟩

set_option maxRecDepth 20000 in
set_option maxHeartbeats 1000000 in
theorem small_any (s : List UInt8) (hs : s.length ≤ 1000000) (w : World) :
    Calls Tryd.prog 63 #[.string (Str s)] w fun e w' => e = .returned (.tuple #[.int .i64 (((numB 9223372036854775808 s).getD 0 : Nat) : Int), .bool (numB 9223372036854775808 s).isSome]) ∧ Fr [] w w' := by
  have C := refWhole_any s (by omega) w
  obtain ⟨S, hS⟩ : ∃ S, Str s = S := ⟨_, rfl⟩
  rw [hS] at C ⊢
  have h63 : ∀ n, numB 9223372036854775808 s = some n ↔ numB 18446744073709551616 s = some n ∧ n < 9223372036854775808 := by
    intro n
    rw [numB_some, numB_some]
    constructor
    · rintro ⟨h1, h2⟩; exact ⟨⟨h1, by omega⟩, h2⟩
    · rintro ⟨⟨h1, _⟩, h2⟩; exact ⟨h1, h2⟩
  have HC := Lib.hid C
  clear C hS
  cases hr : numB 18446744073709551616 s with
  | none =>
    have hn : numB 9223372036854775808 s = none := by
      cases h : numB 9223372036854775808 s with
      | none => rfl
      | some n => rw [((h63 n).1 h).1] at hr; cases hr
    rw [hr] at HC
    rw [hn]
    clear h63 hn hr
    simp only [Option.getD_none, Option.isSome_none] at HC ⊢
    go_enter Tryd.func63, Tryd.ntmps63
    go_wp2_with fail
    refine HC.out.mono ?_
    rintro e w1 ⟨rfl, f1⟩
    clear HC
    go_wp2
    go_ret2
    exact ⟨rfl, f1⟩
  | some n =>
    rw [hr] at HC
    by_cases hb : n < 9223372036854775808
    · have hn : numB 9223372036854775808 s = some n := (h63 n).2 ⟨hr, hb⟩
      rw [hn]
      clear h63 hn hr
      simp only [Option.getD_some, Option.isSome_some] at HC ⊢
      have hw : wrap64 (n : Int) = n := by unfold wrap64; omega
      go_enter Tryd.func63, Tryd.ntmps63
      go_wp2_with fail
      refine HC.out.mono ?_
      rintro e w1 ⟨rfl, f1⟩
      clear HC
      go_wp2
      go_ret2
      exact ⟨by first | rfl | rw [hw], f1⟩
    · have hn : numB 9223372036854775808 s = none := by
        cases h : numB 9223372036854775808 s with
        | none => rfl
        | some m => have := (h63 m).1 h; rw [hr] at this; have h1 := this.1; injection h1 with h1; omega
      rw [hn]
      clear h63 hn hr
      simp only [Option.getD_some, Option.isSome_some, Option.getD_none, Option.isSome_none] at HC ⊢
      go_enter Tryd.func63, Tryd.ntmps63
      go_wp2_with fail
      refine HC.out.mono ?_
      rintro e w1 ⟨rfl, f1⟩
      clear HC
      go_wp2
      go_ret2
      exact ⟨rfl, f1⟩
end Go.Proofs.YtkdmodanfcpcfaaDoor

/- DERIVED. Chapter 8: Right, of the reference. -/
namespace Go.Proofs.YtkdmodanfcpcfaaDoor
open Go.RowKit

set_option maxRecDepth 20000 in
set_option maxHeartbeats 1000000 in
theorem refRight_any (t s l : Int) (g : Nat) (w : World) : Calls Tryd.prog 42 #[.agg #[.int .i64 t, .int .i64 s, .int .i64 l, .int .u64 g]] w fun e w' => e = .returned (.bool (PlanA.right ⟨t, s, l, g⟩)) ∧ Fr [] w w' := by
  obtain ⟨b, hb⟩ : ∃ b, PlanA.right ⟨t, s, l, g⟩ = b := ⟨_, rfl⟩
  rw [hb]
  have HB := Lib.hid hb
  clear hb
  go_enter Tryd.func42, Tryd.ntmps42
  go_wp2
  all_goals go_ret
  all_goals refine ⟨ret_b ?_, (Fr.refl _ _).alloc _⟩
  all_goals rw [← HB.out]
  all_goals unfold PlanA.right
  all_goals rw [Bool.eq_iff_iff]
  all_goals simp
  all_goals omega
end Go.Proofs.YtkdmodanfcpcfaaDoor

/- DERIVED. Chapter 8: Right, of the program. -/
namespace Go.Proofs.YtkdmodanfcpcfaaDoor
open Go.RowKit

theorem ret_e {a b : Int} (h : a = b) : Ending.returned (.int .i64 a) = .returned (.int .i64 b) := by rw [h]
set_option maxRecDepth 20000 in
set_option maxHeartbeats 1000000 in
theorem right_any (t s l : Int) (g : Nat) (w : World) : Calls Tryd.prog 22 #[.agg #[.int .i64 t, .int .i64 s, .int .i64 l, .int .u64 g]] w fun e w' => e = .returned (.int .i64 (if PlanA.right ⟨t, s, l, g⟩ then 0 else 1)) ∧ Fr [] w w' := by
  obtain ⟨r, hr⟩ : ∃ r : Int, (if PlanA.right ⟨t, s, l, g⟩ then 0 else 1) = r := ⟨_, rfl⟩
  rw [hr]
  have HR := Lib.hid hr
  clear hr
  have F0 : Fr [] w (w.alloc (.cells #[.int .i64 t, .int .i64 s, .int .i64 l, .int .u64 g] 38)) := (Fr.refl _ _).alloc _
  have B0 := Box.new w #[.int .i64 t, .int .i64 s, .int .i64 l, .int .u64 g] 38
  have H0 := Lib.hid (And.intro F0 B0)
  clear F0 B0
  go_enter Tryd.func22, Tryd.ntmps22
  go_upto_region 1 with (fail)
  obtain ⟨b, hb⟩ : ∃ b, w.heap.size = b := ⟨_, rfl⟩
  obtain ⟨u, hu⟩ : ∃ u, w.alloc (.cells #[.int .i64 t, .int .i64 s, .int .i64 l, .int .u64 g] 38) = u := ⟨_, rfl⟩
  rw [hb, hu] at H0
  rw [hb, hu]
  clear hb hu
  have k0 : u.cell? ⟨b, 0, none⟩ = some (.int .i64 t) := H0.out.2.cell 0
  go_wp2_with fail
  refine (within_any t 8 _).mono ?_
  rintro e w1 ⟨rfl, f1⟩
  have B1 := H0.out.2.keep0 f1
  have k1 : w1.cell? ⟨b, 1, none⟩ = some (.int .i64 s) := B1.cell 1
  have H1 := Lib.hid (And.intro (H0.out.1.trans0 f1) B1)
  clear f1 B1 k0
  by_cases c1 : 1 ≤ t ∧ t ≤ 8
  · have e1 : decide (1 ≤ t ∧ t ≤ 8) = true := by simpa using c1
    rw [e1]
    go_wp2_with fail
    refine (within_any s 64 _).mono ?_
    rintro e w2 ⟨rfl, f2⟩
    have B2 := H1.out.2.keep0 f2
    have k2 : w2.cell? ⟨b, 2, none⟩ = some (.int .i64 l) := B2.cell 2
    have H2 := Lib.hid (And.intro (H1.out.1.trans0 f2) B2)
    clear f2 B2 k1
    by_cases c2 : 1 ≤ s ∧ s ≤ 64
    · have e2 : decide (1 ≤ s ∧ s ≤ 64) = true := by simpa using c2
      rw [e2]
      go_wp2_with fail
      refine (within_any l 8 _).mono ?_
      rintro e w3 ⟨rfl, f3⟩
      have B3 := H2.out.2.keep0 f3
      have k3 : w3.cell? ⟨b, 3, none⟩ = some (.int .u64 g) := B3.cell 3
      have H3 := Lib.hid (H2.out.1.trans0 f3)
      clear f3 B3 k2
      by_cases c3 : 1 ≤ l ∧ l ≤ 8
      · have e3 : decide (1 ≤ l ∧ l ≤ 8) = true := by simpa using c3
        rw [e3]
        by_cases c4 : g ≤ 4294967295
        · go_wp2
          go_ret
          exact ⟨ret_e (by rw [← HR.out]; simp [PlanA.right, c1, c2, c3, c4]), H3.out⟩
        · go_wp2
          go_ret
          exact ⟨ret_e (by rw [← HR.out]; simp [PlanA.right, c4]), H3.out⟩
      · have e3 : decide (1 ≤ l ∧ l ≤ 8) = false := by simpa using c3
        rw [e3]
        go_wp2
        go_ret
        exact ⟨ret_e (by rw [← HR.out]; simp [PlanA.right, e3]), H3.out⟩
    · have e2 : decide (1 ≤ s ∧ s ≤ 64) = false := by simpa using c2
      rw [e2]
      go_wp2
      go_ret
      exact ⟨ret_e (by rw [← HR.out]; simp [PlanA.right, e2]), H2.out.1⟩
  · have e1 : decide (1 ≤ t ∧ t ≤ 8) = false := by simpa using c1
    rw [e1]
    go_wp2
    go_ret
    exact ⟨ret_e (by rw [← HR.out]; simp [PlanA.right, e1]), H1.out.1⟩
end Go.Proofs.YtkdmodanfcpcfaaDoor

/- DERIVED. Chapter 42: a plan's line read, of the program and of the reference. -/
namespace Go.Proofs.YtkdmodanfcpcfaaDoor
open Go.RowKit

def planW : List (List UInt8) → Option PlanA
  | [w0, w1, w2, w3, w4] => if w0 = [112, 108, 97, 110] then
      (numB 9223372036854775808 w1).bind fun a => (numB 9223372036854775808 w2).bind fun b => (numB 9223372036854775808 w3).bind fun c => (numB 18446744073709551616 w4).bind fun g =>
        if PlanA.right ⟨a, b, c, g⟩ then some ⟨a, b, c, g⟩ else none
    else none
  | _ => none
def planV (s : List UInt8) : Option PlanA := planW (wordsV s)
theorem planW_len {ws : List (List UInt8)} (h : ws.length ≠ 5) : planW ws = none := by
  unfold planW
  split
  · simp at h
  · rfl
theorem planW_head {ws : List (List UInt8)} {w0 : List UInt8} (h : ws[0]? = some w0) (h0 : w0 ≠ [112, 108, 97, 110]) : planW ws = none := by
  unfold planW
  split
  · simp at h; subst h; rw [if_neg h0]
  · rfl
/-- the bound of the word at k + 1 -/
def pB (k : Nat) : Nat := if k < 3 then 9223372036854775808 else 18446744073709551616
theorem planW_no {ws : List (List UInt8)} {k : Nat} {x : List UInt8} (hk : k < 4) (h : (ws.drop 1)[k]? = some x) (hn : numB (pB k) x = none) : planW ws = none := by
  unfold planW
  split
  · have : k = 0 ∨ k = 1 ∨ k = 2 ∨ k = 3 := by omega
    rcases this with rfl | rfl | rfl | rfl
    all_goals simp at h
    all_goals subst h
    all_goals simp [pB] at hn
    · simp [hn]
    · split
      · cases numB 9223372036854775808 _ <;> simp [hn]
      · rfl
    · split
      · cases numB 9223372036854775808 _ <;> simp
        cases numB 9223372036854775808 _ <;> simp [hn]
      · rfl
    · split
      · cases numB 9223372036854775808 _ <;> simp
        cases numB 9223372036854775808 _ <;> simp
        cases numB 9223372036854775808 _ <;> simp [hn]
      · rfl
  · rfl
theorem planW_yes {ws : List (List UInt8)} (h5 : ws.length = 5) (h0 : ws[0]? = some [112, 108, 97, 110]) {a b c g : Nat}
    (h1 : ∃ x, (ws.drop 1)[0]? = some x ∧ numB (pB 0) x = some a) (h2 : ∃ x, (ws.drop 1)[1]? = some x ∧ numB (pB 1) x = some b)
    (h3 : ∃ x, (ws.drop 1)[2]? = some x ∧ numB (pB 2) x = some c) (h4 : ∃ x, (ws.drop 1)[3]? = some x ∧ numB (pB 3) x = some g) :
    planW ws = if PlanA.right ⟨a, b, c, g⟩ then some ⟨a, b, c, g⟩ else none := by
  match ws, h5 with
  | [w0, w1, w2, w3, w4], _ =>
    simp [pB] at h0 h1 h2 h3 h4
    simp [planW, h0, h1, h2, h3, h4]

/-- what a reader of plans answers: the plan counts only if there is one -/
def PlanR (s : List UInt8) (e : Ending) : Prop :=
  ∃ p, e = .returned (.tuple #[planAgg p, .bool (planV s).isSome]) ∧ ∀ q, planV s = some q → p = q
end Go.Proofs.YtkdmodanfcpcfaaDoor

/- DERIVED. Chapter 42: an event's line read: plain. -/
namespace Go.Proofs.YtkdmodanfcpcfaaDoor
open Go.RowKit

structure EventA where
  kind : Int
  thread : Int
  call : CallA
  ticks : Int
def eventAgg (e : EventA) : Value := .agg #[.int .i64 e.kind, .int .i64 e.thread, .int .i64 e.call.kind, .int .i64 e.call.deadline, .int .u64 e.call.draw, .int .u64 e.call.handle, .int .i64 e.call.count, .int .i64 e.ticks]
def noEvent : EventA := ⟨0, 0, noCall, 0⟩
def wCall : List UInt8 := [99, 97, 108, 108]
def wStep : List UInt8 := [115, 116, 101, 112]
def wTick : List UInt8 := [116, 105, 99, 107]
/-- by the first word, the second, whether there is more, and that -/
def eventU (word number text : List UInt8) (more : Bool) : Option EventA :=
  (numB 9223372036854775808 number).bind fun n =>
    if more ≠ decide (word = wCall) then none
    else if word = wStep then some ⟨2, n, noCall, 0⟩
    else if word = wTick then some ⟨3, 0, noCall, n⟩
    else if word = wCall then (callV text).map fun c => ⟨1, n, c, 0⟩
    else none
def eventV (s : List UInt8) : Option EventA :=
  eventU (cutV 32 s).1 (cutV 32 (cutV 32 s).2.1).1 (cutV 32 (cutV 32 s).2.1).2.1 (cutV 32 (cutV 32 s).2.1).2.2
def EventR (s : List UInt8) (e : Ending) : Prop :=
  ∃ p, e = .returned (.tuple #[eventAgg p, .bool (eventV s).isSome]) ∧ ∀ q, eventV s = some q → p = q
end Go.Proofs.YtkdmodanfcpcfaaDoor
