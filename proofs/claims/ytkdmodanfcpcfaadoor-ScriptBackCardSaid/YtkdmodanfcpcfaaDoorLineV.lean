/- DERIVED. Chapter 42: an event's line, a plan's line, a script's text: plain. -/
import Derived.Test.YtkdmodanfcpcfaaDoorScriptV
import Derived.Test.YtkdmodanfcpcfaaDoorRefCall
namespace Go.Proofs.YtkdmodanfcpcfaaDoor
open Go.RowKit

instance : DecidableEq CallA := fun a b => decidable_of_iff (a.kind = b.kind ∧ a.deadline = b.deadline ∧ a.draw = b.draw ∧ a.handle = b.handle ∧ a.count = b.count) (by cases a; cases b; simp)
structure EventA.ok (e : EventA) : Prop where
  kind : -9223372036854775808 ≤ e.kind ∧ e.kind ≤ 9223372036854775807
  thread : -9223372036854775808 ≤ e.thread ∧ e.thread ≤ 9223372036854775807
  call : e.call.ok
  ticks : -9223372036854775808 ≤ e.ticks ∧ e.ticks ≤ 9223372036854775807
/-- is the call read from its text? -/
def backV (c : CallA) : Prop := callV (callT c) = some c
instance (c : CallA) : Decidable (backV c) := inferInstanceAs (Decidable (_ = _))
def lineV (e : EventA) : Option (List UInt8) :=
  if e.kind = 1 then (if backV e.call ∧ e.ticks = 0 ∧ 0 ≤ e.thread then some (wCall ++ 32 :: Lib.itoa e.thread ++ 32 :: callT e.call ++ [10]) else none)
  else if e.kind = 2 then (if e.call = noCall ∧ e.ticks = 0 ∧ 0 ≤ e.thread then some (wStep ++ 32 :: Lib.itoa e.thread ++ [10]) else none)
  else if e.kind = 3 then (if e.call = noCall ∧ e.thread = 0 ∧ 0 ≤ e.ticks then some (wTick ++ 32 :: Lib.itoa e.ticks ++ [10]) else none)
  else none
def LineR (e : EventA) (x : Ending) : Prop := x = .returned (.tuple #[.string (Str ((lineV e).getD [])), .bool (lineV e).isSome])
def planT (p : PlanA) : List UInt8 := [112, 108, 97, 110] ++ 32 :: Lib.itoa p.threads ++ 32 :: Lib.itoa p.slots ++ 32 :: Lib.itoa p.levels ++ 32 :: Lib.decDigits p.gen ++ [10]
def linesV (l : List EventA) : List UInt8 := l.flatMap fun e => (lineV e).getD []
def allV (l : List EventA) : Prop := ∀ e ∈ l, (lineV e).isSome = true
instance (l : List EventA) : Decidable (allV l) := inferInstanceAs (Decidable (∀ e ∈ l, _))
/-- a text, or why there is none -/
def textV (p : PlanA) (l : List EventA) : List UInt8 × Int :=
  if p.right = true then (if allV l then (if 262144 < (planT p ++ linesV l).length then ([], 10) else (planT p ++ linesV l, 0)) else ([], 2)) else ([], 1)
theorem lineV_len {e : EventA} (h : e.ok) : ((lineV e).getD []).length ≤ 300 := by
  have h1 := itoa_len e.thread h.thread.1 h.thread.2
  have h2 := itoa_len e.ticks h.ticks.1 h.ticks.2
  have h3 := callT_len h.call
  rw [Str.size] at h1 h2 h3
  unfold lineV
  split
  · split
    · simp [wCall]; omega
    · simp
  split
  · split
    · simp [wStep]; omega
    · simp
  split
  · split
    · simp [wTick]; omega
    · simp
  · simp
end Go.Proofs.YtkdmodanfcpcfaaDoor
