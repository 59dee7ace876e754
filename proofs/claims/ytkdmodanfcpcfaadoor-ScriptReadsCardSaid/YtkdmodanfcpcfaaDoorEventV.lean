/- DERIVED. Chapter 42: an event's line read: plain. -/
import Derived.Test.YtkdmodanfcpcfaaDoorPlanV
namespace Go.Proofs.YtkdmodanfcpcfaaDoor
open Go.RowKit

structure EventA where
  kind : Int
  thread : Int
  call : CallA
  ticks : Int
def eventAgg (e : EventA) : Value := .agg #[.int .i64 e.kind, .int .i64 e.thread, .int .i64 e.call.kind, .int .i64 e.call.deadline, .int .u64 e.call.draw, .int .u64 e.call.handle, .int .i64 e.call.count, .int .i64 e.ticks]
def noEvent : EventA := ⟨0, 0, noCall, 0⟩
def wCall : List UInt8 := [99, 97, 108, 108]
def wStep : List UInt8 := [115, 116, 101, 112]
def wTick : List UInt8 := [116, 105, 99, 107]
/-- by the first word, the second, whether there is more, and that -/
def eventU (word number text : List UInt8) (more : Bool) : Option EventA :=
  (numB 9223372036854775808 number).bind fun n =>
    if more ≠ decide (word = wCall) then none
    else if word = wStep then some ⟨2, n, noCall, 0⟩
    else if word = wTick then some ⟨3, 0, noCall, n⟩
    else if word = wCall then (callV text).map fun c => ⟨1, n, c, 0⟩
    else none
def eventV (s : List UInt8) : Option EventA :=
  eventU (cutV 32 s).1 (cutV 32 (cutV 32 s).2.1).1 (cutV 32 (cutV 32 s).2.1).2.1 (cutV 32 (cutV 32 s).2.1).2.2
def EventR (s : List UInt8) (e : Ending) : Prop :=
  ∃ p, e = .returned (.tuple #[eventAgg p, .bool (eventV s).isSome]) ∧ ∀ q, eventV s = some q → p = q
end Go.Proofs.YtkdmodanfcpcfaaDoor
