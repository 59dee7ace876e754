/- DERIVED. Chapter 37: a call's text, of the program. -/
import Derived.Test.YtkdmodanfcpcfaaDoorTimers
import Derived.Laws.IdiomStrings
namespace Go.Proofs.YtkdmodanfcpcfaaDoor
open Go.RowKit

set_option maxRecDepth 20000 in
set_option maxHeartbeats 1000000 in
theorem of_1 (w : World) : Calls Tryd.prog 55 #[.int .i64 1] w fun e w' => e = .returned (.tuple #[.agg #[.string (Str [115, 116, 97, 114, 116]), .string (Str [68, 88])], .bool true]) ∧ Fr [] w w' := by
  go_enter Tryd.func55, Tryd.ntmps55
  go_wp2
  exact bodyPost_ret (v := .tuple #[.agg #[.string (Str [115, 116, 97, 114, 116]), .string (Str [68, 88])], .bool true]) (by simp [results, Tryd.results55, go_sem, Str]) rfl ⟨rfl, ((Fr.refl _ _).alloc _).alloc _⟩
set_option maxRecDepth 20000 in
set_option maxHeartbeats 1000000 in
theorem of_2 (w : World) : Calls Tryd.prog 55 #[.int .i64 2] w fun e w' => e = .returned (.tuple #[.agg #[.string (Str [115, 116, 111, 112]), .string (Str [72])], .bool true]) ∧ Fr [] w w' := by
  go_enter Tryd.func55, Tryd.ntmps55
  go_wp2
  exact bodyPost_ret (v := .tuple #[.agg #[.string (Str [115, 116, 111, 112]), .string (Str [72])], .bool true]) (by simp [results, Tryd.results55, go_sem, Str]) rfl ⟨rfl, ((Fr.refl _ _).alloc _).alloc _⟩
set_option maxRecDepth 20000 in
set_option maxHeartbeats 1000000 in
theorem of_3 (w : World) : Calls Tryd.prog 55 #[.int .i64 3] w fun e w' => e = .returned (.tuple #[.agg #[.string (Str [114, 101, 115, 101, 116]), .string (Str [72, 68, 88])], .bool true]) ∧ Fr [] w w' := by
  go_enter Tryd.func55, Tryd.ntmps55
  go_wp2
  exact bodyPost_ret (v := .tuple #[.agg #[.string (Str [114, 101, 115, 101, 116]), .string (Str [72, 68, 88])], .bool true]) (by simp [results, Tryd.results55, go_sem, Str]) rfl ⟨rfl, ((Fr.refl _ _).alloc _).alloc _⟩
set_option maxRecDepth 20000 in
set_option maxHeartbeats 1000000 in
theorem of_4 (w : World) : Calls Tryd.prog 55 #[.int .i64 4] w fun e w' => e = .returned (.tuple #[.agg #[.string (Str [101, 120, 112, 105, 114, 101]), .string (Str [78])], .bool true]) ∧ Fr [] w w' := by
  go_enter Tryd.func55, Tryd.ntmps55
  go_wp2
  exact bodyPost_ret (v := .tuple #[.agg #[.string (Str [101, 120, 112, 105, 114, 101]), .string (Str [78])], .bool true]) (by simp [results, Tryd.results55, go_sem, Str]) rfl ⟨rfl, ((Fr.refl _ _).alloc _).alloc _⟩
set_option maxRecDepth 20000 in
set_option maxHeartbeats 1000000 in
theorem of_5 (w : World) : Calls Tryd.prog 55 #[.int .i64 5] w fun e w' => e = .returned (.tuple #[.agg #[.string (Str [119, 97, 105, 116]), .string (Str [78])], .bool true]) ∧ Fr [] w w' := by
  go_enter Tryd.func55, Tryd.ntmps55
  go_wp2
  exact bodyPost_ret (v := .tuple #[.agg #[.string (Str [119, 97, 105, 116]), .string (Str [78])], .bool true]) (by simp [results, Tryd.results55, go_sem, Str]) rfl ⟨rfl, ((Fr.refl _ _).alloc _).alloc _⟩
set_option maxRecDepth 20000 in
set_option maxHeartbeats 1000000 in
theorem of_6 (w : World) : Calls Tryd.prog 55 #[.int .i64 6] w fun e w' => e = .returned (.tuple #[.agg #[.string (Str [116, 105, 100, 121]), .string (Str [])], .bool true]) ∧ Fr [] w w' := by
  go_enter Tryd.func55, Tryd.ntmps55
  go_wp2
  exact bodyPost_ret (v := .tuple #[.agg #[.string (Str [116, 105, 100, 121]), .string (Str [])], .bool true]) (by simp [results, Tryd.results55, go_sem, Str]) rfl ⟨rfl, ((Fr.refl _ _).alloc _).alloc _⟩
set_option maxRecDepth 20000 in
set_option maxHeartbeats 1000000 in
theorem of_lo (k : Int) (hk : k < 1) (w : World) : Calls Tryd.prog 55 #[.int .i64 k] w fun e w' => e = .returned (.tuple #[.agg #[.string (Str []), .string (Str [])], .bool false]) ∧ Fr [] w w' := by
  have d1 : decide (k < 1) = true := by simpa using hk
  clear hk
  go_enter Tryd.func55, Tryd.ntmps55
  go_wp2
  exact bodyPost_ret (v := .tuple #[.agg #[.string (Str []), .string (Str [])], .bool false]) (by simp [results, Tryd.results55, go_sem, Str]) rfl ⟨rfl, ((Fr.refl _ _).alloc _).alloc _⟩
set_option maxRecDepth 20000 in
set_option maxHeartbeats 1000000 in
theorem of_hi (k : Int) (hk : 6 < k) (w : World) : Calls Tryd.prog 55 #[.int .i64 k] w fun e w' => e = .returned (.tuple #[.agg #[.string (Str []), .string (Str [])], .bool false]) ∧ Fr [] w w' := by
  have d1 : decide (k < 1) = false := by simp; omega
  have d2 : decide (6 < k) = true := by simpa using hk
  clear hk
  go_enter Tryd.func55, Tryd.ntmps55
  go_wp2
  exact bodyPost_ret (v := .tuple #[.agg #[.string (Str []), .string (Str [])], .bool false]) (by simp [results, Tryd.results55, go_sem, Str]) rfl ⟨rfl, ((Fr.refl _ _).alloc _).alloc _⟩

/-- what a field's letter stands for -/
structure CallA where
  kind : Int
  deadline : Int
  draw : Nat
  handle : Nat
  count : Int
structure CallA.ok (c : CallA) : Prop where
  kind : -9223372036854775808 ≤ c.kind ∧ c.kind ≤ 9223372036854775807
  deadline : -9223372036854775808 ≤ c.deadline ∧ c.deadline ≤ 9223372036854775807
  draw : c.draw < 18446744073709551616
  handle : c.handle < 18446744073709551616
  count : -9223372036854775808 ≤ c.count ∧ c.count ≤ 9223372036854775807
abbrev callC (c : CallA) : Array Value := #[.int .i64 c.kind, .int .i64 c.deadline, .int .u64 c.draw, .int .u64 c.handle, .int .i64 c.count]
def fieldT (c : CallA) (f : UInt8) : List UInt8 := if f = 68 then Lib.itoa c.deadline else if f = 88 then Lib.decDigits c.draw else if f = 72 then handleT c.handle else Lib.itoa c.count
theorem field_len {c : CallA} (h : c.ok) (f : UInt8) : (fieldT c f).length ≤ 41 := by
  have h1 := itoa_len c.deadline h.deadline.1 h.deadline.2
  have h2 := dig_len c.draw h.draw
  have h3 := handle_len h.handle
  have h4 := itoa_len c.count h.count.1 h.count.2
  rw [Str.size] at h1 h2 h3 h4
  unfold fieldT
  split
  · omega
  · split
    · omega
    · split <;> omega
end Go.Proofs.YtkdmodanfcpcfaaDoor
