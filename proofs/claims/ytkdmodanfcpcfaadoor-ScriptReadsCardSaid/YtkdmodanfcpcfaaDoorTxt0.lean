/- DERIVED. Texts: strings as lists of bytes; handle.Text. -/
import Derived.Test.YtkdmodanfcpcfaaDoorNumR
import Derived.Laws.BitsAllLaws
namespace Go.Proofs.YtkdmodanfcpcfaaDoor
open Go.RowKit

/-- a string of these bytes -/
def Str (l : List UInt8) : ByteArray := ⟨l.toArray⟩
theorem Str.size (l : List UInt8) : (Str l).size = l.length := by simp [Str, ByteArray.size]
theorem Str.app (a b : List UInt8) : Str a ++ Str b = Str (a ++ b) := ByteArray.mk_append_mk a b
theorem Str.lit (l : List UInt8) : (⟨l.toArray⟩ : ByteArray) = Str l := rfl
theorem ret_str {a b : ByteArray} (h : a = b) : Ending.returned (.string a) = Ending.returned (.string b) := by rw [h]

def hiN (h : Nat) : Nat := h / 4294967296
def loN (h : Nat) : Nat := h % 4294967296

theorem hi_cast (h : Nat) : (h : Int) / 4294967296 = ((hiN h : Nat) : Int) := by unfold hiN; omega
theorem lo_cast (h : Nat) : (h : Int) % 4294967296 = ((loN h : Nat) : Int) := by unfold loN; omega
theorem lo_and (h : Nat) (hh : h < 18446744073709551616) : bits BinOp.and IntKind.u64 (h : Int) 4294967295 = ((loN h : Nat) : Int) := by
  have := u64_and_nat h 4294967295 hh (by omega)
  rw [show ((4294967295 : Nat) : Int) = 4294967295 from rfl] at this
  rw [this, show (4294967295 : Nat) = 2 ^ 32 - 1 by decide, Nat.and_two_pow_sub_one_eq_mod]
  rfl
theorem ret_u64 {a b : Int} (h : a = b) : Ending.returned (.int .u64 a) = Ending.returned (.int .u64 b) := by rw [h]
theorem high_any (h : Nat) (hh : h < 18446744073709551616) (w : World) :
    Calls Tryd.prog 51 #[.int .u64 h] w fun e w' => e = .returned (.int .u64 (hiN h)) ∧ w = w' := by
  have k0 : (0 : Int) ≤ (h : Int) ∧ (h : Int) ≤ 18446744073709551615 := by omega
  go_enter Tryd.func51, Tryd.ntmps51
  go_wp2
  go_ret
  exact ⟨ret_u64 (hi_cast h), rfl⟩
theorem low_any (h : Nat) (hh : h < 18446744073709551616) (w : World) :
    Calls Tryd.prog 52 #[.int .u64 h] w fun e w' => e = .returned (.int .u64 (loN h)) ∧ w = w' := by
  have k0 : (0 : Int) ≤ (h : Int) ∧ (h : Int) ≤ 18446744073709551615 := by omega
  go_enter Tryd.func52, Tryd.ntmps52
  go_wp2
  go_ret
  exact ⟨ret_u64 (lo_and h hh), rfl⟩
theorem refHigh_any (h : Nat) (hh : h < 18446744073709551616) (w : World) :
    Calls Tryd.prog 53 #[.int .u64 h] w fun e w' => e = .returned (.int .u64 (hiN h)) ∧ w = w' := by
  have k0 : (0 : Int) ≤ (h : Int) ∧ (h : Int) ≤ 18446744073709551615 := by omega
  go_enter Tryd.func53, Tryd.ntmps53
  go_wp2
  go_ret
  exact ⟨ret_u64 (hi_cast h), rfl⟩
theorem refLow_any (h : Nat) (hh : h < 18446744073709551616) (w : World) :
    Calls Tryd.prog 54 #[.int .u64 h] w fun e w' => e = .returned (.int .u64 (loN h)) ∧ w = w' := by
  have k0 : (0 : Int) ≤ (h : Int) ∧ (h : Int) ≤ 18446744073709551615 := by omega
  go_enter Tryd.func54, Tryd.ntmps54
  go_wp2
  go_ret
  exact ⟨ret_u64 (lo_cast h), rfl⟩
end Go.Proofs.YtkdmodanfcpcfaaDoor
