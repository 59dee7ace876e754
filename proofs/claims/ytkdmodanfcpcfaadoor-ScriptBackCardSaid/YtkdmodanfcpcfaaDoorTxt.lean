/- DERIVED. Texts: strings as lists of bytes; handle.Text. -/
import Derived.Test.YtkdmodanfcpcfaaDoorNumR
import Derived.Laws.BitsAllLaws
namespace Go.Proofs.YtkdmodanfcpcfaaDoor
open Go.RowKit

/-- a string of these bytes -/
def Str (l : List UInt8) : ByteArray := ⟨l.toArray⟩
theorem Str.size (l : List UInt8) : (Str l).size = l.length := by simp [Str, ByteArray.size]
theorem Str.app (a b : List UInt8) : Str a ++ Str b = Str (a ++ b) := ByteArray.mk_append_mk a b
theorem Str.lit (l : List UInt8) : (⟨l.toArray⟩ : ByteArray) = Str l := rfl
theorem ret_str {a b : ByteArray} (h : a = b) : Ending.returned (.string a) = Ending.returned (.string b) := by rw [h]

def hiN (h : Nat) : Nat := h / 4294967296
def loN (h : Nat) : Nat := h % 4294967296

theorem hi_cast (h : Nat) : (h : Int) / 4294967296 = ((hiN h : Nat) : Int) := by unfold hiN; omega
theorem lo_cast (h : Nat) : (h : Int) % 4294967296 = ((loN h : Nat) : Int) := by unfold loN; omega
theorem lo_and (h : Nat) (hh : h < 18446744073709551616) : bits BinOp.and IntKind.u64 (h : Int) 4294967295 = ((loN h : Nat) : Int) := by
  have := u64_and_nat h 4294967295 hh (by omega)
  rw [show ((4294967295 : Nat) : Int) = 4294967295 from rfl] at this
  rw [this, show (4294967295 : Nat) = 2 ^ 32 - 1 by decide, Nat.and_two_pow_sub_one_eq_mod]
  rfl
theorem ret_u64 {a b : Int} (h : a = b) : Ending.returned (.int .u64 a) = Ending.returned (.int .u64 b) := by rw [h]
theorem high_any (h : Nat) (hh : h < 18446744073709551616) (w : World) :
    Calls Tryd.prog 51 #[.int .u64 h] w fun e w' => e = .returned (.int .u64 (hiN h)) ∧ w = w' := by
  have k0 : (0 : Int) ≤ (h : Int) ∧ (h : Int) ≤ 18446744073709551615 := by omega
  go_enter Tryd.func51, Tryd.ntmps51
  go_wp2
  go_ret
  exact ⟨ret_u64 (hi_cast h), rfl⟩
theorem low_any (h : Nat) (hh : h < 18446744073709551616) (w : World) :
    Calls Tryd.prog 52 #[.int .u64 h] w fun e w' => e = .returned (.int .u64 (loN h)) ∧ w = w' := by
  have k0 : (0 : Int) ≤ (h : Int) ∧ (h : Int) ≤ 18446744073709551615 := by omega
  go_enter Tryd.func52, Tryd.ntmps52
  go_wp2
  go_ret
  exact ⟨ret_u64 (lo_and h hh), rfl⟩
theorem refHigh_any (h : Nat) (hh : h < 18446744073709551616) (w : World) :
    Calls Tryd.prog 53 #[.int .u64 h] w fun e w' => e = .returned (.int .u64 (hiN h)) ∧ w = w' := by
  have k0 : (0 : Int) ≤ (h : Int) ∧ (h : Int) ≤ 18446744073709551615 := by omega
  go_enter Tryd.func53, Tryd.ntmps53
  go_wp2
  go_ret
  exact ⟨ret_u64 (hi_cast h), rfl⟩
theorem refLow_any (h : Nat) (hh : h < 18446744073709551616) (w : World) :
    Calls Tryd.prog 54 #[.int .u64 h] w fun e w' => e = .returned (.int .u64 (loN h)) ∧ w = w' := by
  have k0 : (0 : Int) ≤ (h : Int) ∧ (h : Int) ≤ 18446744073709551615 := by omega
  go_enter Tryd.func54, Tryd.ntmps54
  go_wp2
  go_ret
  exact ⟨ret_u64 (lo_cast h), rfl⟩
end Go.Proofs.YtkdmodanfcpcfaaDoor

/- DERIVED. Texts: a handle's, of the program and of the reference. -/
namespace Go.Proofs.YtkdmodanfcpcfaaDoor
open Go.RowKit

theorem dig_len (u : Nat) (hu : u < 18446744073709551616) : (Str (Lib.decDigits u)).size ≤ 20 := by rw [Str.size, Lib.decDigits_length]; exact Lib.nDigits_le20 u hu
theorem itoa_len (n : Int) (h0 : -9223372036854775808 ≤ n) (h1 : n ≤ 9223372036854775807) : (Str (Lib.itoa n)).size ≤ 21 := by
  rw [Str.size]
  unfold Lib.itoa
  split
  · have := dig_len n.natAbs (by omega)
    rw [Str.size] at this
    simp; omega
  · have := dig_len n.toNat (by omega)
    rw [Str.size] at this
    omega
def handleT (h : Nat) : List UInt8 := Lib.decDigits (hiN h) ++ 46 :: Lib.decDigits (loN h)
theorem handleT_eq (h : Nat) : Str (handleT h) = Str (Lib.decDigits (hiN h)) ++ ⟨#[46]⟩ ++ Str (Lib.decDigits (loN h)) := by
  rw [show (⟨#[46]⟩ : ByteArray) = Str [46] from rfl, Str.app, Str.app]; simp [handleT]
theorem hi_lt {h : Nat} (hh : h < 18446744073709551616) : hiN h < 18446744073709551616 := by unfold hiN; omega
theorem lo_lt {h : Nat} (hh : h < 18446744073709551616) : loN h < 18446744073709551616 := by unfold loN; omega
theorem handle_len {h : Nat} (hh : h < 18446744073709551616) : (Str (handleT h)).size ≤ 41 := by
  have h1 := dig_len _ (hi_lt hh)
  have h2 := dig_len _ (lo_lt hh)
  rw [Str.size] at h1 h2 ⊢
  simp [handleT]; omega

set_option maxRecDepth 20000 in
set_option maxHeartbeats 1000000 in
theorem handle_any (h : Nat) (hh : h < 18446744073709551616) (w : World) (ht : Tab w) :
    Calls Tryd.prog 27 #[.int .u64 h] w fun e w' => e = .returned (.string (Str (handleT h))) ∧ Fr [] w w' := by
  have A := fun w ht => fmtU_any (hiN h) (hi_lt hh) w ht
  have B := fun w ht => fmtU_any (loN h) (lo_lt hh) w ht
  have s1 := dig_len _ (hi_lt hh)
  have s2 := dig_len _ (lo_lt hh)
  have H1 := high_any h hh
  have H2 := low_any h hh
  rw [handleT_eq]
  simp only [Str.lit] at A B
  obtain ⟨a, ha⟩ : ∃ a, Str (Lib.decDigits (hiN h)) = a := ⟨_, rfl⟩
  obtain ⟨b, hb⟩ : ∃ b, Str (Lib.decDigits (loN h)) = b := ⟨_, rfl⟩
  rw [ha] at A s1 ⊢
  rw [hb] at B s2 ⊢
  have HA := Lib.hid (And.intro A (And.intro B (And.intro H1 (And.intro H2 ht))))
  clear A B ha hb H1 H2 ht
  go_enter Tryd.func27, Tryd.ntmps27
  go_wp2_with fail
  refine (HA.out.2.2.1 _).mono ?_
  rintro e w1 ⟨rfl, rfl⟩
  go_wp2_with fail
  refine (HA.out.1 _ HA.out.2.2.2.2).mono ?_
  rintro e w1 ⟨rfl, f1⟩
  have H1 := Lib.hid f1
  clear f1
  go_wp2_with fail
  refine (HA.out.2.2.2.1 _).mono ?_
  rintro e w2 ⟨rfl, rfl⟩
  go_wp2_with fail
  refine (HA.out.2.1 _ (HA.out.2.2.2.2.keep H1.out)).mono ?_
  rintro e w2 ⟨rfl, f2⟩
  have H2 := Lib.hid (H1.out.trans0 f2)
  clear f2 H1
  go_wp2
  go_ret
  exact ⟨rfl, H2.out⟩

set_option maxRecDepth 20000 in
set_option maxHeartbeats 1000000 in
theorem refHandle_any (h : Nat) (hh : h < 18446744073709551616) (w : World) :
    Calls Tryd.prog 29 #[.int .u64 h] w fun e w' => e = .returned (.string (Str (handleT h))) ∧ Fr [] w w' := by
  have A := fun w => digits_any (hiN h) (hi_lt hh) w
  have B := fun w => digits_any (loN h) (lo_lt hh) w
  have s1 := dig_len _ (hi_lt hh)
  have s2 := dig_len _ (lo_lt hh)
  have H1 := refHigh_any h hh
  have H2 := refLow_any h hh
  rw [handleT_eq]
  simp only [Str.lit] at A B
  obtain ⟨a, ha⟩ : ∃ a, Str (Lib.decDigits (hiN h)) = a := ⟨_, rfl⟩
  obtain ⟨b, hb⟩ : ∃ b, Str (Lib.decDigits (loN h)) = b := ⟨_, rfl⟩
  rw [ha] at A s1 ⊢
  rw [hb] at B s2 ⊢
  have HA := Lib.hid (And.intro A (And.intro B (And.intro H1 H2)))
  clear A B ha hb H1 H2
  go_enter Tryd.func29, Tryd.ntmps29
  go_wp2_with fail
  refine (HA.out.2.2.1 _).mono ?_
  rintro e w1 ⟨rfl, rfl⟩
  go_wp2_with fail
  refine (HA.out.1 _).mono ?_
  rintro e w1 ⟨rfl, f1⟩
  have H1 := Lib.hid f1
  clear f1
  go_wp2_with fail
  refine (HA.out.2.2.2 _).mono ?_
  rintro e w2 ⟨rfl, rfl⟩
  go_wp2_with fail
  refine (HA.out.2.1 _).mono ?_
  rintro e w2 ⟨rfl, f2⟩
  have H2 := Lib.hid (H1.out.trans0 f2)
  clear f2 H1
  go_wp2
  go_ret
  exact ⟨rfl, H2.out⟩
end Go.Proofs.YtkdmodanfcpcfaaDoor
