/- DERIVED. Chapter 30: a handle read from its text, of the program. -/
import Derived.Test.YtkdmodanfcpcfaaDoorHalf
import Derived.Test.YtkdmodanfcpcfaaDoorCutV
namespace Go.Proofs.YtkdmodanfcpcfaaDoor
open Go.RowKit

def handleV (s : List UInt8) : Option Nat :=
  match numB 4294967296 (cutV 46 s).1, numB 4294967296 (cutV 46 s).2.1 with
  | some g, some i => some (g * 4294967296 + i)
  | _, _ => none

theorem pair_or (a b : Nat) (ha : a < 4294967296) (hb : b < 4294967296) : bits BinOp.or IntKind.u64 ((a : Int) * 4294967296) b = ((a * 4294967296 + b : Nat) : Int) := by
  have h := u64_or_nat (a * 4294967296) b (by omega) (by omega)
  rw [show ((a * 4294967296 : Nat) : Int) = (a : Int) * 4294967296 by omega] at h
  rw [h]
  have h2 := Nat.shiftLeft_add_eq_or_of_lt (show b < 2 ^ 32 by omega) a
  rw [Nat.shiftLeft_eq] at h2
  congr 1
  exact h2.symm
set_option maxRecDepth 20000 in
theorem pair_any (a b : Nat) (ha : a < 4294967296) (hb : b < 4294967296) (w : World) :
    Calls Tryd.prog 91 #[.int .u64 a, .int .u64 b] w fun e w' => e = .returned (.int .u64 ((a * 4294967296 + b : Nat) : Int)) ∧ Fr [] w w' := by
  have L := low_any b (by omega) w
  have hl : loN b = b := by unfold loN; omega
  rw [hl] at L
  have HL := Lib.hid L
  clear L hl
  go_enter Tryd.func91, Tryd.ntmps91
  go_wp2_with fail
  refine HL.out.mono ?_
  rintro e w1 ⟨rfl, f1⟩
  clear HL
  go_wp2
  go_ret
  exact ⟨ret_u64 (pair_or a b ha hb), by rw [f1]; exact Fr.refl _ _⟩

theorem cut_any (c : UInt8) (s : List UInt8) (hs : s.length ≤ 1000000) (w : World) (hg : Glob w) :
    Calls Tryd.prog 59 #[.string (Str s), .string (Str [c])] w fun e w' => e = .returned (.tuple #[.string (Str (cutV c s).1), .string (Str (cutV c s).2.1), .bool (cutV c s).2.2]) ∧ Fr [] w w' := by
  obtain ⟨m, hm⟩ := hg.max
  refine (Tryd.strings_Cut (Str s) (Str [c]) m w (by rw [Str.size]; omega) hm).mono ?_
  rintro e w' ⟨rfl, h⟩
  rw [Str.data, Str.data, cut_eq]
  refine ⟨rfl, ?_⟩
  obtain ⟨n, rfl⟩ := h
  exact (Fr.refl _ _).drewN n

theorem tupH {n n' e e' : Int} (h1 : n = n') (h2 : e = e') : Ending.returned (.tuple #[.int .u64 n, .int .i64 e]) = .returned (.tuple #[.int .u64 n', .int .i64 e']) := by rw [h1, h2]

set_option maxRecDepth 20000 in
set_option maxHeartbeats 1000000 in
theorem hparse_any (s : List UInt8) (hs : s.length ≤ 1000000) (w : World) (hg : Glob w) :
    Calls Tryd.prog 76 #[.string (Str s)] w fun e w' => e = .returned (.tuple #[.int .u64 (((handleV s).getD 0 : Nat) : Int), .int .i64 (if (handleV s).isSome then 0 else 8)]) ∧ Fr [] w w' := by
  obtain ⟨h1, h2, _⟩ := cutV_len 46 s
  have C := cut_any 46 s hs w hg
  have H1 := fun W => half_any (cutV 46 s).1 (by omega) W
  have H2 := fun W => half_any (cutV 46 s).2.1 (by omega) W
  have HV : handleV s = match numB 4294967296 (cutV 46 s).1, numB 4294967296 (cutV 46 s).2.1 with
    | some g, some i => some (g * 4294967296 + i)
    | _, _ => none := rfl
  rw [HV]
  have n1 := fun n => @numB_lt 4294967296 (cutV 46 s).1 n
  have n2 := fun n => @numB_lt 4294967296 (cutV 46 s).2.1 n
  clear HV
  generalize numB 4294967296 (cutV 46 s).1 = o1 at *
  generalize numB 4294967296 (cutV 46 s).2.1 = o2 at *
  generalize (cutV 46 s).1 = t1 at *
  generalize (cutV 46 s).2.1 = t2 at *
  generalize (cutV 46 s).2.2 = b at *
  obtain ⟨S, hS⟩ : ∃ S, Str s = S := ⟨_, rfl⟩
  obtain ⟨S1, hS1⟩ : ∃ S, Str t1 = S := ⟨_, rfl⟩
  obtain ⟨S2, hS2⟩ : ∃ S, Str t2 = S := ⟨_, rfl⟩
  rw [hS1] at H1
  rw [hS2] at H2
  rw [hS, hS1, hS2] at C
  rw [hS]
  have HC := Lib.hid C
  have HH1 := Lib.hid H1
  have HH2 := Lib.hid H2
  have HN := Lib.hid (And.intro n1 n2)
  clear C H1 H2 n1 n2 hS hS1 hS2 hg h1 h2
  go_enter Tryd.func76, Tryd.ntmps76
  go_wp2_with fail
  rw [show (⟨#[46]⟩ : ByteArray) = Str [46] from rfl]
  refine HC.out.mono ?_
  clear HC
  rintro e w1 ⟨rfl, f1⟩
  go_wp2_with fail
  refine (HH1.out _).mono ?_
  clear HH1
  rintro e w2 ⟨rfl, f2⟩
  go_wp2_with fail
  refine (HH2.out _).mono ?_
  clear HH2
  rintro e w3 ⟨rfl, f3⟩
  have F := Lib.hid ((f1.trans0 f2).trans0 f3)
  clear f1 f2 f3
  cases o1 with
  | none =>
    simp only [Option.getD_none, Option.isSome_none]
    go_wp2
    go_ret2
    exact ⟨tupH (by first | rfl | simp) (by first | rfl | simp), F.out⟩
  | some a =>
    cases o2 with
    | none =>
      simp only [Option.getD_none, Option.isSome_none, Option.getD_some, Option.isSome_some]
      go_wp2
      go_ret2
      exact ⟨tupH (by first | rfl | simp) (by first | rfl | simp), F.out⟩
    | some b =>
      simp only [Option.getD_some, Option.isSome_some]
      have P := Lib.hid (pair_any a b (HN.out.1 a rfl) (HN.out.2 b rfl) w3)
      go_wp2_with fail
      refine P.out.mono ?_
      rintro e w4 ⟨rfl, f4⟩
      have F4 := Lib.hid (F.out.trans0 f4)
      clear f4 P
      go_wp2
      go_ret2
      exact ⟨tupH (by omega) (by simp), F4.out⟩
end Go.Proofs.YtkdmodanfcpcfaaDoor
