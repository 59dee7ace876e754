/- DERIVED. Numbers' texts: the reference's. -/
import Derived.Test.YtkdmodanfcpcfaaDoorNum
import Derived.RegionTactic
import Derived.BigRegion
import Derived.BigQuiet
import Derived.Deep.RegionHeld3
import Derived.Deep.Cut
import Derived.Lib.ItoaLen
namespace Go.Proofs.YtkdmodanfcpcfaaDoor
open Go.RowKit

theorem one_byte (d : Nat) (hd : d < 10) (W : World) (g c : Nat) (h : W.cell? ⟨g, 0, none⟩ = some (.int .u8 (48 + (d : Int)))) :
    (convert 70 9 (.slice (some ⟨g, 0, none⟩) 1 c)).run Tryd.prog W = .ok (.string ⟨#[UInt8.ofNat (48 + d)]⟩) W := by
  have := run_convert_bytes_back (P := Tryd.prog) W 70 9 5 ⟨g, 0, none⟩ c [UInt8.ofNat (48 + d)] Tryd.underlying70 Tryd.underlying5 Tryd.underlying9 (fun j hj => by
    simp at hj; subst hj
    rw [Lib.add_plain, h]
    simp [UInt8.toNat_ofNat]
    omega)
  exact this

set_option maxRecDepth 20000 in
set_option maxHeartbeats 1000000 in
theorem digits_small (u : Nat) (hu : u < 10) (w : World) :
    Calls Tryd.prog 48 #[.int .u64 u] w fun e w' => e = .returned (.string ⟨(Lib.decDigits u).toArray⟩) ∧ Fr [] w w' := by
  rw [Lib.decDigits_one hu]
  have d1 : decide ((u : Int) < 10) = true := by simp; omega
  have h1 : (0 : Int) ≤ 48 + (u : Int) ∧ 48 + (u : Int) ≤ 255 := by omega
  have hcv := one_byte u hu (w.alloc (.cells #[.int .u8 (48 + (u : Int))] 5)) w.heap.size 1 (by rw [World.cell?_alloc_new]; rfl)
  obtain ⟨s, hs⟩ : ∃ s : ByteArray, (⟨#[UInt8.ofNat (48 + u)]⟩ : ByteArray) = s := ⟨_, rfl⟩
  rw [hs] at hcv
  show Calls Tryd.prog 48 #[.int .u64 u] w fun e w' => e = .returned (.string ⟨#[UInt8.ofNat (48 + u)]⟩) ∧ Fr [] w w'
  rw [hs]
  clear hs
  go_enter Tryd.func48, Tryd.ntmps48
  go_wp2
  go_ret
  exact ⟨rfl, (Fr.refl _ _).alloc _⟩

set_option maxRecDepth 20000 in
set_option maxHeartbeats 1000000 in
theorem digits_big (u : Nat) (hu : ¬ u < 10) (h64 : u < 18446744073709551616) (w : World) (ih : ∀ w, Calls Tryd.prog 48 #[.int .u64 (u / 10 : Nat)] w fun e w' => e = .returned (.string ⟨(Lib.decDigits (u / 10)).toArray⟩) ∧ Fr [] w w') :
    Calls Tryd.prog 48 #[.int .u64 u] w fun e w' => e = .returned (.string ⟨(Lib.decDigits u).toArray⟩) ∧ Fr [] w w' := by
  have e1 : Lib.decDigits u = Lib.decDigits (u / 10) ++ [UInt8.ofNat (48 + u % 10)] := by rw [Lib.decDigits, dif_neg hu]
  have d1 : decide ((u : Int) < 10) = false := by simp; omega
  obtain ⟨q, hq⟩ : ∃ q, u / 10 = q := ⟨_, rfl⟩
  obtain ⟨d, hd⟩ : ∃ d, u % 10 = d := ⟨_, rfl⟩
  have hd10 : d < 10 := by omega
  have q1 : (u : Int) / 10 = (q : Int) := by omega
  have q2 : (u : Int) % 10 = (d : Int) := by omega
  have h1 : (0 : Int) ≤ 48 + (d : Int) ∧ 48 + (d : Int) ≤ 255 := by omega
  rw [hq, hd] at e1
  rw [hq] at ih
  have w1 : IntKind.u64.wrap ((u : Int).tdiv 10) = (q : Int) := by rw [Int.tdiv_eq_ediv_of_nonneg (by omega), q1, IntKind.wrap_u64]; omega
  have w2 : IntKind.u64.wrap ((u : Int).tmod 10) = (d : Int) := by rw [Int.tmod_eq_emod_of_nonneg (by omega), q2, IntKind.wrap_u64]; omega
  have w3 : IntKind.u64.wrap (48 + (d : Int)) = 48 + (d : Int) := by rw [IntKind.wrap_u64]; omega
  have w4 : IntKind.u8.wrap (48 + (d : Int)) = 48 + (d : Int) := by rw [IntKind.wrap_u8]; omega
  have w7 : IntKind.u64.wrap (q : Int) = (q : Int) := by rw [IntKind.wrap_u64]; omega
  have w8 : IntKind.u64.wrap (d : Int) = (d : Int) := by rw [IntKind.wrap_u64]; omega
  have w5 : (u : Int).tdiv 10 = (q : Int) := by rw [Int.tdiv_eq_ediv_of_nonneg (by omega), q1]
  have w6 : (u : Int).tmod 10 = (d : Int) := by rw [Int.tmod_eq_emod_of_nonneg (by omega), q2]
  obtain ⟨s, hs⟩ : ∃ s : ByteArray, (⟨#[UInt8.ofNat (48 + d)]⟩ : ByteArray) = s := ⟨_, rfl⟩
  have hcv := fun W g => one_byte d hd10 W g 1
  rw [hs] at hcv
  obtain ⟨t, ht⟩ : ∃ t : ByteArray, (⟨(Lib.decDigits q).toArray⟩ : ByteArray) = t := ⟨_, rfl⟩
  rw [ht] at ih
  have hts : ¬ (9223372036854775807 < t.size + s.size) := by
    have h1 : t.size = Lib.nDigits q := by rw [← ht, ← Lib.decDigits_length]; rfl
    have h2 : s.size = 1 := by rw [← hs]; rfl
    have := Lib.nDigits_le20 q (by omega)
    omega
  have hst : (⟨(Lib.decDigits u).toArray⟩ : ByteArray) = t ++ s := by rw [e1, ← hs, ← ht]; rfl
  rw [hst]
  have HE := Lib.hid e1
  have IH := Lib.hid ih
  clear e1 hq hd ih hu hs ht hst q1 q2
  go_enter Tryd.func48, Tryd.ntmps48
  go_wp2_with fail
  go_region_with (first | (go_at_call 48; with_reducible refine (IH.out _).mono ?_; rintro e w' ⟨rfl, hf⟩; obtain ⟨r1, r2, r3⟩ := hf.rules))
  all_goals
    clear w1 w2 w3 w4 w5 w6 w7 w8 hcv hts r1 r2 r3
    go_wp2
    go_ret
    refine ⟨rfl, ?_⟩
    first
      | exact ((Fr.refl _ _).drew.trans0 hf).alloc _
      | exact (((Fr.refl _ _).alloc _).drew).trans0 hf
theorem digits_any (u : Nat) (h64 : u < 18446744073709551616) : ∀ w, Calls Tryd.prog 48 #[.int .u64 u] w fun e w' => e = .returned (.string ⟨(Lib.decDigits u).toArray⟩) ∧ Fr [] w w' := by
  induction u using Nat.strongRecOn with
  | _ u ih =>
    intro w
    by_cases hu : u < 10
    · exact digits_small u hu w
    · exact digits_big u hu h64 w (ih (u / 10) (by omega) (by omega))

set_option maxRecDepth 20000 in
set_option maxHeartbeats 1000000 in
theorem number_any (n : Int) (h0 : -9223372036854775808 ≤ n) (h1 : n ≤ 9223372036854775807) (w : World) :
    Calls Tryd.prog 24 #[.int .i64 n] w fun e w' => e = .returned (.string ⟨(Lib.itoa n).toArray⟩) ∧ Fr [] w w' := by
  by_cases hn : n < 0
  · obtain ⟨u, hu⟩ : ∃ u : Nat, -n = u := ⟨(-n).toNat, by omega⟩
    have hu1 : 1 ≤ u := by omega
    have hD := digits_any u (by omega) w
    have hi : Lib.itoa n = 45 :: Lib.decDigits u := by rw [show n = -(u : Int) by omega, Lib.itoa_neg u hu1]
    have e1 : IntKind.u64.wrap (IntKind.u64.wrap (-(n + 1)) + 1) = (u : Int) := by rw [IntKind.wrap_u64, IntKind.wrap_u64]; omega
    have e2 : -(n + 1) + 1 = (u : Int) := by omega
    obtain ⟨t, ht⟩ : ∃ t : ByteArray, (⟨(Lib.decDigits u).toArray⟩ : ByteArray) = t := ⟨_, rfl⟩
    have hts : ¬ (9223372036854775807 < 1 + t.size) := by
      have h1 : t.size = Lib.nDigits u := by rw [← ht, ← Lib.decDigits_length]; rfl
      have := Lib.nDigits_le20 u (by omega)
      omega
    have hr : (⟨(Lib.itoa n).toArray⟩ : ByteArray) = ⟨#[45]⟩ ++ t := by rw [hi, ← ht]; rfl
    rw [ht] at hD
    rw [hr]
    have HD := Lib.hid hD
    clear hD hi ht hr hu hu1
    go_enter Tryd.func24, Tryd.ntmps24
    go_wp2_with fail
    refine HD.out.mono ?_
    rintro e w1 ⟨rfl, hf⟩
    have HF := Lib.hid hf
    clear HD hf e1 e2
    go_wp2
    go_ret
    exact ⟨rfl, HF.out⟩
  · obtain ⟨u, rfl⟩ : ∃ u : Nat, n = u := ⟨n.toNat, by omega⟩
    have hD := digits_any u (by omega) w
    rw [Lib.itoa_nonneg]
    obtain ⟨t, ht⟩ : ∃ t : ByteArray, (⟨(Lib.decDigits u).toArray⟩ : ByteArray) = t := ⟨_, rfl⟩
    rw [ht] at hD
    rw [ht]
    have HD := Lib.hid hD
    have e1 : IntKind.u64.wrap (u : Int) = (u : Int) := by rw [IntKind.wrap_u64]; omega
    have d1 : decide ((u : Int) < 0) = false := by simp
    clear hD ht hn
    go_enter Tryd.func24, Tryd.ntmps24
    go_wp2_with fail
    refine HD.out.mono ?_
    rintro e w1 ⟨rfl, hf⟩
    have HF := Lib.hid hf
    clear HD hf e1
    go_wp2
    go_ret
    exact ⟨rfl, HF.out⟩
end Go.Proofs.YtkdmodanfcpcfaaDoor
