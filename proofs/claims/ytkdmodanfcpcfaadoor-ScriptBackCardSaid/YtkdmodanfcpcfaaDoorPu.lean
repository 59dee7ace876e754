/- DERIVED. strconv.ParseUint at base 10 and 63 bits (the shelf has 64, 32, 16, 8). -/
import Derived.Test.YtkdmodanfcpcfaaDoorShelfB
import Derived.Test.YtkdmodanfcpcfaaDoorWhole
import Derived.Test.YtkdmodanfcpcfaaDoorCallU
import Derived.Lib.ParseIntBMem
import Derived.Laws.Closers25
import Derived.Laws.Closers25b
import Derived.BigCall
import Derived.BigGuard
namespace Go.Proofs.YtkdmodanfcpcfaaDoor
open Go.RowKit

theorem lower_any (c : Int) (w : World) : Calls Tryd.prog 105 #[.int .u8 c] w fun e w' => e = .returned (.int .u8 (bits .or .u8 c 32)) ∧ w' = w := by
  have := AnyPu.internal_strconv_lower (P := Tryd.prog) (ρ := Tryd.laysPu14_ren) { Tryd.laysPu14 with } c w
  exact this
/-- what internal/strconv.ParseUint hands back: a number, or an error of the two -/
def PuR (T : TypeId) (B : Nat) (s : List UInt8) (e : Ending) : Prop :=
  (s ≠ [] ∧ (∀ c ∈ s, isD c) ∧ valV s < B ∧ e = .returned (.tuple #[.int .u64 (valV s : Nat), .nilIface])) ∨
  (numB B s = none ∧ ∃ (n k : Int), (k = 1 ∨ k = 2) ∧ (∃ m : Nat, n = m) ∧ e = .returned (.tuple #[.int .u64 n, .iface T (.int .i64 k)]))

set_option maxHeartbeats 8000000 in
set_option maxRecDepth 100000 in
theorem pu63 (s : List UInt8) (hs : s.length ≤ 1000000) (w : World) :
    Calls Tryd.prog 88 #[.string (Str s), .int .i64 10, .int .i64 63] w fun e w' => PuR 145 9223372036854775808 s e ∧ Fr [] w w' := by
  by_cases hz : s = []
  · subst hz
    rw [show Str [] = ⟨#[]⟩ from rfl]
    go_enter Tryd.func88, Tryd.ntmps88
    go_wp2
    go_ret2
    exact ⟨.inr ⟨numB_nil, 0, 2, .inr rfl, ⟨0, rfl⟩, rfl⟩, Fr.refl _ _⟩
  have hemp : (Str s).toList.isEmpty = false := by
    rw [← decide_eq_emptyBytes]
    refine decide_eq_false (fun h => hz ?_)
    have := congrArg ByteArray.size h
    rw [Str.size] at this
    exact List.eq_nil_of_length_eq_zero this
  have hmv : IntKind.u64.wrap (IntKind.u64.wrap 9223372036854775808 - 1) = 9223372036854775807 := by
    rw [IntKind.wrap_u64, IntKind.wrap_u64]
    decide
  obtain ⟨c, w1, hcv, f1, hrd⟩ := conv_ok s hs w
  have hlen : 1 ≤ s.length := List.length_pos_iff.2 hz
  have HZ := Lib.hid hz
  obtain ⟨S, hS⟩ : ∃ S, Str s = S := ⟨_, rfl⟩
  rw [hS] at hcv hemp ⊢
  have HR := Lib.hid (And.intro hrd (And.intro f1 hS))
  clear hz hrd f1 hS
  go_enter Tryd.func88, Tryd.ntmps88
  go_wp2
  have hrd := HR.out.1
  go_loopw [12, 13, 101] (fun vu vn vi wr => ∃ (k acc : Nat) (a : Int), vu = .bool false ∧ vn = .int .u64 a ∧ vi = .int .i64 k ∧ k ≤ s.length ∧ Hid (a = acc ∧ acc < 9223372036854775808 ∧ acc = valV (s.take k) ∧ ∀ c ∈ s.take k, isD c) ∧ Fr [] w1 wr) (fun _ _ vi _ => s.length - (intOf vi).toNat)
  case atStart => exact ⟨0, 0, 0, rfl, rfl, rfl, by omega, ⟨rfl, by omega, by rw [List.take_zero, valV, valF_nil], by simp⟩, Fr.refl _ _⟩
  case round =>
    obtain ⟨k, acc, a, rfl, rfl, rfl, hk, hh0, hf⟩ := hrel
    obtain ⟨ha, hacc, hh⟩ := hh0.out
    have hh := Lib.hid hh
    clear hh0
    have a0 : 0 ≤ a := by omega
    have a1 : a ≤ 9223372036854775807 := by omega
    by_cases hlt : k < s.length
    · obtain ⟨c, hc⟩ := at_of s hlt
      have ik := idxB hrd hlt
      have ck := cellB (hrd.keep0 hf) hc
      rw [Nat.zero_add] at ik ck
      have HC := Lib.hid hc
      have hc256 : c.toNat < 256 := c.toNat_lt
      clear hc hrd
      by_cases hd : isD c
      · have hl := dV_lt hd
        have hcD : (c.toNat : Int) - 48 = (dV c : Nat) := by unfold isD at hd; unfold dV; omega
        have hd' : (48 : Int) ≤ c.toNat ∧ (c.toNat : Int) ≤ 57 := by unfold isD at hd; omega
        have htk : s.take (k + 1) = s.take k ++ [c] := take_at HC.out
        have hval : valV (s.take (k + 1)) = 10 * acc + dV c := by rw [htk, valV, valF_snoc, hh.out.1]; rfl
        have hdg : ∀ x ∈ s.take (k + 1), isD x := by
          rw [htk]; intro x hx
          rcases List.mem_append.1 hx with h1 | h1
          · exact hh.out.2 x h1
          · simp at h1; subst h1; exact hd
        have HH := Lib.hid (And.intro hval hdg)
        clear hval hdg htk hh hd
        by_cases hov : 10 * acc + dV c < 9223372036854775808
        · have iov : a * 10 + ((c.toNat : Int) - 48) ≤ 9223372036854775807 := by omega
          have HN := Lib.hid (show a * 10 + ((c.toNat : Int) - 48) = ((10 * acc + dV c : Nat) : Int) ∧ 10 * acc + dV c < 9223372036854775808 ∧ 10 * acc + dV c = valV (s.take (k + 1)) ∧ ∀ c ∈ s.take (k + 1), isD c from ⟨by omega, hov, HH.out.1.symm, HH.out.2⟩)
          clear hov ha hacc HH hl hcD
          go_wp2
          go_roundw
          case rel => exact ⟨k + 1, 10 * acc + dV c, a * 10 + ((c.toNat : Int) - 48), rfl, by first | rfl | (congr 1; omega), by first | rfl | (congr 1; omega), by omega, HN, hf⟩
          case measure => simp [intOf]; omega
        · have hn : numB 9223372036854775808 s = none := by
            rw [← List.take_append_drop (k + 1) s]
            exact numB_pre (by rw [HH.out.1]; omega)
          have HN := Lib.hid hn
          have iov : 9223372036854775807 < a * 10 + ((c.toNat : Int) - 48) := by omega
          clear hn hov ha hacc HH hl hcD
          by_cases hcut : 1844674407370955162 ≤ a
          · go_wp2
            go_ret2
            exact ⟨.inr ⟨HN.out, _, _, .inl rfl, ⟨9223372036854775807, rfl⟩, rfl⟩, HR.out.2.1.trans0 hf⟩
          · by_cases hw : a * 10 + ((c.toNat : Int) - 48) ≤ 18446744073709551615
            · go_wp2
              go_ret2
              exact ⟨.inr ⟨HN.out, _, _, .inl rfl, ⟨9223372036854775807, rfl⟩, rfl⟩, HR.out.2.1.trans0 hf⟩
            · have hwr : IntKind.u64.wrap (a * 10 + ((c.toNat : Int) - 48)) = a * 10 + ((c.toNat : Int) - 48) - 18446744073709551616 := by rw [IntKind.wrap_u64]; omega
              have hlt2 : a * 10 + ((c.toNat : Int) - 48) - 18446744073709551616 < a * 10 := by omega
              go_wp2
              go_ret2
              exact ⟨.inr ⟨HN.out, _, _, .inl rfl, ⟨9223372036854775807, rfl⟩, rfl⟩, HR.out.2.1.trans0 hf⟩
      · have hn : numB 9223372036854775808 s = none := numB_nodig (List.mem_of_getElem? HC.out) hd
        have HN := Lib.hid hn
        have hd' : (c.toNat : Int) < 48 ∨ 57 < (c.toNat : Int) := by unfold isD at hd; omega
        clear hn hd
        have hv0 := bits_lo_u8 .or (c.toNat : Int) 32
        have hv1 := bits_hi_u8 .or (c.toNat : Int) 32
        have hu0 := bits_lo_u8 .or 95 32
        have hu1 := bits_hi_u8 .or 95 32
        go_wp2_with (go_at_call 105; refine (lower_any _ _).mono ?_; rintro e w' ⟨rfl, rfl⟩)
        all_goals go_ret2
        all_goals exact ⟨.inr ⟨HN.out, _, _, .inr rfl, ⟨0, rfl⟩, rfl⟩, HR.out.2.1.trans0 hf⟩
    · have hkl : k = s.length := by omega
      have h2 := hh.out
      rw [hkl, List.take_length] at h2
      obtain ⟨h3, h4⟩ := h2
      subst ha
      subst h3
      have H2 := Lib.hid h4
      clear hkl hh h4
      go_wp2
      go_ret2
      exact ⟨.inl ⟨HZ.out, H2.out, hacc, rfl⟩, HR.out.2.1.trans0 hf⟩
end Go.Proofs.YtkdmodanfcpcfaaDoor
