/- DERIVED. Chapter 37, the reference: Whole. -/
import Derived.Test.YtkdmodanfcpcfaaDoorNumV
import Derived.Deep.QuietTactic
namespace Go.Proofs.YtkdmodanfcpcfaaDoor
open Go.RowKit

theorem strIdx {s : List UInt8} {k : Nat} {c : UInt8} (h : s[k]? = some c) (W : World) :
    Sem.run Tryd.prog (Instr.index 9 (.string (Str s)) (.int .i64 k)) W = .ok (.int .u8 c.toNat) W := by
  have hlt : k < s.length := (List.getElem?_eq_some_iff.1 h).1
  rw [run_index_string W 9 (Str s) .i64 k Tryd.underlying9, dif_pos ⟨by omega, by rw [Str.size]; omega⟩]
  have he := (List.getElem?_eq_some_iff.1 h).2
  have : (Str s)[((k : Int).toNat)]'(by rw [Str.size]; omega) = c := by
    rw [← he]
    simp [Str, ByteArray.getElem_eq_getElem_data]
  rw [this]
theorem strIdx0 {s : List UInt8} {c : UInt8} (h : s[0]? = some c) (W : World) :
    Sem.run Tryd.prog (Instr.index 9 (.string (Str s)) (.int .i64 0)) W = .ok (.int .u8 c.toNat) W := strIdx h W
theorem strLen (s : List UInt8) (ty : TypeId) (W : World) :
    Sem.run Tryd.prog (Builtin.len_ #[9] ty #[.string (Str s)]) W = .ok (.int .i64 s.length) W := by
  rw [← Str.size s]
  simp [go_sem]
theorem ret_tup {a b : Array Value} (h : a = b) : Ending.returned (.tuple a) = Ending.returned (.tuple b) := by rw [h]
theorem numT {o : Option Nat} {n : Int} {b : Bool} (h1 : n = ((o.getD 0 : Nat) : Int)) (h2 : b = o.isSome) : Ending.returned (.tuple #[.int .u64 n, .bool b]) = .returned (.tuple #[.int .u64 ((o.getD 0 : Nat) : Int), .bool o.isSome]) := by rw [h1, h2]
theorem numT_none {o : Option Nat} (h : o = none) : Ending.returned (.tuple #[.int .u64 0, .bool false]) = .returned (.tuple #[.int .u64 ((o.getD 0 : Nat) : Int), .bool o.isSome]) := by rw [h]; rfl
theorem numT_some {o : Option Nat} {n : Nat} (h : o = some n) : Ending.returned (.tuple #[.int .u64 n, .bool true]) = .returned (.tuple #[.int .u64 ((o.getD 0 : Nat) : Int), .bool o.isSome]) := by rw [h]; rfl

set_option maxRecDepth 20000 in
set_option maxHeartbeats 2000000 in
theorem refWhole_any (s : List UInt8) (hs : s.length ≤ 281474976710656) (w : World) :
    Calls Tryd.prog 64 #[.string (Str s)] w fun e w' =>
      e = .returned (.tuple #[.int .u64 (((numB 18446744073709551616 s).getD 0 : Nat) : Int), .bool (numB 18446744073709551616 s).isSome]) ∧ Fr [] w w' := by
  obtain ⟨o, ho⟩ : ∃ o, numB 18446744073709551616 s = o := ⟨_, rfl⟩
  rw [ho]
  have HO := Lib.hid ho
  clear ho
  have l1 := strLen s
  by_cases hz : s = []
  · subst hz
    have hn : o = none := by rw [← HO.out]; exact numB_nil
    have HN := Lib.hid hn
    clear hn HO
    go_enter Tryd.func64, Tryd.ntmps64
    go_wp2
    go_ret2
    exact ⟨numT_none HN.out, Fr.refl _ _⟩
  have hlen : 1 ≤ s.length := List.length_pos_iff.2 hz
  obtain ⟨c0, h0⟩ := at_of s (k := 0) (by omega)
  have i0 := strIdx0 h0
  by_cases hlong : 20 < s.length
  · have hn : o = none := by rw [← HO.out]; exact numB_long (by omega) hlong
    have HN := Lib.hid hn
    clear hn HO
    go_enter Tryd.func64, Tryd.ntmps64
    go_wp2
    go_ret2
    exact ⟨numT_none HN.out, Fr.refl _ _⟩
  by_cases h48 : c0 = 48 ∧ 1 < s.length
  · obtain ⟨rfl, h1⟩ := h48
    have hn : o = none := by
      rw [← HO.out]
      cases s with
      | nil => simp at h0
      | cons c r => simp at h0; subst h0; exact numB_zero (by rintro rfl; simp at h1)
    have HN := Lib.hid hn
    clear hn HO
    go_enter Tryd.func64, Tryd.ntmps64
    go_wp2
    go_ret2
    exact ⟨numT_none HN.out, Fr.refl _ _⟩
  have hz0 : ∀ r, s = 48 :: r → r = [] := by
    rintro r rfl
    simp at h0
    cases r with
    | nil => rfl
    | cons a r => exact absurd ⟨h0.symm, by simp⟩ h48
  have hx : (c0.toNat : Int) = 48 → s.length ≤ 1 := by
    intro e
    have : c0 = 48 := by apply UInt8.toNat_inj.1; show c0.toNat = 48; omega
    exact Nat.le_of_not_lt fun h => h48 ⟨this, h⟩
  have HZ := Lib.hid hz0
  have HZ1 := Lib.hid hz
  have e0 : ((s.length : Int) == 0) = false := by simp; omega
  have e1 : decide ((20 : Int) < s.length) = false := by simp; omega
  have hcase : ((c0.toNat : Int) == 48) = false ∨ (((c0.toNat : Int) == 48) = true ∧ decide ((1 : Int) < s.length) = false) := by
    by_cases e : (c0.toNat : Int) = 48
    · right; have := hx e; exact ⟨by simp [e], by simp; omega⟩
    · left; simpa using e
  clear hz0 h0 hz h48 hx
  rcases hcase with e3 | ⟨e3, e2⟩
  all_goals
    go_enter Tryd.func64, Tryd.ntmps64
    go_wp2
    go_loopw [4, 5] (fun n i wr => ∃ (k acc : Nat), n = .int .u64 acc ∧ i = .int .i64 k ∧ k ≤ s.length ∧ acc < 18446744073709551616 ∧ Hid (acc = valV (s.take k) ∧ ∀ c ∈ s.take k, isD c) ∧ Fr [] w wr) (fun _ i _ => s.length - (intOf i).toNat)
    case atStart => exact ⟨0, 0, rfl, rfl, by omega, by omega, ⟨by rw [List.take_zero, valV, valF_nil], by simp⟩, Fr.refl _ _⟩
    case round =>
      obtain ⟨k, acc, rfl, rfl, hk, hacc, hh, hf⟩ := hrel
      by_cases hlt : k < s.length
      · obtain ⟨c, hc⟩ := at_of s hlt
        have ik := strIdx hc
        have HC := Lib.hid hc
        clear hc
        by_cases hd : isD c
        · have hl := dV_lt hd
          have hcD : (c.toNat : Int) - 48 = (dV c : Nat) := by unfold isD at hd; unfold dV; omega
          have hd' : (48 : Int) ≤ c.toNat ∧ (c.toNat : Int) ≤ 57 := by unfold isD at hd; omega
          have htk : s.take (k + 1) = s.take k ++ [c] := take_at HC.out
          have hval : valV (s.take (k + 1)) = 10 * acc + dV c := by rw [htk, valV, valF_snoc, hh.out.1]; rfl
          have hdg : ∀ x ∈ s.take (k + 1), isD x := by
            rw [htk]; intro x hx
            rcases List.mem_append.1 hx with h1 | h1
            · exact hh.out.2 x h1
            · simp at h1; subst h1; exact hd
          have HH := Lib.hid (And.intro hval hdg)
          clear hval hdg htk hh hd
          by_cases hov : 10 * acc + dV c < 18446744073709551616
          · go_wp2
            go_roundw
            case rel => exact ⟨k + 1, 10 * acc + dV c, by first | rfl | (congr 1; omega), by first | rfl | (congr 1; omega), by omega, hov, ⟨HH.out.1.symm, HH.out.2⟩, hf⟩
            case measure => simp [intOf]; omega
          · have hn : o = none := by
              rw [← HO.out, ← List.take_append_drop (k + 1) s]
              exact numB_pre (by rw [HH.out.1]; omega)
            have HN := Lib.hid hn
            clear hn HO
            go_wp2
            go_ret2
            exact ⟨numT_none HN.out, hf⟩
        · have hn : o = none := by rw [← HO.out]; exact numB_nodig (List.mem_of_getElem? HC.out) hd
          have HN := Lib.hid hn
          have hd' : (c.toNat : Int) < 48 ∨ 57 < (c.toNat : Int) := by unfold isD at hd; omega
          clear hn HO hd
          go_wp2
          all_goals go_ret2
          all_goals exact ⟨numT_none HN.out, hf⟩
      · have hkl : k = s.length := by omega
        have hn : o = some acc := by
          rw [← HO.out, hh.out.1, hkl, List.take_length]
          have h2 := hh.out
          rw [hkl, List.take_length] at h2
          exact numB_canon HZ1.out h2.2 HZ.out (by rw [← h2.1]; exact hacc)
        have HN := Lib.hid hn
        clear hn HO hkl
        go_wp2
        go_ret2
        exact ⟨numT_some HN.out, hf⟩
end Go.Proofs.YtkdmodanfcpcfaaDoor
