/- DERIVED. Chapter 37, the reference: Words. -/
import Derived.Test.YtkdmodanfcpcfaaDoorRHndP
namespace Go.Proofs.YtkdmodanfcpcfaaDoor
open Go.RowKit

def preV (W : List UInt8) (l : List (List UInt8)) : List (List UInt8) := l.modifyHead (W ++ ·)
theorem preV_nil (l : List (List UInt8)) : preV [] l = l := by cases l <;> simp [preV]
theorem preV_blank (W r : List UInt8) : preV W (wordsV (32 :: r)) = W :: wordsV r := by simp [preV, wordsV_cons]
theorem preV_byte (W r : List UInt8) {c : UInt8} (h : c ≠ 32) : preV W (wordsV (c :: r)) = preV (W ++ [c]) (wordsV r) := by
  rw [wordsV_cons, if_neg h]
  cases hr : wordsV r with
  | nil => exact absurd hr (wordsV_ne r)
  | cons a l => simp [preV]

theorem ext_one {s : List UInt8} {k : Nat} {c : UInt8} (h : s[k]? = some c) : (Str s).extract k (k + 1) = Str [c] := by
  apply ByteArray.ext
  apply Array.ext'
  rw [Lib.extract_data, show (Str s).data.toList = s by simp [Str], show k + 1 - k = 1 by omega]
  have hlt := (List.getElem?_eq_some_iff.1 h).1
  rw [List.drop_eq_getElem_cons hlt, (List.getElem?_eq_some_iff.1 h).2]
  simp [Str]

set_option maxRecDepth 20000 in
set_option maxHeartbeats 2000000 in
theorem refWords_any (s : List UInt8) (hs : s.length ≤ 1000000) (w : World) :
    Calls Tryd.prog 62 #[.string (Str s)] w fun e w' => ∃ v, e = .returned v ∧ Rd encS w' v (wordsV s) ∧ Fr [] w w' := by
  have l1 := strLen s
  obtain ⟨S, hS⟩ : ∃ S, S = Str s := ⟨_, rfl⟩
  rw [← hS] at l1 ⊢
  have HS := Lib.hid hS
  clear hS
  go_enter Tryd.func62, Tryd.ntmps62
  go_wp2
  go_loopw [3, 4, 5] (fun q x i wr => ∃ (k : Nat) (O : List (List UInt8)) (W : List UInt8), k ≤ s.length ∧ i = .int .i64 k ∧ x = .string (Str W) ∧ W.length ≤ k ∧ O.length ≤ k ∧ Hid (wordsV s = O ++ preV W (wordsV (s.drop k))) ∧ Own encS 9 wr q O ∧ New w.heap.size q ∧ Fr [] w wr) (fun _ _ i _ => s.length - (intOf i).toNat)
  case atStart => exact ⟨0, [], [], by omega, rfl, rfl, by simp, by simp, by unfold Hid; rw [List.drop_zero, preV_nil]; rfl, Own.nil _ _ _, New.nil _, Fr.refl _ _⟩
  case round =>
    obtain ⟨k, O, W, hk, rfl, rfl, hW, hOl, hh, hO, hN, hF⟩ := hrel
    by_cases hlt : k < s.length
    · obtain ⟨c, hc⟩ := at_of s hlt
      have ik := strIdx hc
      rw [← HS.out] at ik
      have hdr : s.drop k = c :: s.drop (k + 1) := by
        rw [List.drop_eq_getElem_cons hlt, (List.getElem?_eq_some_iff.1 hc).2]
      by_cases h32 : c = 32
      · subst h32
        have hh2 : wordsV s = (O ++ [W]) ++ preV [] (wordsV (s.drop (k + 1))) := by
          rw [hh.out, hdr, preV_blank, preV_nil]; simp
        have HH := Lib.hid (And.intro hh2 (And.intro hO (And.intro hN hF)))
        clear hh hh2 hdr hc hO hN hF
        go_wp2_with (at_builtin; refine wpList_app encS slS rfl _ _ rfl HH.out.2.1 W rfl rfl (by omega) ?_ rfl; intro v8 w8 hO8 f8 hw8 _)
        obtain ⟨hh2, hO, hN, hF⟩ := HH.out
        clear HH
        have HR := Lib.hid (show Own encS 9 w8 v8 (O ++ [W]) ∧ New w.heap.size v8 ∧ Fr [] w w8 from ⟨hO8, hN.step hF.size hw8, hF.new f8 hN⟩)
        have H2 := Lib.hid hh2
        clear hO hN hF hO8 f8 hw8 hh2
        go_wp2
        go_roundw
        case rel => exact ⟨k + 1, O ++ [W], [], by omega, by first | rfl | (congr 1; omega), rfl, by simp, by simp; omega, H2.out, HR.out⟩
        case measure => simp [intOf]; omega
      · have hh2 : wordsV s = O ++ preV (W ++ [c]) (wordsV (s.drop (k + 1))) := by
          rw [hh.out, hdr, preV_byte _ _ h32]
        have hne : ((c.toNat : Int) == 32) = false := by
          have : ¬ (c.toNat : Int) = 32 := fun e => h32 (by apply UInt8.toNat_inj.1; show c.toNat = 32; omega)
          simpa using this
        have HH := Lib.hid (And.intro hh2 (And.intro hO (And.intro hN (And.intro hF hc))))
        clear hh hh2 hdr hc hO hN hF h32
        have hSz : S.size = s.length := by rw [HS.out, Str.size]
        have hWz : (Str W).size = W.length := Str.size W
        go_wp2
        obtain ⟨hh2, hO, hN, hF, hc⟩ := HH.out
        have hx : Str W ++ S.extract k (k + 1) = Str (W ++ [c]) := by rw [HS.out, ext_one hc, Str.app]
        rw [hx]
        go_roundw
        case rel => exact ⟨k + 1, O, W ++ [c], by omega, by first | rfl | (congr 1; omega), rfl, by simp; omega, by omega, hh2, hO, hN, hF⟩
        case measure => simp [intOf]; omega
    · have hkl : k = s.length := by omega
      have hh2 : wordsV s = O ++ [W] := by
        rw [hh.out, List.drop_eq_nil_of_le (by omega)]; simp [preV, wordsV]
      have HH := Lib.hid (And.intro hh2 (And.intro hO (And.intro hN hF)))
      clear hh hh2 hO hN hF hkl
      go_wp2_with (at_builtin; refine wpList_app encS slS rfl _ _ rfl HH.out.2.1 W rfl rfl (by omega) ?_ rfl; intro v8 w8 hO8 f8 hw8 _)
      obtain ⟨hh2, hO, hN, hF⟩ := HH.out
      obtain ⟨gv, hgv⟩ := hO8.rd
      have HR := Lib.hid (show Rd encS w8 v8 (wordsV s) ∧ Fr [] w w8 from ⟨⟨gv, 0, by rw [hh2]; exact hgv⟩, hF.new f8 hN⟩)
      clear hO hN hF hO8 f8 hw8 hh2 HH hgv
      go_wp2
      go_ret
      exact ⟨_, rfl, HR.out⟩
end Go.Proofs.YtkdmodanfcpcfaaDoor
