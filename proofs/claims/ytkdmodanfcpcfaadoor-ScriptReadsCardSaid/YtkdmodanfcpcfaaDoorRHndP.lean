/- DERIVED. Chapter 30, the reference: Parse. -/
import Derived.Test.YtkdmodanfcpcfaaDoorRHnd
namespace Go.Proofs.YtkdmodanfcpcfaaDoor
open Go.RowKit

theorem dig46 : ¬ isD 46 := by decide
/-- a cut at '.', where the digits ahead end in it -/
theorem cut_dig {a b : List UInt8} (ha : ∀ x ∈ a, isD x) : cutV 46 (a ++ 46 :: b) = (a, b, true) := by
  induction a with
  | nil => simp [cutV]
  | cons x r ih =>
    have hx : x ≠ 46 := by rintro rfl; exact dig46 (ha 46 (by simp))
    rw [List.cons_append, cutV_cons, if_neg hx, ih (fun y hy => ha y (by simp [hy]))]
theorem digV_split (s : List UInt8) : s = digV s ++ s.drop (digV s).length := by
  conv => lhs; rw [← List.take_append_drop (digV s).length s]
  rw [← digV_pre]
theorem numB_all {B : Nat} {s : List UInt8} {n : Nat} (h : numB B s = some n) : ∀ c ∈ s, isD c := dec_digs (numB_some.1 h).1
theorem num_digV {B : Nat} {s : List UInt8} {n : Nat} (h : numB B s = some n) : digV s = s := digV_id (numB_all h)
theorem handle_none {s : List UInt8} (h : ∀ a b g i, numB 4294967296 a = some g → numB 4294967296 b = some i → s ≠ a ++ 46 :: b) : handleV s = none := by
  unfold handleV
  cases h1 : numB 4294967296 (cutV 46 s).1 with
  | none => rfl
  | some g =>
    cases h2 : numB 4294967296 (cutV 46 s).2.1 with
    | none => rfl
    | some i =>
      exfalso
      obtain ⟨_, _, h3, h4, _⟩ := cutV_len 46 s
      cases hb : (cutV 46 s).2.2 with
      | true => exact h _ _ g i h1 h2 (h3 hb)
      | false => rw [(h4 hb).2] at h2; rw [numB_nil] at h2; cases h2
theorem handle_some {a b : List UInt8} {g i : Nat} (h1 : numB 4294967296 a = some g) (h2 : numB 4294967296 b = some i) : handleV (a ++ 46 :: b) = some (g * 4294967296 + i) := by
  unfold handleV
  rw [cut_dig (numB_all h1), h1, h2]
theorem bT {o : Option Nat} {n : Int} {b : Bool} (h1 : n = ((o.getD 0 : Nat) : Int)) (h2 : b = o.isSome) : Ending.returned (.tuple #[.int .u64 n, .bool b]) = .returned (.tuple #[.int .u64 ((o.getD 0 : Nat) : Int), .bool o.isSome]) := by rw [h1, h2]

set_option maxRecDepth 20000 in
set_option maxHeartbeats 2000000 in
theorem refHparse_any (s : List UInt8) (hs : s.length ≤ 1000000) (w : World) :
    Calls Tryd.prog 67 #[.string (Str s)] w fun e w' => e = .returned (.tuple #[.int .u64 (((handleV s).getD 0 : Nat) : Int), .bool (handleV s).isSome]) ∧ Fr [] w w' := by
  obtain ⟨o, ho⟩ : ∃ o, handleV s = o := ⟨_, rfl⟩
  rw [ho]
  have HO := Lib.hid ho
  clear ho
  have l1 := strLen s
  have C0 := refHalf_any s (by omega) 0 (by omega) w
  have C1 := fun (a : Nat) (ha : a ≤ s.length) W => refHalf_any s (by omega) a ha W
  have H0 := Lib.hid C0
  have H1 := Lib.hid C1
  clear C0 C1
  cases hA : halfI s 0 with
  | none =>
    rw [hA] at H0
    simp only [Option.getD_none, Option.isSome_none] at H0
    have hn : o = none := by
      rw [← HO.out]
      refine handle_none fun a b g i h1 h2 e => ?_
      have : halfI s 0 = some g := by
        unfold halfI
        rw [List.drop_zero, e, digV_app (numB_all h1) dig46, h1]
      rw [this] at hA; cases hA
    have HN := Lib.hid hn
    clear hn HO hA H1
    go_enter Tryd.func67, Tryd.ntmps67
    go_wp2_with fail
    refine H0.out.mono ?_
    rintro e w1 ⟨rfl, f1⟩
    have F := Lib.hid f1
    clear f1 H0
    go_wp2
    go_ret2
    exact ⟨bT (by rw [HN.out]; rfl) (by rw [HN.out]; rfl), F.out⟩
  | some g =>
    rw [hA] at H0
    simp only [Option.getD_some, Option.isSome_some, if_true, Nat.zero_add, List.drop_zero] at H0
    have hA' : numB 4294967296 (digV s) = some g := by unfold halfI at hA; rwa [List.drop_zero] at hA
    obtain ⟨k, hk⟩ : ∃ k, (digV s).length = k := ⟨_, rfl⟩
    rw [hk] at H0
    have hkl : k ≤ s.length := by rw [← hk]; exact digV_le s
    have hsp := digV_split s
    rw [hk] at hsp
    by_cases hlt : k < s.length
    · obtain ⟨c, hc⟩ := at_of s hlt
      have ic := strIdx hc
      have hsp2 : s = digV s ++ c :: s.drop (k + 1) := by
        conv => lhs; rw [hsp]
        rw [List.drop_eq_getElem_cons hlt, (List.getElem?_eq_some_iff.1 hc).2]
      by_cases hdot : c = 46
      · subst hdot
        have hg32 := numB_lt hA'
        cases hB : halfI s (k + 1) with
        | none =>
          have C := H1.out (k + 1) (by omega)
          rw [hB] at C
          simp only [Option.getD_none, Option.isSome_none] at C
          have hn : o = none := by
            rw [← HO.out]
            refine handle_none fun a b g2 i h1 h2 e => ?_
            have h3 := congrArg (cutV 46) (hsp2.symm.trans e)
            rw [cut_dig (digV_all s), cut_dig (numB_all h1)] at h3
            injection h3 with h3 h4
            injection h4 with h4 _
            have : halfI s (k + 1) = some i := by
              unfold halfI
              rw [h4, num_digV h2, h2]
            rw [this] at hB; cases hB
          have HN := Lib.hid hn
          have HC := Lib.hid C
          clear hn HO hA H1 C hsp hsp2 hA' hB hc hk
          go_enter Tryd.func67, Tryd.ntmps67
          go_wp2_with fail
          refine H0.out.mono ?_
          rintro e w1 ⟨rfl, f1⟩
          clear H0
          go_wp2_with fail
          refine (HC.out _).mono ?_
          rintro e w2 ⟨rfl, f2⟩
          have F := Lib.hid (f1.trans0 f2)
          clear f1 f2 HC
          go_wp2
          go_ret2
          exact ⟨bT (by rw [HN.out]; rfl) (by rw [HN.out]; rfl), F.out⟩
        | some n =>
          have C := H1.out (k + 1) (by omega)
          rw [hB] at C
          simp only [Option.getD_some, Option.isSome_some, if_true] at C
          obtain ⟨m, hm⟩ : ∃ m, k + 1 + (digV (s.drop (k + 1))).length = m := ⟨_, rfl⟩
          rw [hm] at C
          have hB' : numB 4294967296 (digV (s.drop (k + 1))) = some n := hB
          have hn32 := numB_lt hB'
          have P := Lib.hid (fun W => refPair_any g n hg32 hn32 W)
          have hml : (k + 1) + (s.drop (k + 1)).length = s.length := by rw [List.length_drop]; omega
          have hml2 := digV_le (s.drop (k + 1))
          by_cases hme : m = s.length
          · have hn : o = some (g * 4294967296 + n) := by
              have h3 : digV (s.drop (k + 1)) = s.drop (k + 1) := by
                rw [digV_pre (s.drop (k + 1)), List.take_of_length_le (by omega)]
              rw [← HO.out, hsp2]
              rw [h3] at hB'
              exact handle_some hA' hB'
            have HN := Lib.hid hn
            have HC := Lib.hid C
            clear hn HO hA H1 C hsp hsp2 hA' hB hB' hc hm hk hml hml2
            subst hme
            go_enter Tryd.func67, Tryd.ntmps67
            go_wp2_with fail
            refine H0.out.mono ?_
            rintro e w1 ⟨rfl, f1⟩
            clear H0
            go_wp2_with fail
            refine (HC.out _).mono ?_
            rintro e w2 ⟨rfl, f2⟩
            have F := Lib.hid (f1.trans0 f2)
            clear f1 f2 HC
            go_wp2_with fail
            refine (P.out _).mono ?_
            rintro e w3 ⟨rfl, f3⟩
            have F3 := Lib.hid (F.out.trans0 f3)
            clear f3 P
            go_wp2
            go_ret2
            exact ⟨bT (by rw [HN.out]; simp) (by rw [HN.out]; rfl), F3.out⟩
          · have hn : o = none := by
              rw [← HO.out]
              refine handle_none fun a b g2 i h1 h2 e => ?_
              have h3 := congrArg (cutV 46) (hsp2.symm.trans e)
              rw [cut_dig (digV_all s), cut_dig (numB_all h1)] at h3
              injection h3 with h3 h4
              injection h4 with h4 _
              have : digV (s.drop (k + 1)) = s.drop (k + 1) := by rw [h4]; exact num_digV h2
              rw [this] at hm
              omega
            have HN := Lib.hid hn
            have HC := Lib.hid C
            clear hn HO hA H1 C hsp hsp2 hA' hB hB' hc hm hk hml hml2 P
            go_enter Tryd.func67, Tryd.ntmps67
            go_wp2_with fail
            refine H0.out.mono ?_
            rintro e w1 ⟨rfl, f1⟩
            clear H0
            go_wp2_with fail
            refine (HC.out _).mono ?_
            rintro e w2 ⟨rfl, f2⟩
            have F := Lib.hid (f1.trans0 f2)
            clear f1 f2 HC
            go_wp2
            go_ret2
            exact ⟨bT (by rw [HN.out]; rfl) (by rw [HN.out]; rfl), F.out⟩
      · have hn : o = none := by
          rw [← HO.out]
          refine handle_none fun a b g2 i h1 h2 e => ?_
          have h3 : digV s = a := by rw [e]; exact digV_app (numB_all h1) dig46
          have h4 : c :: s.drop (k + 1) = 46 :: b := by
            have := hsp2.symm.trans e
            rw [h3] at this
            exact List.append_cancel_left this
          injection h4 with h4 _
          exact hdot h4
        have HN := Lib.hid hn
        have hne : ((c.toNat : Int) != 46) = true := by
          have : ¬ (c.toNat : Int) = 46 := fun e => hdot (by apply UInt8.toNat_inj.1; show c.toNat = 46; omega)
          simpa using this
        clear hn HO hA H1 hsp hsp2 hA' hc hk hdot
        go_enter Tryd.func67, Tryd.ntmps67
        go_wp2_with fail
        refine H0.out.mono ?_
        rintro e w1 ⟨rfl, f1⟩
        have F := Lib.hid f1
        clear f1 H0
        go_wp2
        go_ret2
        exact ⟨bT (by rw [HN.out]; rfl) (by rw [HN.out]; rfl), F.out⟩
    · have hn : o = none := by
        rw [← HO.out]
        refine handle_none fun a b g2 i h1 h2 e => ?_
        have h3 : digV s = a := by rw [e]; exact digV_app (numB_all h1) dig46
        have h4 := congrArg List.length e
        rw [h3] at hk
        simp at h4
        omega
      have HN := Lib.hid hn
      clear hn HO hA H1 hsp hA' hk
      go_enter Tryd.func67, Tryd.ntmps67
      go_wp2_with fail
      refine H0.out.mono ?_
      rintro e w1 ⟨rfl, f1⟩
      have F := Lib.hid f1
      clear f1 H0
      go_wp2
      go_ret2
      exact ⟨bT (by rw [HN.out]; rfl) (by rw [HN.out]; rfl), F.out⟩
end Go.Proofs.YtkdmodanfcpcfaaDoor
