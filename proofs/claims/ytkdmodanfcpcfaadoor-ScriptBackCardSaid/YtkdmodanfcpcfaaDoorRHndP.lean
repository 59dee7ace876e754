/- DERIVED. Chapter 30, the reference: half, Parse. -/
import Derived.Test.YtkdmodanfcpcfaaDoorHnd
namespace Go.Proofs.YtkdmodanfcpcfaaDoor
open Go.RowKit

set_option maxRecDepth 20000 in
theorem refPair_any (a b : Nat) (ha : a < 4294967296) (hb : b < 4294967296) (w : World) :
    Calls Tryd.prog 78 #[.int .u64 a, .int .u64 b] w fun e w' => e = .returned (.int .u64 ((a * 4294967296 + b : Nat) : Int)) ∧ Fr [] w w' := by
  go_enter Tryd.func78, Tryd.ntmps78
  go_wp2
  go_ret
  exact ⟨ret_u64 (by omega), Fr.refl _ _⟩

/-- the digits ahead -/
def digV (s : List UInt8) : List UInt8 := s.takeWhile (fun c => decide (isD c))
theorem digV_all (s : List UInt8) : ∀ c ∈ digV s, isD c := by
  intro c hc
  have := List.all_takeWhile (p := fun c => decide (isD c)) (l := s)
  rw [List.all_eq_true] at this
  simpa using this c hc
theorem digV_get {s : List UInt8} {j : Nat} {c : UInt8} (h : s[j]? = some c) (hj : j ≤ (digV s).length) : (isD c → (digV s)[j]? = some c) ∧ (¬ isD c → j = (digV s).length) := by
  induction s generalizing j with
  | nil => simp at h
  | cons x r ih =>
    unfold digV at hj ⊢
    rw [List.takeWhile_cons] at hj ⊢
    by_cases hx : isD x
    · simp only [hx, decide_true, if_true] at hj ⊢
      cases j with
      | zero => simp at h; subst h; exact ⟨fun _ => rfl, fun hn => absurd hx hn⟩
      | succ j =>
        simp at h hj ⊢
        exact ih h hj
    · simp only [hx, decide_false] at hj ⊢
      simp at hj
      subst hj
      simp at h
      subst h
      exact ⟨fun hd => absurd hd hx, fun _ => by simp⟩
theorem digV_le (s : List UInt8) : (digV s).length ≤ s.length := (List.takeWhile_sublist _).length_le
theorem digV_pre (s : List UInt8) : digV s = s.take (digV s).length := by
  have h := List.takeWhile_prefix (l := s) (fun c => decide (isD c))
  exact (List.prefix_iff_eq_take.1 h)
theorem digV_app {a b : List UInt8} {c : UInt8} (ha : ∀ x ∈ a, isD x) (hc : ¬ isD c) : digV (a ++ c :: b) = a := by
  unfold digV
  induction a with
  | nil => simp [hc]
  | cons x r ih => simp [ha x (by simp), ih (fun y hy => ha y (by simp [hy]))]
theorem digV_id {a : List UInt8} (ha : ∀ x ∈ a, isD x) : digV a = a := by
  unfold digV
  induction a with
  | nil => rfl
  | cons x r ih => simp [ha x (by simp), ih (fun y hy => ha y (by simp [hy]))]

def halfI (s : List UInt8) (a : Nat) : Option Nat := numB 4294967296 (digV (s.drop a))
theorem ret_ui {n n' e e' : Int} (h1 : n = n') (h2 : e = e') : Ending.returned (.tuple #[.int .u64 n, .int .i64 e]) = .returned (.tuple #[.int .u64 n', .int .i64 e']) := by rw [h1, h2]

set_option maxRecDepth 20000 in
set_option maxHeartbeats 4000000 in
theorem refHalf_any (s : List UInt8) (hs : s.length ≤ 281474976710656) (a : Nat) (ha : a ≤ s.length) (w : World) :
    Calls Tryd.prog 77 #[.string (Str s), .int .i64 a] w fun e w' =>
      e = .returned (.tuple #[.int .u64 (((halfI s a).getD 0 : Nat) : Int), .int .i64 (if (halfI s a).isSome then ((a + (digV (s.drop a)).length : Nat) : Int) else -1)]) ∧ Fr [] w w' := by
  obtain ⟨T, hT⟩ : ∃ T, digV (s.drop a) = T := ⟨_, rfl⟩
  have HT : Hid ((∀ c ∈ T, isD c) ∧ (∀ j c, s[a + j]? = some c → j ≤ T.length → (isD c → T[j]? = some c) ∧ (¬ isD c → j = T.length))) := by
    refine ⟨by rw [← hT]; exact digV_all _, fun j c h hj => ?_⟩
    rw [← hT] at hj ⊢
    exact digV_get (by rw [List.getElem?_drop]; exact h) hj
  have hle : T.length ≤ s.length - a := by rw [← hT]; have := digV_le (s.drop a); simpa using this
  unfold halfI
  rw [hT]
  clear hT
  obtain ⟨o, ho⟩ : ∃ o, numB 4294967296 T = o := ⟨_, rfl⟩
  rw [ho]
  obtain ⟨ri, hri⟩ : ∃ ri : Int, (if o.isSome then ((a + T.length : Nat) : Int) else -1) = ri := ⟨_, rfl⟩
  rw [hri]
  have HI := Lib.hid hri
  have HO := Lib.hid ho
  clear ho hri
  have l1 := strLen s
  go_enter Tryd.func77, Tryd.ntmps77
  go_wp2
  go_loopw [6, 7] (fun n i wr => ∃ (j acc p : Nat), n = .int .u64 acc ∧ i = .int .i64 p ∧ a + j = p ∧ j ≤ T.length ∧ acc < 4294967296 ∧ Hid (acc = valV (T.take j) ∧ (2 ≤ j → ¬ s[a]? = some 48)) ∧ Fr [] w wr) (fun _ i _ => s.length - (intOf i).toNat)
  case atStart => exact ⟨0, 0, a, rfl, rfl, by omega, by omega, by omega, ⟨by rw [List.take_zero, valV, valF_nil], by omega⟩, Fr.refl _ _⟩
  case round =>
    obtain ⟨j, acc, p, rfl, rfl, hp, hj, hacc, hh, hf⟩ := hrel
    by_cases hlt : p < s.length
    · obtain ⟨c, hc⟩ := at_of s hlt
      obtain ⟨c0, h0⟩ := at_of s (show a < s.length by omega)
      have ij := strIdx hc
      have i0 := strIdx h0
      obtain ⟨hg1, hg2⟩ := HT.out.2 j c (by rw [hp]; exact hc) hj
      have hcc : j = 0 → c0 = c := by
        rintro rfl
        have e : p = a := by omega
        rw [e, h0] at hc
        injection hc
      by_cases hd : isD c
      · have hT1 := hg1 hd
        have hl := dV_lt hd
        have hcD : (c.toNat : Int) - 48 = (dV c : Nat) := by unfold isD at hd; unfold dV; omega
        have hd' : (48 : Int) ≤ c.toNat ∧ (c.toNat : Int) ≤ 57 := by unfold isD at hd; omega
        have htk : T.take (j + 1) = T.take j ++ [c] := take_at hT1
        have hval : valV (T.take (j + 1)) = 10 * acc + dV c := by rw [htk, valV, valF_snoc, hh.out.1]; rfl
        have hjT : j < T.length := (List.getElem?_eq_some_iff.1 hT1).1
        have HC := Lib.hid (And.intro hval (And.intro hT1 (And.intro hc h0)))
        clear hval htk hT1 hg1 hg2 hc h0 hd
        by_cases hov : 4294967295 < 10 * acc + dV c
        · have hn : o = none := by
            rw [← HO.out, ← List.take_append_drop (j + 1) T]
            exact numB_pre (by rw [HC.out.1]; omega)
          have HN := Lib.hid hn
          clear hn HO
          go_wp2
          all_goals go_ret2
          all_goals exact ⟨ret_ui (by rw [HN.out]; rfl) (by rw [← HI.out, HN.out]; rfl), hf⟩
        · by_cases hj0 : j = 0
          · obtain rfl := hcc hj0
            subst hj0
            obtain rfl : a = p := by omega
            have HH := Lib.hid (show 10 * acc + dV c0 = valV (T.take (0 + 1)) ∧ (2 ≤ 0 + 1 → ¬ s[a]? = some 48) from ⟨HC.out.1.symm, by omega⟩)
            clear hh
            go_wp2
            all_goals go_roundw
            case rel => exact ⟨0 + 1, 10 * acc + dV c0, a + 1, by first | rfl | (congr 1; omega), by first | rfl | (congr 1; omega), by omega, by omega, by omega, HH, hf⟩
            case measure => simp [intOf]; omega
          · by_cases h48 : c0 = 48
            · have hn : o = none := by
                subst h48
                have h0 : T[0]? = some 48 := (HT.out.2 0 48 HC.out.2.2.2 (by omega)).1 (by decide)
                rw [← HO.out]
                cases T with
                | nil => simp at h0
                | cons x r =>
                  simp at h0
                  subst h0
                  exact numB_zero (by rintro rfl; simp at hjT; omega)
              have HN := Lib.hid hn
              have e48 : ((c0.toNat : Int) == 48) = true := by rw [h48]; rfl
              clear hn HO
              go_wp2
              all_goals go_ret2
              all_goals exact ⟨ret_ui (by rw [HN.out]; rfl) (by rw [← HI.out, HN.out]; rfl), hf⟩
            · have e48 : ((c0.toNat : Int) == 48) = false := by
                have : ¬ (c0.toNat : Int) = 48 := fun e => h48 (by apply UInt8.toNat_inj.1; show c0.toNat = 48; omega)
                simpa using this
              have HH := Lib.hid (show 10 * acc + dV c = valV (T.take (j + 1)) ∧ (2 ≤ j + 1 → ¬ s[a]? = some 48) from ⟨HC.out.1.symm, fun _ e => by rw [HC.out.2.2.2] at e; injection e with e; exact h48 e⟩)
              clear hh
              go_wp2
              all_goals go_roundw
              case rel => exact ⟨j + 1, 10 * acc + dV c, p + 1, by first | rfl | (congr 1; omega), by first | rfl | (congr 1; omega), by omega, by omega, by omega, HH, hf⟩
              case measure => simp [intOf]; omega
      · have hjT := hg2 hd
        have hd' : (c.toNat : Int) < 48 ∨ 57 < (c.toNat : Int) := by unfold isD at hd; omega
        have H2 := Lib.hid hjT
        clear hg1 hg2 hd i0 h0 hjT hcc hc
        by_cases hj0 : j = 0
        · have hn : o = none := by
            have : T = [] := List.eq_nil_of_length_eq_zero (by rw [← H2.out]; exact hj0)
            rw [← HO.out, this]; exact numB_nil
          have HN := Lib.hid hn
          subst hj0
          obtain rfl : a = p := by omega
          clear hn HO
          go_wp2
          all_goals go_ret2
          all_goals exact ⟨ret_ui (by rw [HN.out]; rfl) (by rw [← HI.out, HN.out]; rfl), hf⟩
        · have hn : o = some acc := by
            obtain ⟨h1, h2⟩ := hh.out
            rw [H2.out, List.take_length] at h1
            rw [← HO.out, h1]
            refine numB_canon (by rintro rfl; simp at H2; exact hj0 H2.out) HT.out.1 ?_ (by rw [← h1]; exact hacc)
            rintro r rfl
            cases r with
            | nil => rfl
            | cons x r =>
              exfalso
              have hl := H2.out
              simp at hl
              obtain ⟨c0, h0⟩ := at_of s (show a < s.length by omega)
              have h3 := (HT.out.2 0 c0 h0 (by omega))
              by_cases hd0 : isD c0
              · have := h3.1 hd0
                simp at this
                subst this
                exact h2 (by omega) h0
              · have := h3.2 hd0
                simp at this
          have HN := Lib.hid hn
          clear hn HO hh
          go_wp2
          all_goals go_ret2
          all_goals exact ⟨ret_ui (by rw [HN.out]; rfl) (by rw [← HI.out, HN.out, ← H2.out, hp]; rfl), hf⟩
    · have hjT : j = T.length := by omega
      have H2 := Lib.hid hjT
      clear hjT
      by_cases hj0 : j = 0
      · have hn : o = none := by
          have : T = [] := List.eq_nil_of_length_eq_zero (by rw [← H2.out]; exact hj0)
          rw [← HO.out, this]; exact numB_nil
        have HN := Lib.hid hn
        subst hj0
        obtain rfl : a = p := by omega
        clear hn HO
        go_wp2
        all_goals go_ret2
        all_goals exact ⟨ret_ui (by rw [HN.out]; rfl) (by rw [← HI.out, HN.out]; rfl), hf⟩
      · have hn : o = some acc := by
          obtain ⟨h1, h2⟩ := hh.out
          rw [H2.out, List.take_length] at h1
          rw [← HO.out, h1]
          refine numB_canon (by rintro rfl; simp at H2; exact hj0 H2.out) HT.out.1 ?_ (by rw [← h1]; exact hacc)
          rintro r rfl
          cases r with
          | nil => rfl
          | cons x r =>
            exfalso
            have hl := H2.out
            simp at hl
            obtain ⟨c0, h0⟩ := at_of s (show a < s.length by omega)
            have h3 := (HT.out.2 0 c0 h0 (by omega))
            by_cases hd0 : isD c0
            · have := h3.1 hd0
              simp at this
              subst this
              exact h2 (by omega) h0
            · have := h3.2 hd0
              simp at this
        have HN := Lib.hid hn
        clear hn HO hh
        go_wp2
        all_goals go_ret2
        all_goals exact ⟨ret_ui (by rw [HN.out]; rfl) (by rw [← HI.out, HN.out, ← H2.out, hp]; rfl), hf⟩
end Go.Proofs.YtkdmodanfcpcfaaDoor

/- DERIVED. Chapter 30, the reference: Parse. -/
namespace Go.Proofs.YtkdmodanfcpcfaaDoor
open Go.RowKit

theorem dig46 : ¬ isD 46 := by decide
/-- a cut at '.', where the digits ahead end in it -/
theorem cut_dig {a b : List UInt8} (ha : ∀ x ∈ a, isD x) : cutV 46 (a ++ 46 :: b) = (a, b, true) := by
  induction a with
  | nil => simp [cutV]
  | cons x r ih =>
    have hx : x ≠ 46 := by rintro rfl; exact dig46 (ha 46 (by simp))
    rw [List.cons_append, cutV_cons, if_neg hx, ih (fun y hy => ha y (by simp [hy]))]
theorem digV_split (s : List UInt8) : s = digV s ++ s.drop (digV s).length := by
  conv => lhs; rw [← List.take_append_drop (digV s).length s]
  rw [← digV_pre]
theorem numB_all {B : Nat} {s : List UInt8} {n : Nat} (h : numB B s = some n) : ∀ c ∈ s, isD c := dec_digs (numB_some.1 h).1
theorem num_digV {B : Nat} {s : List UInt8} {n : Nat} (h : numB B s = some n) : digV s = s := digV_id (numB_all h)
theorem handle_none {s : List UInt8} (h : ∀ a b g i, numB 4294967296 a = some g → numB 4294967296 b = some i → s ≠ a ++ 46 :: b) : handleV s = none := by
  unfold handleV
  cases h1 : numB 4294967296 (cutV 46 s).1 with
  | none => rfl
  | some g =>
    cases h2 : numB 4294967296 (cutV 46 s).2.1 with
    | none => rfl
    | some i =>
      exfalso
      obtain ⟨_, _, h3, h4, _⟩ := cutV_len 46 s
      cases hb : (cutV 46 s).2.2 with
      | true => exact h _ _ g i h1 h2 (h3 hb)
      | false => rw [(h4 hb).2] at h2; rw [numB_nil] at h2; cases h2
theorem handle_some {a b : List UInt8} {g i : Nat} (h1 : numB 4294967296 a = some g) (h2 : numB 4294967296 b = some i) : handleV (a ++ 46 :: b) = some (g * 4294967296 + i) := by
  unfold handleV
  rw [cut_dig (numB_all h1), h1, h2]
theorem bT {o : Option Nat} {n : Int} {b : Bool} (h1 : n = ((o.getD 0 : Nat) : Int)) (h2 : b = o.isSome) : Ending.returned (.tuple #[.int .u64 n, .bool b]) = .returned (.tuple #[.int .u64 ((o.getD 0 : Nat) : Int), .bool o.isSome]) := by rw [h1, h2]

set_option maxRecDepth 20000 in
set_option maxHeartbeats 2000000 in
theorem refHparse_any (s : List UInt8) (hs : s.length ≤ 1000000) (w : World) :
    Calls Tryd.prog 67 #[.string (Str s)] w fun e w' => e = .returned (.tuple #[.int .u64 (((handleV s).getD 0 : Nat) : Int), .bool (handleV s).isSome]) ∧ Fr [] w w' := by
  obtain ⟨o, ho⟩ : ∃ o, handleV s = o := ⟨_, rfl⟩
  rw [ho]
  have HO := Lib.hid ho
  clear ho
  have l1 := strLen s
  have C0 := refHalf_any s (by omega) 0 (by omega) w
  have C1 := fun (a : Nat) (ha : a ≤ s.length) W => refHalf_any s (by omega) a ha W
  have H0 := Lib.hid C0
  have H1 := Lib.hid C1
  clear C0 C1
  cases hA : halfI s 0 with
  | none =>
    rw [hA] at H0
    simp only [Option.getD_none, Option.isSome_none] at H0
    have hn : o = none := by
      rw [← HO.out]
      refine handle_none fun a b g i h1 h2 e => ?_
      have : halfI s 0 = some g := by
        unfold halfI
        rw [List.drop_zero, e, digV_app (numB_all h1) dig46, h1]
      rw [this] at hA; cases hA
    have HN := Lib.hid hn
    clear hn HO hA H1
    go_enter Tryd.func67, Tryd.ntmps67
    go_wp2_with fail
    refine H0.out.mono ?_
    rintro e w1 ⟨rfl, f1⟩
    have F := Lib.hid f1
    clear f1 H0
    go_wp2
    go_ret2
    exact ⟨bT (by rw [HN.out]; rfl) (by rw [HN.out]; rfl), F.out⟩
  | some g =>
    rw [hA] at H0
    simp only [Option.getD_some, Option.isSome_some, if_true, Nat.zero_add, List.drop_zero] at H0
    have hA' : numB 4294967296 (digV s) = some g := by unfold halfI at hA; rwa [List.drop_zero] at hA
    obtain ⟨k, hk⟩ : ∃ k, (digV s).length = k := ⟨_, rfl⟩
    rw [hk] at H0
    have hkl : k ≤ s.length := by rw [← hk]; exact digV_le s
    have hsp := digV_split s
    rw [hk] at hsp
    by_cases hlt : k < s.length
    · obtain ⟨c, hc⟩ := at_of s hlt
      have ic := strIdx hc
      have hsp2 : s = digV s ++ c :: s.drop (k + 1) := by
        conv => lhs; rw [hsp]
        rw [List.drop_eq_getElem_cons hlt, (List.getElem?_eq_some_iff.1 hc).2]
      by_cases hdot : c = 46
      · subst hdot
        have hg32 := numB_lt hA'
        cases hB : halfI s (k + 1) with
        | none =>
          have C := H1.out (k + 1) (by omega)
          rw [hB] at C
          simp only [Option.getD_none, Option.isSome_none] at C
          have hn : o = none := by
            rw [← HO.out]
            refine handle_none fun a b g2 i h1 h2 e => ?_
            have h3 := congrArg (cutV 46) (hsp2.symm.trans e)
            rw [cut_dig (digV_all s), cut_dig (numB_all h1)] at h3
            injection h3 with h3 h4
            injection h4 with h4 _
            have : halfI s (k + 1) = some i := by
              unfold halfI
              rw [h4, num_digV h2, h2]
            rw [this] at hB; cases hB
          have HN := Lib.hid hn
          have HC := Lib.hid C
          clear hn HO hA H1 C hsp hsp2 hA' hB hc hk
          go_enter Tryd.func67, Tryd.ntmps67
          go_wp2_with fail
          refine H0.out.mono ?_
          rintro e w1 ⟨rfl, f1⟩
          clear H0
          go_wp2_with fail
          refine (HC.out _).mono ?_
          rintro e w2 ⟨rfl, f2⟩
          have F := Lib.hid (f1.trans0 f2)
          clear f1 f2 HC
          go_wp2
          go_ret2
          exact ⟨bT (by rw [HN.out]; rfl) (by rw [HN.out]; rfl), F.out⟩
        | some n =>
          have C := H1.out (k + 1) (by omega)
          rw [hB] at C
          simp only [Option.getD_some, Option.isSome_some, if_true] at C
          obtain ⟨m, hm⟩ : ∃ m, k + 1 + (digV (s.drop (k + 1))).length = m := ⟨_, rfl⟩
          rw [hm] at C
          have hB' : numB 4294967296 (digV (s.drop (k + 1))) = some n := hB
          have hn32 := numB_lt hB'
          have P := Lib.hid (fun W => refPair_any g n hg32 hn32 W)
          have hml : (k + 1) + (s.drop (k + 1)).length = s.length := by rw [List.length_drop]; omega
          have hml2 := digV_le (s.drop (k + 1))
          by_cases hme : m = s.length
          · have hn : o = some (g * 4294967296 + n) := by
              have h3 : digV (s.drop (k + 1)) = s.drop (k + 1) := by
                rw [digV_pre (s.drop (k + 1)), List.take_of_length_le (by omega)]
              rw [← HO.out, hsp2]
              rw [h3] at hB'
              exact handle_some hA' hB'
            have HN := Lib.hid hn
            have HC := Lib.hid C
            clear hn HO hA H1 C hsp hsp2 hA' hB hB' hc hm hk hml hml2
            subst hme
            go_enter Tryd.func67, Tryd.ntmps67
            go_wp2_with fail
            refine H0.out.mono ?_
            rintro e w1 ⟨rfl, f1⟩
            clear H0
            go_wp2_with fail
            refine (HC.out _).mono ?_
            rintro e w2 ⟨rfl, f2⟩
            have F := Lib.hid (f1.trans0 f2)
            clear f1 f2 HC
            go_wp2_with fail
            refine (P.out _).mono ?_
            rintro e w3 ⟨rfl, f3⟩
            have F3 := Lib.hid (F.out.trans0 f3)
            clear f3 P
            go_wp2
            go_ret2
            exact ⟨bT (by rw [HN.out]; simp) (by rw [HN.out]; rfl), F3.out⟩
          · have hn : o = none := by
              rw [← HO.out]
              refine handle_none fun a b g2 i h1 h2 e => ?_
              have h3 := congrArg (cutV 46) (hsp2.symm.trans e)
              rw [cut_dig (digV_all s), cut_dig (numB_all h1)] at h3
              injection h3 with h3 h4
              injection h4 with h4 _
              have : digV (s.drop (k + 1)) = s.drop (k + 1) := by rw [h4]; exact num_digV h2
              rw [this] at hm
              omega
            have HN := Lib.hid hn
            have HC := Lib.hid C
            clear hn HO hA H1 C hsp hsp2 hA' hB hB' hc hm hk hml hml2 P
            go_enter Tryd.func67, Tryd.ntmps67
            go_wp2_with fail
            refine H0.out.mono ?_
            rintro e w1 ⟨rfl, f1⟩
            clear H0
            go_wp2_with fail
            refine (HC.out _).mono ?_
            rintro e w2 ⟨rfl, f2⟩
            have F := Lib.hid (f1.trans0 f2)
            clear f1 f2 HC
            go_wp2
            go_ret2
            exact ⟨bT (by rw [HN.out]; rfl) (by rw [HN.out]; rfl), F.out⟩
      · have hn : o = none := by
          rw [← HO.out]
          refine handle_none fun a b g2 i h1 h2 e => ?_
          have h3 : digV s = a := by rw [e]; exact digV_app (numB_all h1) dig46
          have h4 : c :: s.drop (k + 1) = 46 :: b := by
            have := hsp2.symm.trans e
            rw [h3] at this
            exact List.append_cancel_left this
          injection h4 with h4 _
          exact hdot h4
        have HN := Lib.hid hn
        have hne : ((c.toNat : Int) != 46) = true := by
          have : ¬ (c.toNat : Int) = 46 := fun e => hdot (by apply UInt8.toNat_inj.1; show c.toNat = 46; omega)
          simpa using this
        clear hn HO hA H1 hsp hsp2 hA' hc hk hdot
        go_enter Tryd.func67, Tryd.ntmps67
        go_wp2_with fail
        refine H0.out.mono ?_
        rintro e w1 ⟨rfl, f1⟩
        have F := Lib.hid f1
        clear f1 H0
        go_wp2
        go_ret2
        exact ⟨bT (by rw [HN.out]; rfl) (by rw [HN.out]; rfl), F.out⟩
    · have hn : o = none := by
        rw [← HO.out]
        refine handle_none fun a b g2 i h1 h2 e => ?_
        have h3 : digV s = a := by rw [e]; exact digV_app (numB_all h1) dig46
        have h4 := congrArg List.length e
        rw [h3] at hk
        simp at h4
        omega
      have HN := Lib.hid hn
      clear hn HO hA H1 hsp hA' hk
      go_enter Tryd.func67, Tryd.ntmps67
      go_wp2_with fail
      refine H0.out.mono ?_
      rintro e w1 ⟨rfl, f1⟩
      have F := Lib.hid f1
      clear f1 H0
      go_wp2
      go_ret2
      exact ⟨bT (by rw [HN.out]; rfl) (by rw [HN.out]; rfl), F.out⟩
end Go.Proofs.YtkdmodanfcpcfaaDoor
