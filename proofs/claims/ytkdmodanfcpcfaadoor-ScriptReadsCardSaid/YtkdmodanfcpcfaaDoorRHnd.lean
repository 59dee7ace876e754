/- DERIVED. Chapter 30, the reference: half, Parse. -/
import Derived.Test.YtkdmodanfcpcfaaDoorHnd
namespace Go.Proofs.YtkdmodanfcpcfaaDoor
open Go.RowKit

set_option maxRecDepth 20000 in
theorem refPair_any (a b : Nat) (ha : a < 4294967296) (hb : b < 4294967296) (w : World) :
    Calls Tryd.prog 78 #[.int .u64 a, .int .u64 b] w fun e w' => e = .returned (.int .u64 ((a * 4294967296 + b : Nat) : Int)) ∧ Fr [] w w' := by
  go_enter Tryd.func78, Tryd.ntmps78
  go_wp2
  go_ret
  exact ⟨ret_u64 (by omega), Fr.refl _ _⟩

/-- the digits ahead -/
def digV (s : List UInt8) : List UInt8 := s.takeWhile (fun c => decide (isD c))
theorem digV_all (s : List UInt8) : ∀ c ∈ digV s, isD c := by
  intro c hc
  have := List.all_takeWhile (p := fun c => decide (isD c)) (l := s)
  rw [List.all_eq_true] at this
  simpa using this c hc
theorem digV_get {s : List UInt8} {j : Nat} {c : UInt8} (h : s[j]? = some c) (hj : j ≤ (digV s).length) : (isD c → (digV s)[j]? = some c) ∧ (¬ isD c → j = (digV s).length) := by
  induction s generalizing j with
  | nil => simp at h
  | cons x r ih =>
    unfold digV at hj ⊢
    rw [List.takeWhile_cons] at hj ⊢
    by_cases hx : isD x
    · simp only [hx, decide_true, if_true] at hj ⊢
      cases j with
      | zero => simp at h; subst h; exact ⟨fun _ => rfl, fun hn => absurd hx hn⟩
      | succ j =>
        simp at h hj ⊢
        exact ih h hj
    · simp only [hx, decide_false] at hj ⊢
      simp at hj
      subst hj
      simp at h
      subst h
      exact ⟨fun hd => absurd hd hx, fun _ => by simp⟩
theorem digV_le (s : List UInt8) : (digV s).length ≤ s.length := (List.takeWhile_sublist _).length_le
theorem digV_pre (s : List UInt8) : digV s = s.take (digV s).length := by
  have h := List.takeWhile_prefix (l := s) (fun c => decide (isD c))
  exact (List.prefix_iff_eq_take.1 h)
theorem digV_app {a b : List UInt8} {c : UInt8} (ha : ∀ x ∈ a, isD x) (hc : ¬ isD c) : digV (a ++ c :: b) = a := by
  unfold digV
  induction a with
  | nil => simp [hc]
  | cons x r ih => simp [ha x (by simp), ih (fun y hy => ha y (by simp [hy]))]
theorem digV_id {a : List UInt8} (ha : ∀ x ∈ a, isD x) : digV a = a := by
  unfold digV
  induction a with
  | nil => rfl
  | cons x r ih => simp [ha x (by simp), ih (fun y hy => ha y (by simp [hy]))]

def halfI (s : List UInt8) (a : Nat) : Option Nat := numB 4294967296 (digV (s.drop a))
theorem ret_ui {n n' e e' : Int} (h1 : n = n') (h2 : e = e') : Ending.returned (.tuple #[.int .u64 n, .int .i64 e]) = .returned (.tuple #[.int .u64 n', .int .i64 e']) := by rw [h1, h2]

set_option maxRecDepth 20000 in
set_option maxHeartbeats 4000000 in
theorem refHalf_any (s : List UInt8) (hs : s.length ≤ 281474976710656) (a : Nat) (ha : a ≤ s.length) (w : World) :
    Calls Tryd.prog 77 #[.string (Str s), .int .i64 a] w fun e w' =>
      e = .returned (.tuple #[.int .u64 (((halfI s a).getD 0 : Nat) : Int), .int .i64 (if (halfI s a).isSome then ((a + (digV (s.drop a)).length : Nat) : Int) else -1)]) ∧ Fr [] w w' := by
  obtain ⟨T, hT⟩ : ∃ T, digV (s.drop a) = T := ⟨_, rfl⟩
  have HT : Hid ((∀ c ∈ T, isD c) ∧ (∀ j c, s[a + j]? = some c → j ≤ T.length → (isD c → T[j]? = some c) ∧ (¬ isD c → j = T.length))) := by
    refine ⟨by rw [← hT]; exact digV_all _, fun j c h hj => ?_⟩
    rw [← hT] at hj ⊢
    exact digV_get (by rw [List.getElem?_drop]; exact h) hj
  have hle : T.length ≤ s.length - a := by rw [← hT]; have := digV_le (s.drop a); simpa using this
  unfold halfI
  rw [hT]
  clear hT
  obtain ⟨o, ho⟩ : ∃ o, numB 4294967296 T = o := ⟨_, rfl⟩
  rw [ho]
  obtain ⟨ri, hri⟩ : ∃ ri : Int, (if o.isSome then ((a + T.length : Nat) : Int) else -1) = ri := ⟨_, rfl⟩
  rw [hri]
  have HI := Lib.hid hri
  have HO := Lib.hid ho
  clear ho hri
  have l1 := strLen s
  go_enter Tryd.func77, Tryd.ntmps77
  go_wp2
  go_loopw [6, 7] (fun n i wr => ∃ (j acc p : Nat), n = .int .u64 acc ∧ i = .int .i64 p ∧ a + j = p ∧ j ≤ T.length ∧ acc < 4294967296 ∧ Hid (acc = valV (T.take j) ∧ (2 ≤ j → ¬ s[a]? = some 48)) ∧ Fr [] w wr) (fun _ i _ => s.length - (intOf i).toNat)
  case atStart => exact ⟨0, 0, a, rfl, rfl, by omega, by omega, by omega, ⟨by rw [List.take_zero, valV, valF_nil], by omega⟩, Fr.refl _ _⟩
  case round =>
    obtain ⟨j, acc, p, rfl, rfl, hp, hj, hacc, hh, hf⟩ := hrel
    by_cases hlt : p < s.length
    · obtain ⟨c, hc⟩ := at_of s hlt
      obtain ⟨c0, h0⟩ := at_of s (show a < s.length by omega)
      have ij := strIdx hc
      have i0 := strIdx h0
      obtain ⟨hg1, hg2⟩ := HT.out.2 j c (by rw [hp]; exact hc) hj
      have hcc : j = 0 → c0 = c := by
        rintro rfl
        have e : p = a := by omega
        rw [e, h0] at hc
        injection hc
      by_cases hd : isD c
      · have hT1 := hg1 hd
        have hl := dV_lt hd
        have hcD : (c.toNat : Int) - 48 = (dV c : Nat) := by unfold isD at hd; unfold dV; omega
        have hd' : (48 : Int) ≤ c.toNat ∧ (c.toNat : Int) ≤ 57 := by unfold isD at hd; omega
        have htk : T.take (j + 1) = T.take j ++ [c] := take_at hT1
        have hval : valV (T.take (j + 1)) = 10 * acc + dV c := by rw [htk, valV, valF_snoc, hh.out.1]; rfl
        have hjT : j < T.length := (List.getElem?_eq_some_iff.1 hT1).1
        have HC := Lib.hid (And.intro hval (And.intro hT1 (And.intro hc h0)))
        clear hval htk hT1 hg1 hg2 hc h0 hd
        by_cases hov : 4294967295 < 10 * acc + dV c
        · have hn : o = none := by
            rw [← HO.out, ← List.take_append_drop (j + 1) T]
            exact numB_pre (by rw [HC.out.1]; omega)
          have HN := Lib.hid hn
          clear hn HO
          go_wp2
          all_goals go_ret2
          all_goals exact ⟨ret_ui (by rw [HN.out]; rfl) (by rw [← HI.out, HN.out]; rfl), hf⟩
        · by_cases hj0 : j = 0
          · obtain rfl := hcc hj0
            subst hj0
            obtain rfl : a = p := by omega
            have HH := Lib.hid (show 10 * acc + dV c0 = valV (T.take (0 + 1)) ∧ (2 ≤ 0 + 1 → ¬ s[a]? = some 48) from ⟨HC.out.1.symm, by omega⟩)
            clear hh
            go_wp2
            all_goals go_roundw
            case rel => exact ⟨0 + 1, 10 * acc + dV c0, a + 1, by first | rfl | (congr 1; omega), by first | rfl | (congr 1; omega), by omega, by omega, by omega, HH, hf⟩
            case measure => simp [intOf]; omega
          · by_cases h48 : c0 = 48
            · have hn : o = none := by
                subst h48
                have h0 : T[0]? = some 48 := (HT.out.2 0 48 HC.out.2.2.2 (by omega)).1 (by decide)
                rw [← HO.out]
                cases T with
                | nil => simp at h0
                | cons x r =>
                  simp at h0
                  subst h0
                  exact numB_zero (by rintro rfl; simp at hjT; omega)
              have HN := Lib.hid hn
              have e48 : ((c0.toNat : Int) == 48) = true := by rw [h48]; rfl
              clear hn HO
              go_wp2
              all_goals go_ret2
              all_goals exact ⟨ret_ui (by rw [HN.out]; rfl) (by rw [← HI.out, HN.out]; rfl), hf⟩
            · have e48 : ((c0.toNat : Int) == 48) = false := by
                have : ¬ (c0.toNat : Int) = 48 := fun e => h48 (by apply UInt8.toNat_inj.1; show c0.toNat = 48; omega)
                simpa using this
              have HH := Lib.hid (show 10 * acc + dV c = valV (T.take (j + 1)) ∧ (2 ≤ j + 1 → ¬ s[a]? = some 48) from ⟨HC.out.1.symm, fun _ e => by rw [HC.out.2.2.2] at e; injection e with e; exact h48 e⟩)
              clear hh
              go_wp2
              all_goals go_roundw
              case rel => exact ⟨j + 1, 10 * acc + dV c, p + 1, by first | rfl | (congr 1; omega), by first | rfl | (congr 1; omega), by omega, by omega, by omega, HH, hf⟩
              case measure => simp [intOf]; omega
      · have hjT := hg2 hd
        have hd' : (c.toNat : Int) < 48 ∨ 57 < (c.toNat : Int) := by unfold isD at hd; omega
        have H2 := Lib.hid hjT
        clear hg1 hg2 hd i0 h0 hjT hcc hc
        by_cases hj0 : j = 0
        · have hn : o = none := by
            have : T = [] := List.eq_nil_of_length_eq_zero (by rw [← H2.out]; exact hj0)
            rw [← HO.out, this]; exact numB_nil
          have HN := Lib.hid hn
          subst hj0
          obtain rfl : a = p := by omega
          clear hn HO
          go_wp2
          all_goals go_ret2
          all_goals exact ⟨ret_ui (by rw [HN.out]; rfl) (by rw [← HI.out, HN.out]; rfl), hf⟩
        · have hn : o = some acc := by
            obtain ⟨h1, h2⟩ := hh.out
            rw [H2.out, List.take_length] at h1
            rw [← HO.out, h1]
            refine numB_canon (by rintro rfl; simp at H2; exact hj0 H2.out) HT.out.1 ?_ (by rw [← h1]; exact hacc)
            rintro r rfl
            cases r with
            | nil => rfl
            | cons x r =>
              exfalso
              have hl := H2.out
              simp at hl
              obtain ⟨c0, h0⟩ := at_of s (show a < s.length by omega)
              have h3 := (HT.out.2 0 c0 h0 (by omega))
              by_cases hd0 : isD c0
              · have := h3.1 hd0
                simp at this
                subst this
                exact h2 (by omega) h0
              · have := h3.2 hd0
                simp at this
          have HN := Lib.hid hn
          clear hn HO hh
          go_wp2
          all_goals go_ret2
          all_goals exact ⟨ret_ui (by rw [HN.out]; rfl) (by rw [← HI.out, HN.out, ← H2.out, hp]; rfl), hf⟩
    · have hjT : j = T.length := by omega
      have H2 := Lib.hid hjT
      clear hjT
      by_cases hj0 : j = 0
      · have hn : o = none := by
          have : T = [] := List.eq_nil_of_length_eq_zero (by rw [← H2.out]; exact hj0)
          rw [← HO.out, this]; exact numB_nil
        have HN := Lib.hid hn
        subst hj0
        obtain rfl : a = p := by omega
        clear hn HO
        go_wp2
        all_goals go_ret2
        all_goals exact ⟨ret_ui (by rw [HN.out]; rfl) (by rw [← HI.out, HN.out]; rfl), hf⟩
      · have hn : o = some acc := by
          obtain ⟨h1, h2⟩ := hh.out
          rw [H2.out, List.take_length] at h1
          rw [← HO.out, h1]
          refine numB_canon (by rintro rfl; simp at H2; exact hj0 H2.out) HT.out.1 ?_ (by rw [← h1]; exact hacc)
          rintro r rfl
          cases r with
          | nil => rfl
          | cons x r =>
            exfalso
            have hl := H2.out
            simp at hl
            obtain ⟨c0, h0⟩ := at_of s (show a < s.length by omega)
            have h3 := (HT.out.2 0 c0 h0 (by omega))
            by_cases hd0 : isD c0
            · have := h3.1 hd0
              simp at this
              subst this
              exact h2 (by omega) h0
            · have := h3.2 hd0
              simp at this
        have HN := Lib.hid hn
        clear hn HO hh
        go_wp2
        all_goals go_ret2
        all_goals exact ⟨ret_ui (by rw [HN.out]; rfl) (by rw [← HI.out, HN.out, ← H2.out, hp]; rfl), hf⟩
end Go.Proofs.YtkdmodanfcpcfaaDoor
