/- DERIVED. Chapter 42: what is written is read again; what is read was so written: plain. -/
import Derived.Test.YtkdmodanfcpcfaaDoorLineV
import Derived.Test.YtkdmodanfcpcfaaDoorRHead
import Derived.Test.YtkdmodanfcpcfaaDoorAwk
namespace Go.Proofs.YtkdmodanfcpcfaaDoor
open Go.RowKit

theorem cut_app (c : UInt8) (a b : List UInt8) (h : c ∉ a) : cutV c (a ++ c :: b) = (a, b, true) := by
  induction a with
  | nil => simp [cutV]
  | cons x r ih =>
    have hx : x ≠ c := fun e => h (by simp [e])
    have := ih (fun hm => h (by simp [hm]))
    simp [cutV, hx, this]
theorem cut_none (c : UInt8) (a : List UInt8) (h : c ∉ a) : cutV c a = (a, [], false) := by
  induction a with
  | nil => simp [cutV]
  | cons x r ih =>
    have hx : x ≠ c := fun e => h (by simp [e])
    have := ih (fun hm => h (by simp [hm]))
    simp [cutV, hx, this]
theorem words_app (a b : List UInt8) (h : (32 : UInt8) ∉ a) : wordsV (a ++ 32 :: b) = a :: wordsV b := by
  induction a with
  | nil => simp [wordsV]
  | cons x r ih =>
    have hx : x ≠ 32 := fun e => h (by simp [e])
    have := ih (fun hm => h (by simp [hm]))
    simp [wordsV, hx, this]
theorem words_one' (a : List UInt8) (h : (32 : UInt8) ∉ a) : wordsV a = [a] := by
  induction a with
  | nil => simp [wordsV]
  | cons x r ih =>
    have hx : x ≠ 32 := fun e => h (by simp [e])
    have := ih (fun hm => h (by simp [hm]))
    simp [wordsV, hx, this]
/-- a text is its words, a blank between each two -/
theorem words_join (s : List UInt8) : ∀ w ws, wordsV s = w :: ws → s = w ++ ws.flatMap (32 :: ·) := by
  induction s with
  | nil => intro w ws h; simp [wordsV] at h; obtain ⟨rfl, rfl⟩ := h; rfl
  | cons c r ih =>
    intro w ws h
    unfold wordsV at h
    split at h
    · rename_i hc
      subst hc
      injection h with h1 h2
      subst h1 h2
      cases hr : wordsV r with
      | nil => exact absurd hr (wordsV_ne r)
      | cons a b =>
        have := ih a b hr
        simp [← this]
    · cases hr : wordsV r with
      | nil => exact absurd hr (wordsV_ne r)
      | cons a b =>
        rw [hr] at h
        simp only [List.modifyHead_cons] at h
        injection h with h1 h2
        subst h1 h2
        have := ih a b hr
        rw [List.cons_append, ← this]

theorem dec_no {c : UInt8} (n : Nat) (h : ¬ isD c) : c ∉ Lib.decDigits n := fun hm => h (dec_dig n c hm)
theorem nD32 : ¬ isD 32 := by decide
theorem nD10 : ¬ isD 10 := by decide
theorem nD46 : ¬ isD 46 := by decide
theorem nD35 : ¬ isD 35 := by decide
theorem numB_of {B n : Nat} (h : n < B) : numB B (Lib.decDigits n) = some n := numB_some.2 ⟨rfl, h⟩
theorem itoa_no {c : UInt8} (n : Int) (h : ¬ isD c) (h2 : c ≠ 45) : c ∉ Lib.itoa n := by
  unfold Lib.itoa
  split
  · intro hm
    rcases List.mem_cons.1 hm with e | e
    · exact h2 e
    · exact dec_no _ h e
  · exact dec_no _ h

/-- a plan's line without its end -/
def planL (p : PlanA) : List UInt8 := [112, 108, 97, 110] ++ 32 :: Lib.itoa p.threads ++ 32 :: Lib.itoa p.slots ++ 32 :: Lib.itoa p.levels ++ 32 :: Lib.decDigits p.gen
theorem planT_L (p : PlanA) : planT p = planL p ++ [10] := rfl
theorem planL_words (p : PlanA) : wordsV (planL p) = [[112, 108, 97, 110], Lib.itoa p.threads, Lib.itoa p.slots, Lib.itoa p.levels, Lib.decDigits p.gen] := by
  have e : planL p = [112, 108, 97, 110] ++ 32 :: (Lib.itoa p.threads ++ 32 :: (Lib.itoa p.slots ++ 32 :: (Lib.itoa p.levels ++ 32 :: Lib.decDigits p.gen))) := by simp [planL]
  rw [e, words_app _ _ (by decide), words_app _ _ (itoa_no _ nD32 (by decide)), words_app _ _ (itoa_no _ nD32 (by decide)), words_app _ _ (itoa_no _ nD32 (by decide)), words_one' _ (dec_no _ nD32)]
theorem planL_no10 (p : PlanA) : (10 : UInt8) ∉ planL p := by
  have a := itoa_no (c := 10) p.threads nD10 (by decide)
  have b := itoa_no (c := 10) p.slots nD10 (by decide)
  have c := itoa_no (c := 10) p.levels nD10 (by decide)
  have d := dec_no (c := 10) p.gen nD10
  simp [planL, a, b, c, d]
theorem planV_L {p : PlanA} (h : p.right = true) : planV (planL p) = some p := by
  obtain ⟨t, s, l, g⟩ := p
  have h' := h
  simp [PlanA.right] at h'
  obtain ⟨⟨⟨⟨h1, h2⟩, h3, h4⟩, h5, h6⟩, h7⟩ := h'
  obtain ⟨t, rfl⟩ := Int.eq_ofNat_of_zero_le (show 0 ≤ t by omega)
  obtain ⟨s, rfl⟩ := Int.eq_ofNat_of_zero_le (show 0 ≤ s by omega)
  obtain ⟨l, rfl⟩ := Int.eq_ofNat_of_zero_le (show 0 ≤ l by omega)
  unfold planV
  rw [planL_words]
  simp only [planW, if_pos, Lib.itoa_nonneg]
  rw [numB_of (by omega), numB_of (by omega), numB_of (by omega), numB_of (by omega)]
  simp only [Option.bind_some]
  rw [if_pos h]

theorem handleT_of {x : List UInt8} {h : Nat} (e : handleV x = some h) : handleT h = x ∧ h < 18446744073709551616 := by
  unfold handleV at e
  split at e
  · rename_i g i hg hi
    injection e with e
    subst e
    obtain ⟨hg1, hg2⟩ := numB_some.1 hg
    obtain ⟨hi1, hi2⟩ := numB_some.1 hi
    have c := cutV_len 46 x
    cases hm : (cutV 46 x).2.2 with
    | false =>
      have := (c.2.2.2.1 hm).2
      rw [this] at hi1
      exact absurd hi1.symm (dec_ne i)
    | true =>
      have hx := c.2.2.1 hm
      have e1 : hiN (g * 4294967296 + i) = g := by unfold hiN; omega
      have e2 : loN (g * 4294967296 + i) = i := by unfold loN; omega
      exact ⟨by unfold handleT; rw [e1, e2, ← hg1, ← hi1]; exact hx.symm, by omega⟩
  · cases e
theorem setV_of {c c' : CallA} {f : UInt8} {x : List UInt8} (hf : f = 68 ∨ f = 88 ∨ f = 72 ∨ f = 78) (h : setV c f x = some c') : fieldT c' f = x ∧ (c.ok → c'.ok) ∧ c'.kind = c.kind ∧
    (f ≠ 68 → c'.deadline = c.deadline) ∧ (f ≠ 88 → c'.draw = c.draw) ∧ (f ≠ 72 → c'.handle = c.handle) ∧ (f ≠ 78 → c'.count = c.count) := by
  unfold setV at h
  rcases hf with rfl | rfl | rfl | rfl
  · rw [if_pos rfl] at h
    obtain ⟨n, hn, rfl⟩ := Option.map_eq_some_iff.1 h
    obtain ⟨h1, h2⟩ := numB_some.1 hn
    refine ⟨?_, fun k => ⟨k.kind, ⟨by simp only; omega, by simp only; omega⟩, k.draw, k.handle, k.count⟩, rfl, by simp, by simp, by simp, by simp⟩
    simp only [fieldT, if_pos, Lib.itoa_nonneg]
    exact h1.symm
  · rw [if_neg (by decide), if_pos rfl] at h
    obtain ⟨n, hn, rfl⟩ := Option.map_eq_some_iff.1 h
    obtain ⟨h1, h2⟩ := numB_some.1 hn
    refine ⟨?_, fun k => ⟨k.kind, k.deadline, h2, k.handle, k.count⟩, rfl, by simp, by simp, by simp, by simp⟩
    rw [fieldT, if_neg (by decide), if_pos rfl]
    exact h1.symm
  · rw [if_neg (by decide), if_neg (by decide), if_neg (by decide)] at h
    obtain ⟨n, hn, rfl⟩ := Option.map_eq_some_iff.1 h
    obtain ⟨h1, h2⟩ := handleT_of hn
    refine ⟨?_, fun k => ⟨k.kind, k.deadline, k.draw, h2, k.count⟩, rfl, by simp, by simp, by simp, by simp⟩
    rw [fieldT, if_neg (by decide), if_neg (by decide), if_pos rfl]
    exact h1
  · rw [if_neg (by decide), if_neg (by decide), if_pos rfl] at h
    obtain ⟨n, hn, rfl⟩ := Option.map_eq_some_iff.1 h
    obtain ⟨h1, h2⟩ := numB_some.1 hn
    refine ⟨?_, fun k => ⟨k.kind, k.deadline, k.draw, k.handle, ⟨by simp only; omega, by simp only; omega⟩⟩, rfl, by simp, by simp, by simp, by simp⟩
    rw [fieldT, if_neg (by decide), if_neg (by decide), if_neg (by decide)]
    simp only [Lib.itoa_nonneg]
    exact h1.symm
theorem fieldT_same {a b : CallA} (h1 : a.deadline = b.deadline) (h2 : a.draw = b.draw) (h3 : a.handle = b.handle) (h4 : a.count = b.count) (f : UInt8) : fieldT a f = fieldT b f := by
  unfold fieldT; rw [h1, h2, h3, h4]
end Go.Proofs.YtkdmodanfcpcfaaDoor
