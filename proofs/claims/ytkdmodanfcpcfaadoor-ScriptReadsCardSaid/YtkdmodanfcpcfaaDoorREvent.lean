/- DERIVED. Chapter 42: event, of the reference. -/
import Derived.Test.YtkdmodanfcpcfaaDoorEventOf
import Derived.Test.YtkdmodanfcpcfaaDoorRPlan
import Derived.Test.YtkdmodanfcpcfaaDoorCallP
namespace Go.Proofs.YtkdmodanfcpcfaaDoor
open Go.RowKit

/-- a text whose second word there is, as its words have it -/
theorem words_two (s : List UInt8) : (wordsV s).length < 2 ↔ (cutV 32 s).2.2 = false := by
  rw [words_cut]
  cases h : (cutV 32 s).2.2
  · simp
  · have := List.length_pos_iff.2 (wordsV_ne (cutV 32 s).2.1)
    simp; omega
theorem words_0 (s : List UInt8) : (wordsV s)[0]? = some (cutV 32 s).1 := by
  rw [words_cut]
  have h2 := (cutV_len 32 s).2.2.2.1
  cases h : (cutV 32 s).2.2
  · simp [(h2 h).1]
  · simp
theorem words_1 (s : List UInt8) (h : (cutV 32 s).2.2 = true) : (wordsV s)[1]? = some (cutV 32 (cutV 32 s).2.1).1 := by
  rw [words_cut, if_pos h, List.getElem?_cons_succ, words_0]
theorem words_many (s : List UInt8) (h : (cutV 32 s).2.2 = true) : (wordsV s).length = 2 ↔ (cutV 32 (cutV 32 s).2.1).2.2 = false := by
  rw [words_cut, if_pos h, ← words_two]
  have := List.length_pos_iff.2 (wordsV_ne (cutV 32 s).2.1)
  simp; omega
theorem numB_nil0 {B : Nat} {s : List UInt8} (h : s = []) : numB B s = none := by subst h; exact numB_nil
/-- the reference's way -/
def eventW (s : List UInt8) (ws : List (List UInt8)) : Option EventA :=
  if ws.length < 2 then none
  else (numB 9223372036854775808 ((ws[1]?).getD [])).bind fun n =>
    if ws[0]? = some wStep ∧ ws.length = 2 then some ⟨2, n, noCall, 0⟩
    else if ws[0]? = some wTick ∧ ws.length = 2 then some ⟨3, 0, noCall, n⟩
    else if ws[0]? ≠ some wCall ∨ ws.length < 3 then none
    else (callV (s.drop (6 + ((ws[1]?).getD []).length))).map fun c => ⟨1, n, c, 0⟩
theorem eventW_eq (s : List UInt8) : eventW s (wordsV s) = eventV s := by
  unfold eventW eventV eventU
  by_cases h : (cutV 32 s).2.2 = true
  · rw [if_neg (by rw [words_two, h]; decide), words_1 s h, words_0]
    simp only [Option.getD_some]
    cases hn : numB 9223372036854775808 (cutV 32 (cutV 32 s).2.1).1 with
    | none => rfl
    | some n =>
      simp only [Option.bind_some]
      have hm := words_many s h
      have hs := (cutV_len 32 s).2.2.1 h
      have hs2 := (cutV_len 32 (cutV 32 s).2.1).2.2.1
      have hge : ¬ (wordsV s).length < 2 := by rw [words_two, h]; decide
      generalize hwd : (cutV 32 s).1 = wd at *
      generalize hre : (cutV 32 s).2.1 = re at *
      generalize hmo : (cutV 32 re).2.2 = mo at *
      generalize hnu : (cutV 32 re).1 = nu at *
      generalize htx : (cutV 32 re).2.1 = tx at *
      have inj : ∀ x : List UInt8, some wd = some x ↔ wd = x := fun x => ⟨fun h => by injection h, fun h => by rw [h]⟩
      simp only [inj, ne_eq]
      cases mo with
      | false =>
        have h2 : (wordsV s).length = 2 := hm.2 rfl
        rw [h2]
        by_cases hc : wd = wCall
        · rw [if_neg (by rw [hc]; decide), if_neg (by rw [hc]; decide), if_pos (by omega), if_pos (by simp [hc])]
        · rw [if_neg (by simp [hc] : ¬ ¬ (false = decide (wd = wCall)))]
          by_cases h3 : wd = wStep
          · rw [if_pos ⟨h3, rfl⟩, if_pos h3]
          · rw [if_neg (fun h => h3 h.1), if_neg h3]
            by_cases h4 : wd = wTick
            · rw [if_pos ⟨h4, rfl⟩, if_pos h4]
            · rw [if_neg (fun h => h4 h.1), if_neg h4, if_pos (by omega), if_neg hc]
      | true =>
        have h2 : (wordsV s).length ≠ 2 := fun e => by have := hm.1 e; cases this
        rw [if_neg (fun h => h2 h.2), if_neg (fun h => h2 h.2)]
        by_cases hc : wd = wCall
        · rw [if_neg (by rintro (h | h); exact h hc; omega), if_neg (by simp [hc]), if_neg (by rw [hc]; decide), if_neg (by rw [hc]; decide), if_pos hc]
          congr 2
          rw [hs, hs2 rfl, hc]
          rw [show wCall ++ 32 :: (nu ++ 32 :: tx) = (wCall ++ 32 :: nu ++ [32]) ++ tx by simp]
          rw [show 6 + nu.length = (wCall ++ 32 :: nu ++ [32]).length by simp [wCall]; omega]
          rw [List.drop_left]
        · rw [if_pos (Or.inl hc), if_pos (by simp [hc])]
  · have hf : (cutV 32 s).2.2 = false := by cases hh : (cutV 32 s).2.2 <;> simp_all
    rw [if_pos ((words_two s).2 hf)]
    have := ((cutV_len 32 s).2.2.2.1 hf).2
    rw [this, numB_nil0 (by rfl)]
    rfl
end Go.Proofs.YtkdmodanfcpcfaaDoor
