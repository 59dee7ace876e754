/- DERIVED. Chapter 42: a script's text read: plain. -/
import Derived.Test.YtkdmodanfcpcfaaDoorBackW
import Derived.Test.YtkdmodanfcpcfaaDoorTells
namespace Go.Proofs.YtkdmodanfcpcfaaDoor
open Go.RowKit

theorem go_skip {x : List UInt8} (r : List UInt8) (o : Option PlanA) (l : List EventA) (line : Nat) (hx : (10 : UInt8) ∉ x) (h : x = [] ∨ x[0]? = some 35) : scriptGo (x ++ 10 :: r) o l line = scriptGo r o l (line + 1) := by
  have c := cut_app 10 x r hx
  rw [go_pass o l line (by simp) (by rw [c]) (by rw [c]; exact h)]
  unfold nextL
  rw [c]
theorem go_e {x : List UInt8} (r : List UInt8) (p : PlanA) (l : List EventA) (line : Nat) {e : EventA} (hx : (10 : UInt8) ∉ x) (h1 : x ≠ []) (h2 : x[0]? ≠ some 35) (h : eventV x = some e) : scriptGo (x ++ 10 :: r) (some p) l line = scriptGo r (some p) (l ++ [e]) (line + 1) := by
  have c := cut_app 10 x r hx
  rw [go_event p l line (by simp) (by rw [c]) (by rw [c]; simp [h1, h2])]
  unfold nextL
  rw [c]
  simp only
  rw [h]
theorem go_e0 {x : List UInt8} (r : List UInt8) (p : PlanA) (l : List EventA) (line : Nat) (hx : (10 : UInt8) ∉ x) (h1 : x ≠ []) (h2 : x[0]? ≠ some 35) (h : eventV x = none) : scriptGo (x ++ 10 :: r) (some p) l line = .bad (line + 1) 8 := by
  have c := cut_app 10 x r hx
  rw [go_event p l line (by simp) (by rw [c]) (by rw [c]; simp [h1, h2])]
  rw [c]
  simp only
  rw [h]
theorem go_p {x : List UInt8} (r : List UInt8) (p : PlanA) (l : List EventA) (line : Nat) (hx : (10 : UInt8) ∉ x) (h1 : x ≠ []) (h2 : x[0]? ≠ some 35) (h : planV x = some p) : scriptGo (x ++ 10 :: r) none l line = scriptGo r (some p) l (line + 1) := by
  have c := cut_app 10 x r hx
  rw [go_plan l line (by simp) (by rw [c]) (by rw [c]; simp [h1, h2])]
  unfold nextL
  rw [c]
  simp only
  rw [h]
theorem go_lines (p : PlanA) (r : List UInt8) : ∀ (l : List EventA), (∀ e ∈ l, e.ok) → allV l → ∀ (acc : List EventA) (line : Nat), ∃ line', scriptGo (linesV l ++ r) (some p) acc line = scriptGo r (some p) (acc ++ l) line'
  | [], _, _, acc, line => ⟨line, by simp [linesV]⟩
  | e :: l, hok, ha, acc, line => by
    obtain ⟨t, ht⟩ := Option.isSome_iff_exists.1 (ha e (by simp))
    obtain ⟨s, rfl, h1, h2, h3, h4⟩ := of_line (hok e (by simp)) ht
    obtain ⟨line', hl⟩ := go_lines p r l (fun x hx => hok x (by simp [hx])) (fun x hx => ha x (by simp [hx])) (acc ++ [e]) (line + 1)
    refine ⟨line', ?_⟩
    have e1 : linesV (e :: l) ++ r = s ++ 10 :: (linesV l ++ r) := by simp [linesV, ht]
    rw [e1, go_e _ p acc line h2 h3 h4 h1, hl]
    simp
theorem back_good {p : PlanA} (hp : p.ok) (hr : p.right = true) (l : List EventA) (hl : l.length ≤ 300) (hok : ∀ e ∈ l, e.ok) (ha : allV l) (s : List UInt8) (hs : (10 : UInt8) ∉ s) (hn : s.length ≤ 3000) :
    scriptV ([10, 35] ++ s ++ [10] ++ (planT p ++ linesV l) ++ [35, 10, 10]) = .good p l := by
  have h1 := planT_len hp
  have h2 := linesV_len l hok
  unfold scriptV
  rw [if_neg (by simp only [List.length_append, List.length_cons, List.length_nil]; omega)]
  have e1 : [10, 35] ++ s ++ [10] ++ (planT p ++ linesV l) ++ [35, 10, 10] = [] ++ 10 :: ((35 :: s) ++ 10 :: (planL p ++ 10 :: (linesV l ++ [35, 10, 10]))) := by simp [planT_L]
  rw [e1, go_skip _ none [] 0 (by simp) (.inl rfl), go_skip _ none [] _ (by simp [hs]) (.inr (by simp)), go_p _ p [] _ (planL_no10 p) (by simp [planL]) (by simp [planL]) (planV_L hr)]
  obtain ⟨line', hl⟩ := go_lines p [35, 10, 10] l hok ha [] (0 + 1 + 1 + 1)
  rw [hl]
  have e2 : ([35, 10, 10] : List UInt8) = [35] ++ 10 :: ([] ++ 10 :: []) := rfl
  rw [e2, go_skip _ (some p) _ _ (by decide) (.inr rfl), go_skip _ (some p) _ _ (by decide) (.inl rfl), go_nil]
  simp

def p11 : PlanA := ⟨1, 1, 1, 0⟩
def l11 : List UInt8 := [112, 108, 97, 110, 32, 49, 32, 49, 32, 49, 32, 48]
theorem planT_11 : planT p11 = l11 ++ [10] := by
  have e1 : Lib.itoa 1 = [49] := by rw [show (1 : Int) = ((1 : Nat) : Int) from rfl, Lib.itoa_nonneg, Lib.decDigits_one (by omega)]; rfl
  have e0 : Lib.decDigits 0 = [48] := by rw [Lib.decDigits_one (by omega)]; rfl
  simp only [planT, p11, e1, e0, l11]
  rfl
theorem p11_ok : p11.ok := ⟨⟨by decide, by decide⟩, ⟨by decide, by decide⟩, ⟨by decide, by decide⟩, by decide⟩
theorem p11_right : p11.right = true := by decide
theorem back_one (s : List UInt8) (hs : (10 : UInt8) ∉ s) (hn : s.length ≤ 3000) :
    (∃ n, scriptV (l11 ++ [10] ++ s ++ [10]) = .bad n 8) ∨ scriptV (l11 ++ [10] ++ s ++ [10]) = .good p11 [] ∨ ∃ e, scriptV (l11 ++ [10] ++ s ++ [10]) = .good p11 [e] ∧ lineV e = some (s ++ [10]) ∧ e.ok := by
  unfold scriptV
  rw [if_neg (by simp [l11]; omega)]
  have e1 : l11 ++ [10] ++ s ++ [10] = l11 ++ 10 :: (s ++ 10 :: []) := by simp
  rw [e1, go_p (x := l11) _ p11 [] 0 (by decide) (by decide) (by decide) (show planV l11 = some p11 from plan1)]
  by_cases hx : s = [] ∨ s[0]? = some 35
  · right; left
    rw [go_skip _ (some p11) [] _ hs hx, go_nil]
  · have h1 : s ≠ [] := fun e => hx (.inl e)
    have h2 : s[0]? ≠ some 35 := fun e => hx (.inr e)
    cases he : eventV s with
    | none =>
      left
      exact ⟨_, go_e0 _ p11 [] _ hs h1 h2 he⟩
    | some e =>
      right; right
      refine ⟨e, ?_, line_of he⟩
      rw [go_e _ p11 [] _ hs h1 h2 he, go_nil]
      rfl
theorem text_11 : textV p11 [] = (l11 ++ [10], 0) := by
  have := textV_yes (p := p11) (l := []) p11_right (by simp) (by rw [planT_11]; simp [linesV, l11])
  rw [this, planT_11]
  simp [linesV]
theorem text_1e {e : EventA} {s : List UInt8} (h : lineV e = some (s ++ [10])) (hn : s.length ≤ 3000) : textV p11 [e] = (l11 ++ [10] ++ s ++ [10], 0) := by
  have e1 : linesV [e] = s ++ [10] := by simp [linesV, h]
  have := textV_yes (p := p11) (l := [e]) p11_right (by simp [h]) (by rw [planT_11, e1]; simp [l11]; omega)
  rw [this, planT_11, e1]
  simp
/-- a text that is, and what it says of the plan and the events -/
theorem textV_ok {p : PlanA} {l : List EventA} (h : (textV p l).2 = 0) : p.right = true ∧ allV l ∧ (textV p l).1 = planT p ++ linesV l := by
  unfold textV at h ⊢
  split at h
  · rename_i h1
    split at h
    · rename_i h2
      split at h
      · cases h
      · rename_i h3
        rw [if_pos h1, if_pos h2, if_neg h3]
        exact ⟨h1, h2, rfl⟩
    · cases h
  · cases h
end Go.Proofs.YtkdmodanfcpcfaaDoor
