/- DERIVED. Chapter 42: a plan's line read, of the program and of the reference. -/
import Derived.Test.YtkdmodanfcpcfaaDoorRightC
import Derived.Test.YtkdmodanfcpcfaaDoorCallP
namespace Go.Proofs.YtkdmodanfcpcfaaDoor
open Go.RowKit

def planW : List (List UInt8) → Option PlanA
  | [w0, w1, w2, w3, w4] => if w0 = [112, 108, 97, 110] then
      (numB 9223372036854775808 w1).bind fun a => (numB 9223372036854775808 w2).bind fun b => (numB 9223372036854775808 w3).bind fun c => (numB 18446744073709551616 w4).bind fun g =>
        if PlanA.right ⟨a, b, c, g⟩ then some ⟨a, b, c, g⟩ else none
    else none
  | _ => none
def planV (s : List UInt8) : Option PlanA := planW (wordsV s)
theorem planW_len {ws : List (List UInt8)} (h : ws.length ≠ 5) : planW ws = none := by
  unfold planW
  split
  · simp at h
  · rfl
theorem planW_head {ws : List (List UInt8)} {w0 : List UInt8} (h : ws[0]? = some w0) (h0 : w0 ≠ [112, 108, 97, 110]) : planW ws = none := by
  unfold planW
  split
  · simp at h; subst h; rw [if_neg h0]
  · rfl
/-- the bound of the word at k + 1 -/
def pB (k : Nat) : Nat := if k < 3 then 9223372036854775808 else 18446744073709551616
theorem planW_no {ws : List (List UInt8)} {k : Nat} {x : List UInt8} (hk : k < 4) (h : (ws.drop 1)[k]? = some x) (hn : numB (pB k) x = none) : planW ws = none := by
  unfold planW
  split
  · have : k = 0 ∨ k = 1 ∨ k = 2 ∨ k = 3 := by omega
    rcases this with rfl | rfl | rfl | rfl
    all_goals simp at h
    all_goals subst h
    all_goals simp [pB] at hn
    · simp [hn]
    · split
      · cases numB 9223372036854775808 _ <;> simp [hn]
      · rfl
    · split
      · cases numB 9223372036854775808 _ <;> simp
        cases numB 9223372036854775808 _ <;> simp [hn]
      · rfl
    · split
      · cases numB 9223372036854775808 _ <;> simp
        cases numB 9223372036854775808 _ <;> simp
        cases numB 9223372036854775808 _ <;> simp [hn]
      · rfl
  · rfl
theorem planW_yes {ws : List (List UInt8)} (h5 : ws.length = 5) (h0 : ws[0]? = some [112, 108, 97, 110]) {a b c g : Nat}
    (h1 : ∃ x, (ws.drop 1)[0]? = some x ∧ numB (pB 0) x = some a) (h2 : ∃ x, (ws.drop 1)[1]? = some x ∧ numB (pB 1) x = some b)
    (h3 : ∃ x, (ws.drop 1)[2]? = some x ∧ numB (pB 2) x = some c) (h4 : ∃ x, (ws.drop 1)[3]? = some x ∧ numB (pB 3) x = some g) :
    planW ws = if PlanA.right ⟨a, b, c, g⟩ then some ⟨a, b, c, g⟩ else none := by
  match ws, h5 with
  | [w0, w1, w2, w3, w4], _ =>
    simp [pB] at h0 h1 h2 h3 h4
    simp [planW, h0, h1, h2, h3, h4]

/-- what a reader of plans answers: the plan counts only if there is one -/
def PlanR (s : List UInt8) (e : Ending) : Prop :=
  ∃ p, e = .returned (.tuple #[planAgg p, .bool (planV s).isSome]) ∧ ∀ q, planV s = some q → p = q
end Go.Proofs.YtkdmodanfcpcfaaDoor
