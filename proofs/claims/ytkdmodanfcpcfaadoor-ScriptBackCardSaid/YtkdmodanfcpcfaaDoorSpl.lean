/- DERIVED. strings.Split at a blank; a kind's shape. -/
import Derived.Test.YtkdmodanfcpcfaaDoorSet
namespace Go.Proofs.YtkdmodanfcpcfaaDoor
open Go.RowKit

theorem split_any (s : List UInt8) (hs : s.length ≤ 1000000) (w : World) (hg : Glob w) :
    Calls Tryd.prog 60 #[.string (Str s), .string (Str [32])] w fun e w' => ∃ h, e = .returned (.slice (some ⟨h, 0, none⟩) (wordsV s).length (wordsV s).length) ∧ Fr [] w w' ∧ RdAt encS w' (.slice (some ⟨h, 0, none⟩) (wordsV s).length (wordsV s).length) (wordsV s) h 0 := by
  obtain ⟨m, hm⟩ := hg.max
  refine (Tryd.strings_Split (Str s) (Str [32]) m w (by rw [Str.size]; omega) hm (by rw [Str.size]; simp)).mono ?_
  rintro e w' ⟨rfl, rfl⟩
  have hl : Lib.countB (Str s) (Str [32]) + 1 = (wordsV s).length := by
    have h1 := Lib.splitB_all (Str [32]) (by rw [Str.size]; simp) 0 _ (Str s) rfl
    rw [splitB_eq] at h1
    simp at h1
    omega
  rw [hl, splitB_eq]
  have hn := wordsV_len s
  refine ⟨w.heap.size, rfl, (Fr.refl _ _).alloc _, ⟨⟨_, _, rfl, fun _ => rfl, by omega, by unfold maxLen; omega⟩, fun i x hx j hj => ?_, fun _ => by simp⟩⟩
  simp only [encS] at hj ⊢
  obtain rfl : j = 0 := by omega
  rw [World.cell?_alloc_at _ _ _ _ (by simp)]
  simp [hx]

def shapeW : Nat → List UInt8
  | 1 => [115, 116, 97, 114, 116]
  | 2 => [115, 116, 111, 112]
  | 3 => [114, 101, 115, 101, 116]
  | 4 => [101, 120, 112, 105, 114, 101]
  | 5 => [119, 97, 105, 116]
  | _ => [116, 105, 100, 121]
def shapeF : Nat → List UInt8
  | 1 => [68, 88]
  | 2 => [72]
  | 3 => [72, 68, 88]
  | 4 => [78]
  | 5 => [78]
  | _ => []
theorem of_k (k : Nat) (h1 : 1 ≤ k) (h2 : k ≤ 6) (w : World) : Calls Tryd.prog 55 #[.int .i64 k] w fun e w' => e = .returned (.tuple #[.agg #[.string (Str (shapeW k)), .string (Str (shapeF k))], .bool true]) ∧ Fr [] w w' := by
  have : k = 1 ∨ k = 2 ∨ k = 3 ∨ k = 4 ∨ k = 5 ∨ k = 6 := by omega
  rcases this with rfl | rfl | rfl | rfl | rfl | rfl
  · exact of_1 w
  · exact of_2 w
  · exact of_3 w
  · exact of_4 w
  · exact of_5 w
  · exact of_6 w
theorem shapeF_ok (k : Nat) : ∀ f ∈ shapeF k, f = 68 ∨ f = 88 ∨ f = 72 ∨ f = 78 := by
  intro f hf
  unfold shapeF at hf
  split at hf <;> simp at hf <;> first | (rcases hf with rfl | rfl | rfl <;> simp; done) | (rcases hf with rfl | rfl <;> simp; done) | (subst hf; simp; done)

def fillV : CallA → List UInt8 → List (List UInt8) → Option CallA
  | c, f :: fs, x :: xs => (setV c f x).bind fun c' => fillV c' fs xs
  | c, _, _ => some c
/-- the kinds 7 - j .. 6 are still to be tried -/
def callR (ws : List (List UInt8)) : Nat → Option CallA
  | 0 => none
  | j + 1 => if ws[0]? = some (shapeW (6 - j)) ∧ ws.length = 1 + (shapeF (6 - j)).length then fillV ⟨((6 - j : Nat) : Int), 0, 0, 0, 0⟩ (shapeF (6 - j)) (ws.drop 1) else callR ws j
def callV (s : List UInt8) : Option CallA := callR (wordsV s) 6
end Go.Proofs.YtkdmodanfcpcfaaDoor
