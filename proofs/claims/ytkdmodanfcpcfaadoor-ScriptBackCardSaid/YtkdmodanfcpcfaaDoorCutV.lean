/- DERIVED. Plain: a text cut at the first of a byte; its words between blanks. -/
import Derived.Test.YtkdmodanfcpcfaaDoorNumV
import Derived.Lib.SplitLaws
import Derived.Lib.CountLaws
namespace Go.Proofs.YtkdmodanfcpcfaaDoor
open Go.RowKit

def cutV (c : UInt8) : List UInt8 → List UInt8 × List UInt8 × Bool
  | [] => ([], [], false)
  | x :: r => if x = c then ([], r, true) else (x :: (cutV c r).1, (cutV c r).2.1, (cutV c r).2.2)
def wordsV : List UInt8 → List (List UInt8)
  | [] => [[]]
  | c :: r => if c = 32 then [] :: wordsV r else (wordsV r).modifyHead (c :: ·)

theorem wordsV_cons (c : UInt8) (r : List UInt8) : wordsV (c :: r) = if c = 32 then [] :: wordsV r else (wordsV r).modifyHead (c :: ·) := rfl
theorem cutV_cons (c x : UInt8) (r : List UInt8) : cutV c (x :: r) = if x = c then ([], r, true) else (x :: (cutV c r).1, (cutV c r).2.1, (cutV c r).2.2) := rfl
theorem wordsV_ne (s : List UInt8) : wordsV s ≠ [] := by
  induction s with
  | nil => simp [wordsV]
  | cons c r ih =>
    unfold wordsV
    split
    · simp
    · cases h : wordsV r with
      | nil => exact absurd h ih
      | cons a l => simp
theorem idx_cut (c : UInt8) : ∀ (s : List UInt8), (Lib.index s [c] = -1 ∧ cutV c s = (s, [], false)) ∨ ∃ i : Nat, Lib.index s [c] = i ∧ i < s.length ∧ cutV c s = (s.take i, s.drop (i + 1), true)
  | [] => .inl ⟨rfl, rfl⟩
  | x :: r => by
    rw [Lib.index_one]
    unfold Lib.indexByte cutV
    by_cases hx : x = c
    · subst hx
      refine .inr ⟨0, by simp, by simp, by simp⟩
    · have hb : (x == c) = false := by simp [hx]
      rw [hb, if_neg hx]
      rcases idx_cut c r with ⟨h1, h2⟩ | ⟨i, h1, h3, h2⟩
      · rw [Lib.index_one] at h1
        rw [h1, h2]
        exact .inl ⟨rfl, rfl⟩
      · rw [Lib.index_one] at h1
        rw [h1, h2]
        refine .inr ⟨i + 1, ?_, by simp; omega, by simp⟩
        have : ((i : Int) == -1) = false := by rw [beq_eq_false_iff_ne]; omega
        simp [this]
theorem cut_eq (c : UInt8) (s : List UInt8) : Lib.cut s [c] = cutV c s := by
  unfold Lib.cut
  rcases idx_cut c s with ⟨h1, h2⟩ | ⟨i, h1, _, h2⟩
  · rw [h1, h2]; rfl
  · rw [h1, h2, if_pos (by omega)]; simp
theorem words_cut (s : List UInt8) : wordsV s = if (cutV 32 s).2.2 then (cutV 32 s).1 :: wordsV (cutV 32 s).2.1 else [s] := by
  induction s with
  | nil => rfl
  | cons c r ih =>
    rw [wordsV_cons, cutV_cons]
    by_cases hc : c = 32
    · simp [hc]
    · rw [if_neg hc, if_neg hc, ih]
      cases h : (cutV 32 r).2.2
      · simp
      · simp
theorem split_eq : ∀ (k : Nat) (s : List UInt8), Lib.count s [32] = k → Lib.splitK [32] 0 k s = wordsV s
  | 0, s, h => by
    rcases idx_cut 32 s with ⟨h1, h2⟩ | ⟨i, h1, _, h2⟩
    · rw [words_cut, h2]; rfl
    · rw [Lib.count_hit (by simp) h1] at h; omega
  | k + 1, s, h => by
    rcases idx_cut 32 s with ⟨h1, h2⟩ | ⟨i, h1, _, h2⟩
    · rw [Lib.count_miss h1] at h; omega
    · rw [Lib.count_hit (by simp) h1] at h
      have ih := split_eq k (s.drop (i + 1)) (by simpa using (show Lib.count (s.drop (i + [(32 : UInt8)].length)) [32] = k by omega))
      rw [words_cut, h2]
      unfold Lib.splitK
      have : ((i : Int) == -1) = false := by rw [beq_eq_false_iff_ne]; omega
      rw [h1, this]
      simp [ih]
theorem splitB_eq (s : List UInt8) : (Lib.splitB (Str [32]) 0 (Lib.countB (Str s) (Str [32])) (Str s)) = (wordsV s).map Str := by
  have h := Lib.splitB_data (Str [32]) 0 (Lib.countB (Str s) (Str [32])) (Str s)
  rw [show (Str [32]).data.toList = [32] from rfl, show (Str s).data.toList = s by simp [Str]] at h
  rw [split_eq _ s (by show Lib.count s [32] = Lib.count (Str s).data.toList (Str [32]).data.toList; simp [Str])] at h
  rw [← h, List.map_map]
  have : (Str ∘ fun x : ByteArray => x.data.toList) = id := by funext x; apply ByteArray.ext; simp [Str]
  rw [this, List.map_id]
/-- a text's words stand in it, each behind the last -/
theorem cutV_len (c : UInt8) (s : List UInt8) : (cutV c s).1.length ≤ s.length ∧ (cutV c s).2.1.length ≤ s.length ∧ ((cutV c s).2.2 = true → s = (cutV c s).1 ++ c :: (cutV c s).2.1) ∧ ((cutV c s).2.2 = false → (cutV c s).1 = s ∧ (cutV c s).2.1 = []) ∧ c ∉ (cutV c s).1 := by
  induction s with
  | nil => simp [cutV]
  | cons x r ih =>
    obtain ⟨h1, h2, h3, h4, h5⟩ := ih
    unfold cutV
    by_cases hx : x = c
    · simp [hx]
    · rw [if_neg hx]
      refine ⟨by simpa using h1, by simp; omega, fun h => ?_, fun h => ?_, ?_⟩
      · have := h3 h; simp; exact this
      · obtain ⟨a, b⟩ := h4 h; exact ⟨by simp [a], b⟩
      · simp; exact ⟨fun e => hx e.symm, h5⟩
theorem wordsV_len (s : List UInt8) : (wordsV s).length ≤ s.length + 1 := by
  induction s with
  | nil => simp [wordsV]
  | cons c r ih =>
    unfold wordsV
    split
    · simp; omega
    · simp; omega
theorem wordsV_each (s : List UInt8) : ∀ x ∈ wordsV s, x.length ≤ s.length := by
  induction s with
  | nil => simp [wordsV]
  | cons c r ih =>
    unfold wordsV
    split
    · intro x hx
      rcases List.mem_cons.1 hx with rfl | hx
      · simp
      · have := ih x hx; simp; omega
    · intro x hx
      cases h : wordsV r with
      | nil => exact absurd h (wordsV_ne r)
      | cons a l =>
        rw [h] at hx ih
        simp at hx
        rcases hx with rfl | hx
        · have := ih a (by simp); simp; omega
        · have := ih x (by simp [hx]); simp; omega
end Go.Proofs.YtkdmodanfcpcfaaDoor
