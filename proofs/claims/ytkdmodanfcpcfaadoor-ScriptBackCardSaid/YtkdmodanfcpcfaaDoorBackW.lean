/- DERIVED. Chapter 42: an event's line and the event: plain. -/
import Derived.Test.YtkdmodanfcpcfaaDoorBackV
namespace Go.Proofs.YtkdmodanfcpcfaaDoor
open Go.RowKit

def isF (f : UInt8) : Prop := f = 68 ∨ f = 88 ∨ f = 72 ∨ f = 78
theorem setV_other {c c' : CallA} {f g : UInt8} {x : List UInt8} (hf : isF f) (hg : isF g) (hne : g ≠ f) (h : setV c f x = some c') : fieldT c' g = fieldT c g := by
  obtain ⟨_, _, _, h1, h2, h3, h4⟩ := setV_of hf h
  rcases hg with rfl | rfl | rfl | rfl
  · have e := h1 (fun e => hne e.symm)
    simp [fieldT, e]
  · have e := h2 (fun e => hne e.symm)
    simp [fieldT, e]
  · have e := h3 (fun e => hne e.symm)
    simp [fieldT, e]
  · have e := h4 (fun e => hne e.symm)
    simp [fieldT, e]
theorem fillV_of : ∀ (fs : List UInt8) (xs : List (List UInt8)) (c c' : CallA), fs.length = xs.length → (∀ f ∈ fs, isF f) → fs.Nodup → fillV c fs xs = some c' →
    fs.map (fieldT c') = xs ∧ (c.ok → c'.ok) ∧ c'.kind = c.kind ∧ ∀ g, isF g → g ∉ fs → fieldT c' g = fieldT c g
  | [], xs, c, c', hl, _, _, h => by
    simp at hl
    have hx : xs = [] := by cases xs <;> simp_all
    subst hx
    simp [fillV] at h
    subst h
    exact ⟨rfl, id, rfl, fun _ _ _ => rfl⟩
  | f :: fs, [], c, c', hl, _, _, h => by simp at hl
  | f :: fs, x :: xs, c, c', hl, hF, hN, h => by
    simp only [fillV, Option.bind_eq_some_iff] at h
    obtain ⟨c1, h1, h2⟩ := h
    have hf := hF f (by simp)
    have hN2 := List.nodup_cons.1 hN
    obtain ⟨a1, a2, a3, a4⟩ := fillV_of fs xs c1 c' (by simpa using hl) (fun g hg => hF g (by simp [hg])) hN2.2 h2
    obtain ⟨b1, b2, b3, _⟩ := setV_of hf h1
    refine ⟨?_, fun k => a2 (b2 k), a3.trans b3, fun g hg hn => ?_⟩
    · rw [List.map_cons, a1, a4 f hf hN2.1, b1]
    · rw [a4 g hg (fun hm => hn (by simp [hm])), setV_other hf hg (fun e => hn (by simp [e])) h1]
theorem callR_of (ws : List (List UInt8)) (c : CallA) : ∀ j, j ≤ 6 → callR ws j = some c → ∃ k, 1 ≤ k ∧ k ≤ 6 ∧ ws[0]? = some (shapeW k) ∧ ws.length = 1 + (shapeF k).length ∧ fillV ⟨((k : Nat) : Int), 0, 0, 0, 0⟩ (shapeF k) (ws.drop 1) = some c
  | 0, _, h => by simp [callR] at h
  | j + 1, hj, h => by
    unfold callR at h
    split at h
    · rename_i hc
      exact ⟨6 - j, by omega, by omega, hc.1, hc.2, h⟩
    · exact callR_of ws c j (by omega) h
theorem callT_k {c : CallA} {k : Nat} (h1 : 1 ≤ k) (h2 : k ≤ 6) (h : c.kind = (k : Int)) : callT c = joinT c (shapeW k) (shapeF k) := by
  have : k = 1 ∨ k = 2 ∨ k = 3 ∨ k = 4 ∨ k = 5 ∨ k = 6 := by omega
  unfold callT
  rcases this with rfl | rfl | rfl | rfl | rfl | rfl <;> simp [h, shapeW, shapeF]
theorem shapeF_nd (k : Nat) : (shapeF k).Nodup := by
  unfold shapeF
  split <;> decide
theorem callT_of {s : List UInt8} {c : CallA} (h : callV s = some c) : callT c = s ∧ c.ok := by
  obtain ⟨k, h1, h2, h3, h4, h5⟩ := callR_of _ _ 6 (by omega) h
  cases hw : wordsV s with
  | nil => exact absurd hw (wordsV_ne s)
  | cons w ws =>
    rw [hw] at h3 h4 h5
    simp at h3 h4 h5
    subst h3
    have hF : ∀ f ∈ shapeF k, isF f := fun f hf => by
      rcases shapeF_ok k f hf with e | e | e | e
      · exact .inl e
      · exact .inr (.inl e)
      · exact .inr (.inr (.inl e))
      · exact .inr (.inr (.inr e))
    obtain ⟨a1, a2, a3, _⟩ := fillV_of (shapeF k) ws _ c (by omega) hF (shapeF_nd k) h5
    refine ⟨?_, a2 ⟨⟨by simp only; omega, by simp only; omega⟩, ⟨by simp, by simp⟩, by simp, by simp, ⟨by simp, by simp⟩⟩⟩
    rw [callT_k h1 h2 a3, joinT_eq, words_join s _ _ hw, ← a1, List.flatMap_map]

theorem line_of {s : List UInt8} {e : EventA} (h : eventV s = some e) : lineV e = some (s ++ [10]) ∧ e.ok := by
  unfold eventV eventU at h
  simp only [Option.bind_eq_some_iff] at h
  obtain ⟨n, hn, h⟩ := h
  obtain ⟨n1, n2⟩ := numB_some.1 hn
  have c1 := cutV_len 32 s
  have c2 := cutV_len 32 (cutV 32 s).2.1
  have m1 : (cutV 32 s).2.2 = true := by
    cases hm : (cutV 32 s).2.2 with
    | true => rfl
    | false =>
      have := (c1.2.2.2.1 hm).2
      rw [this] at n1
      simp [cutV] at n1
      exact absurd n1 (dec_ne n)
  have s1 := c1.2.2.1 m1
  have ok0 : CallA.ok noCall := ⟨⟨by simp [noCall], by simp [noCall]⟩, ⟨by simp [noCall], by simp [noCall]⟩, by simp [noCall], by simp [noCall], ⟨by simp [noCall], by simp [noCall]⟩⟩
  split at h
  · cases h
  · rename_i hmore
    simp only [ne_eq, Decidable.not_not] at hmore
    split at h
    · rename_i hw
      injection h with h
      subst h
      have m2 : (cutV 32 (cutV 32 s).2.1).2.2 = false := by rw [hmore, hw]; decide
      have s2 := (c2.2.2.2.1 m2).1
      refine ⟨?_, ⟨⟨by simp, by simp⟩, ⟨by simp only; omega, by simp only; omega⟩, ok0, ⟨by simp, by simp⟩⟩⟩
      unfold lineV
      rw [if_neg (by simp), if_pos rfl, if_pos ⟨rfl, rfl, by simp only; omega⟩]
      simp only [Lib.itoa_nonneg]
      rw [← n1, s2, ← hw, ← s1]
    · split at h
      · rename_i hw
        injection h with h
        subst h
        have m2 : (cutV 32 (cutV 32 s).2.1).2.2 = false := by rw [hmore, hw]; decide
        have s2 := (c2.2.2.2.1 m2).1
        refine ⟨?_, ⟨⟨by simp, by simp⟩, ⟨by simp, by simp⟩, ok0, ⟨by simp only; omega, by simp only; omega⟩⟩⟩
        unfold lineV
        rw [if_neg (by simp), if_neg (by simp), if_pos rfl, if_pos ⟨rfl, rfl, by simp only; omega⟩]
        simp only [Lib.itoa_nonneg]
        rw [← n1, s2, ← hw, ← s1]
      · split at h
        · rename_i hw
          obtain ⟨c, hc, rfl⟩ := Option.map_eq_some_iff.1 h
          have m2 : (cutV 32 (cutV 32 s).2.1).2.2 = true := by rw [hmore, hw]; decide
          have s2 := c2.2.2.1 m2
          obtain ⟨t1, t2⟩ := callT_of hc
          refine ⟨?_, ⟨⟨by simp, by simp⟩, ⟨by simp only; omega, by simp only; omega⟩, t2, ⟨by simp, by simp⟩⟩⟩
          have hb : backV c := by unfold backV; rw [t1]; exact hc
          unfold lineV
          rw [if_pos rfl, if_pos ⟨hb, rfl, by simp only; omega⟩]
          simp only [Lib.itoa_nonneg]
          rw [← n1, t1, ← hw]
          have e1 : (cutV 32 s).1 ++ 32 :: (cutV 32 (cutV 32 s).2.1).1 ++ 32 :: (cutV 32 (cutV 32 s).2.1).2.1 = s := by
            rw [List.append_assoc, List.cons_append, ← s2, ← s1]
          rw [e1]
        · cases h

theorem fieldT_no (c : CallA) (f : UInt8) : (10 : UInt8) ∉ fieldT c f := by
  unfold fieldT
  split
  · exact itoa_no _ nD10 (by decide)
  split
  · exact dec_no _ nD10
  split
  · unfold handleT
    have a := dec_no (c := 10) (hiN c.handle) nD10
    have b := dec_no (c := 10) (loN c.handle) nD10
    simp [a, b]
  · exact itoa_no _ nD10 (by decide)
theorem joinT_no (c : CallA) (wd fs : List UInt8) (h : (10 : UInt8) ∉ wd) : (10 : UInt8) ∉ joinT c wd fs := by
  rw [joinT_eq]
  intro hm
  rcases List.mem_append.1 hm with e | e
  · exact h e
  · obtain ⟨f, _, he⟩ := List.mem_flatMap.1 e
    rcases List.mem_cons.1 he with h2 | h2
    · exact absurd h2 (by decide)
    · exact fieldT_no c f h2
theorem callT_no (c : CallA) : (10 : UInt8) ∉ callT c := by
  unfold callT
  split
  · exact joinT_no c _ _ (by decide)
  split
  · exact joinT_no c _ _ (by decide)
  split
  · exact joinT_no c _ _ (by decide)
  split
  · exact joinT_no c _ _ (by decide)
  split
  · exact joinT_no c _ _ (by decide)
  split
  · exact joinT_no c _ _ (by decide)
  · decide

theorem of_line {e : EventA} {t : List UInt8} (he : e.ok) (h : lineV e = some t) : ∃ s, t = s ++ [10] ∧ eventV s = some e ∧ (10 : UInt8) ∉ s ∧ s ≠ [] ∧ s[0]? ≠ some 35 := by
  obtain ⟨k, th, c, tk⟩ := e
  have ht := he.thread
  have hk := he.ticks
  simp only at ht hk
  unfold lineV at h
  simp only at h
  split at h
  · rename_i h1
    subst h1
    split at h
    · rename_i h2
      obtain ⟨hb, rfl, h3⟩ := h2
      injection h with h
      subst h
      obtain ⟨n, rfl⟩ := Int.eq_ofNat_of_zero_le h3
      refine ⟨wCall ++ 32 :: (Lib.itoa n ++ 32 :: callT c), by simp, ?_, ?_, by simp [wCall], by simp [wCall]⟩
      · unfold eventV
        rw [cut_app 32 wCall _ (by decide)]
        simp only
        rw [Lib.itoa_nonneg, cut_app 32 _ _ (dec_no _ nD32)]
        simp only [eventU]
        rw [numB_of (by omega)]
        simp only [Option.bind_some, decide_true, ne_eq, not_true_eq_false, if_false]
        rw [if_neg (by decide), if_neg (by decide), if_true, hb]
        all_goals rfl
      · rw [Lib.itoa_nonneg]
        have a := dec_no (c := 10) n nD10
        have b := callT_no c
        simp [wCall, a, b]
    · cases h
  split at h
  · rename_i h1
    subst h1
    split at h
    · rename_i h2
      obtain ⟨rfl, rfl, h3⟩ := h2
      injection h with h
      subst h
      obtain ⟨n, rfl⟩ := Int.eq_ofNat_of_zero_le h3
      refine ⟨wStep ++ 32 :: Lib.itoa n, by simp, ?_, ?_, by simp [wStep], by simp [wStep]⟩
      · unfold eventV
        rw [cut_app 32 wStep _ (by decide)]
        simp only
        rw [Lib.itoa_nonneg, cut_none 32 _ (dec_no _ nD32)]
        simp only [eventU]
        rw [numB_of (by omega)]
        simp only [Option.bind_some]
        rw [if_neg (by decide), if_true]
        all_goals rfl
      · rw [Lib.itoa_nonneg]
        have a := dec_no (c := 10) n nD10
        simp [wStep, a]
    · cases h
  split at h
  · rename_i h1
    subst h1
    split at h
    · rename_i h2
      obtain ⟨rfl, rfl, h3⟩ := h2
      injection h with h
      subst h
      obtain ⟨n, rfl⟩ := Int.eq_ofNat_of_zero_le h3
      refine ⟨wTick ++ 32 :: Lib.itoa n, by simp, ?_, ?_, by simp [wTick], by simp [wTick]⟩
      · unfold eventV
        rw [cut_app 32 wTick _ (by decide)]
        simp only
        rw [Lib.itoa_nonneg, cut_none 32 _ (dec_no _ nD32)]
        simp only [eventU]
        rw [numB_of (by omega)]
        simp only [Option.bind_some]
        rw [if_neg (by decide), if_neg (by decide), if_true]
        all_goals rfl
      · rw [Lib.itoa_nonneg]
        have a := dec_no (c := 10) n nD10
        simp [wTick, a]
    · cases h
  · cases h
end Go.Proofs.YtkdmodanfcpcfaaDoor
