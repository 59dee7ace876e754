/- DERIVED. Chapter 46: the search, in plain words: what is live hangs on which acts were done alone; the memo is right. No program in sight. -/
import Derived.Test.YtlpefbpamgeikaaHuntQ
namespace Go.Proofs.Ytlpefbpamgeikaa

abbrev Acts := Rec → List ActR
/-- may the next act of record k (it is r) be done? -/
def mayP (x : List Rec) (c : List Nat) (k : Nat) (r : Rec) : Prop :=
  c.getD k 0 < r.acts.n ∧ ∀ i q, x[i]? = some q → ¬ (i ≠ k ∧ q.done = true ∧ q.fin < r.beg ∧ c.getD i 0 < q.acts.n)
/-- one step of the search -/
structure StepOk (x : List Rec) (A : Acts) (ts : List Int) (c : List Nat) (lv wr : Timers) (k : Nat) (r : Rec) (a : ActR) : Prop where
  rcd : x[k]? = some r
  may : mayP x c k r
  act : (A r)[c.getD k 0]? = some a
  legal : legalB lv wr a.kind a.handle a.deadline (timeV r ts) = true
def bump (c : List Nat) (k : Nat) : List Nat := c.set k (c.getD k 0 + 1)
open Classical in
noncomputable def srch (x : List Rec) (A : Acts) (ts : List Int) : Nat → List Nat → Timers → Timers → Bool
  | 0, _, _, _ => true
  | n + 1, c, lv, wr => decide (∃ k r a, StepOk x A ts c lv wr k r a ∧ srch x A ts n (bump c k) (doM lv wr a.kind a.handle a.deadline).1 (doM lv wr a.kind a.handle a.deadline).2 = true)
theorem srch_yes {x : List Rec} {A : Acts} {ts : List Int} {n : Nat} {c : List Nat} {lv wr : Timers} {k : Nat} {r : Rec} {a : ActR} (h : StepOk x A ts c lv wr k r a)
    (hs : srch x A ts n (bump c k) (doM lv wr a.kind a.handle a.deadline).1 (doM lv wr a.kind a.handle a.deadline).2 = true) : srch x A ts (n + 1) c lv wr = true := by
  simp only [srch, decide_eq_true_eq]; exact ⟨k, r, a, h, hs⟩
theorem srch_no {x : List Rec} {A : Acts} {ts : List Int} {n : Nat} {c : List Nat} {lv wr : Timers}
    (h : ∀ k r a, StepOk x A ts c lv wr k r a → srch x A ts n (bump c k) (doM lv wr a.kind a.handle a.deadline).1 (doM lv wr a.kind a.handle a.deadline).2 = false) : srch x A ts (n + 1) c lv wr = false := by
  simp only [srch, decide_eq_false_iff_not]
  rintro ⟨k, r, a, h1, h2⟩
  rw [h k r a h1] at h2; cases h2

/-- which acts are done -/
def Dn (x : List Rec) (A : Acts) (c : List Nat) (a : ActR) : Prop := ∃ k r i, x[k]? = some r ∧ i < c.getD k 0 ∧ (A r)[i]? = some a
structure Inv (x : List Rec) (A : Acts) (c : List Nat) (lv wr : Timers) : Prop where
  were : ∀ h d, wr h = some d ↔ ∃ a, Dn x A c a ∧ a.kind = 1 ∧ a.handle = h ∧ a.deadline = d
  gone : ∀ a, Dn x A c a → (a.kind = 2 ∨ a.kind = 3) → lv a.handle = none
  live : ∀ h, (∀ a, Dn x A c a → (a.kind = 2 ∨ a.kind = 3) → a.handle ≠ h) → lv h = wr h
  some : ∀ a, Dn x A c a → (a.kind = 2 ∨ a.kind = 3) → (wr a.handle).isSome = true
theorem Inv.one {x : List Rec} {A : Acts} {c : List Nat} {lv wr lv' wr' : Timers} (h : Inv x A c lv wr) (h' : Inv x A c lv' wr') : lv = lv' ∧ wr = wr' := by
  have hw : wr = wr' := by
    funext k
    apply Option.ext
    intro d
    rw [h.were, h'.were]
  refine ⟨?_, hw⟩
  funext k
  by_cases hg : ∃ a, Dn x A c a ∧ (a.kind = 2 ∨ a.kind = 3) ∧ a.handle = k
  · obtain ⟨a, h1, h2, rfl⟩ := hg
    rw [h.gone a h1 h2, h'.gone a h1 h2]
  · have hn : ∀ a, Dn x A c a → (a.kind = 2 ∨ a.kind = 3) → a.handle ≠ k := fun a h1 h2 h3 => hg ⟨a, h1, h2, h3⟩
    rw [h.live k hn, h'.live k hn, hw]
theorem Inv.start (x : List Rec) (A : Acts) (n : Nat) : Inv x A (List.replicate n 0) (fun _ => none) (fun _ => none) := by
  have hd : ∀ a, ¬ Dn x A (List.replicate n 0) a := by
    rintro a ⟨k, r, i, _, h, _⟩
    have : (List.replicate n 0).getD k 0 = 0 := by simp [List.getD_eq_getElem?_getD, List.getElem?_replicate]; split <;> rfl
    omega
  refine ⟨fun h d => ⟨by simp, ?_⟩, fun a h => absurd h (hd a), fun h _ => rfl, fun a h => absurd h (hd a)⟩
  rintro ⟨a, h1, _⟩
  exact absurd h1 (hd a)
theorem bump_at {c : List Nat} {k : Nat} (hk : k < c.length) (i : Nat) : (bump c k).getD i 0 = if i = k then c.getD k 0 + 1 else c.getD i 0 := by
  unfold bump
  simp only [List.getD_eq_getElem?_getD, List.getElem?_set]
  by_cases h : i = k
  · subst h; simp [hk]
  · simp [h, Ne.symm h]
theorem Dn_bump {x : List Rec} {A : Acts} {c : List Nat} {k : Nat} {r : Rec} {a : ActR} (hk : k < c.length) (hr : x[k]? = some r) (ha : (A r)[c.getD k 0]? = some a) (b : ActR) : Dn x A (bump c k) b ↔ Dn x A c b ∨ b = a := by
  constructor
  · rintro ⟨j, q, i, h1, h2, h3⟩
    rw [bump_at hk] at h2
    by_cases hj : j = k
    · subst hj
      rw [if_pos rfl] at h2
      by_cases hi : i < c.getD j 0
      · exact .inl ⟨j, q, i, h1, hi, h3⟩
      · have : i = c.getD j 0 := by omega
        subst this
        rw [hr] at h1; injection h1 with h1; subst h1
        rw [ha] at h3; injection h3 with h3
        exact .inr h3.symm
    · rw [if_neg hj] at h2
      exact .inl ⟨j, q, i, h1, h2, h3⟩
  · rintro (⟨j, q, i, h1, h2, h3⟩ | rfl)
    · refine ⟨j, q, i, h1, ?_, h3⟩
      rw [bump_at hk]
      split
      · subst_vars; omega
      · exact h2
    · exact ⟨k, r, c.getD k 0, hr, by rw [bump_at hk, if_pos rfl]; omega, ha⟩
theorem Inv.step {x : List Rec} {A : Acts} {ts : List Int} {c : List Nat} {lv wr : Timers} {k : Nat} {r : Rec} {a : ActR} (h : Inv x A c lv wr) (hk : k < c.length) (s : StepOk x A ts c lv wr k r a) :
    Inv x A (bump c k) (doM lv wr a.kind a.handle a.deadline).1 (doM lv wr a.kind a.handle a.deadline).2 := by
  have hb := Dn_bump hk s.rcd s.act
  have hl := s.legal
  unfold legalB at hl
  by_cases k1 : a.kind = 1
  · have e : doM lv wr a.kind a.handle a.deadline = (upd lv a.handle (Option.some a.deadline), upd wr a.handle (Option.some a.deadline)) := by unfold doM; rw [if_pos k1]
    rw [if_pos k1] at hl
    rw [Option.isNone_iff_eq_none] at hl
    have hno : ∀ b, Dn x A c b → (b.kind = 2 ∨ b.kind = 3) → b.handle ≠ a.handle := by
      intro b h1 h2 h3
      have := h.some b h1 h2
      rw [h3, hl] at this; cases this
    rw [e]
    refine ⟨fun g d => ?_, fun b hb1 hb2 => ?_, fun g hg => ?_, fun b hb1 hb2 => ?_⟩
    · simp only [upd]
      by_cases hg : g = a.handle
      · subst hg
        rw [if_pos rfl]
        constructor
        · intro h1; injection h1 with h1; exact ⟨a, (hb a).2 (.inr rfl), k1, rfl, h1⟩
        · rintro ⟨b, h1, h2, h3, h4⟩
          rcases (hb b).1 h1 with h1 | rfl
          · have := (h.were b.handle b.deadline).2 ⟨b, h1, h2, rfl, rfl⟩
            rw [h3, hl] at this; cases this
          · rw [h4]
      · rw [if_neg hg, h.were]
        constructor
        · rintro ⟨b, h1, h2⟩; exact ⟨b, (hb b).2 (.inl h1), h2⟩
        · rintro ⟨b, h1, h2, h3, h4⟩
          rcases (hb b).1 h1 with h1 | rfl
          · exact ⟨b, h1, h2, h3, h4⟩
          · exact absurd h3.symm hg
    · rcases (hb b).1 hb1 with hb1 | rfl
      · simp only [upd]; rw [if_neg (hno b hb1 hb2)]; exact h.gone b hb1 hb2
      · omega
    · simp only [upd]
      by_cases hg' : g = a.handle
      · rw [if_pos hg', if_pos hg']
      · rw [if_neg hg', if_neg hg']; exact h.live g (fun b h1 h2 => hg b ((hb b).2 (.inl h1)) h2)
    · rcases (hb b).1 hb1 with hb1 | rfl
      · simp only [upd]; rw [if_neg (hno b hb1 hb2)]; exact h.some b hb1 hb2
      · omega
  · by_cases k23 : a.kind = 2 ∨ a.kind = 3
    · have e : doM lv wr a.kind a.handle a.deadline = (upd lv a.handle none, wr) := by unfold doM; rw [if_neg k1, if_pos k23]
      have hlive : (lv a.handle).isSome = true := by
        rcases k23 with k2 | k3
        · rw [if_neg k1, if_pos k2] at hl; simp at hl; exact hl.1
        · rw [if_neg k1, if_neg (by omega), if_pos k3] at hl; exact hl
      have hsome : (wr a.handle).isSome = true := by
        by_cases hg : ∃ b, Dn x A c b ∧ (b.kind = 2 ∨ b.kind = 3) ∧ b.handle = a.handle
        · obtain ⟨b, h1, h2, h3⟩ := hg
          have := h.gone b h1 h2
          rw [h3] at this; rw [this] at hlive; cases hlive
        · rw [← h.live a.handle (fun b h1 h2 h3 => hg ⟨b, h1, h2, h3⟩)]; exact hlive
      rw [e]
      refine ⟨fun g d => ?_, fun b hb1 hb2 => ?_, fun g hg => ?_, fun b hb1 hb2 => ?_⟩
      · rw [h.were]
        constructor
        · rintro ⟨b, h1, h2⟩; exact ⟨b, (hb b).2 (.inl h1), h2⟩
        · rintro ⟨b, h1, h2, h3⟩
          rcases (hb b).1 h1 with h1 | rfl
          · exact ⟨b, h1, h2, h3⟩
          · exact absurd h2 k1
      · simp only [upd]
        split
        · rfl
        · rename_i hne
          rcases (hb b).1 hb1 with hb1 | rfl
          · exact h.gone b hb1 hb2
          · exact absurd rfl hne
      · have : g ≠ a.handle := fun e1 => hg a ((hb a).2 (.inr rfl)) k23 e1.symm
        simp only [upd]; rw [if_neg this]
        exact h.live g (fun b h1 h2 => hg b ((hb b).2 (.inl h1)) h2)
      · rcases (hb b).1 hb1 with hb1 | rfl
        · exact h.some b hb1 hb2
        · exact hsome
    · have e : doM lv wr a.kind a.handle a.deadline = (lv, wr) := by unfold doM; rw [if_neg k1, if_neg k23]
      have hb' : ∀ b, (b.kind = 1 ∨ b.kind = 2 ∨ b.kind = 3) → (Dn x A (bump c k) b ↔ Dn x A c b) := by
        intro b hk'
        rw [hb]
        constructor
        · rintro (h1 | rfl)
          · exact h1
          · omega
        · exact .inl
      rw [e]
      refine ⟨fun g d => ?_, fun b hb1 hb2 => ?_, fun g hg => ?_, fun b hb1 hb2 => ?_⟩
      · rw [h.were]
        constructor
        · rintro ⟨b, h1, h2, h3⟩; exact ⟨b, (hb' b (.inl h2)).2 h1, h2, h3⟩
        · rintro ⟨b, h1, h2, h3⟩; exact ⟨b, (hb' b (.inl h2)).1 h1, h2, h3⟩
      · exact h.gone b ((hb' b (.inr hb2)).1 hb1) hb2
      · exact h.live g (fun b h1 h2 => hg b ((hb' b (.inr h2)).2 h1) h2)
      · exact h.some b ((hb' b (.inr hb2)).1 hb1) hb2

theorem bump_sum {c : List Nat} {k : Nat} (hk : k < c.length) : (bump c k).sum = c.sum + 1 := by
  unfold bump
  induction c generalizing k with
  | nil => simp at hk
  | cons a c ih =>
    cases k with
    | zero => simp; omega
    | succ k =>
      have := ih (k := k) (by simpa using hk)
      simp only [List.set_cons_succ, List.sum_cons, List.getD_cons_succ]
      omega
theorem bump_len (c : List Nat) (k : Nat) : (bump c k).length = c.length := by simp [bump]

/-- is there an order from here on? (N: how many acts there are) -/
def S (x : List Rec) (A : Acts) (ts : List Int) (N : Nat) (c : List Nat) : Prop := ∃ lv wr, Inv x A c lv wr ∧ srch x A ts (N - c.sum) c lv wr = true
theorem S_iff {x : List Rec} {A : Acts} {ts : List Int} {N : Nat} {c : List Nat} {lv wr : Timers} (h : Inv x A c lv wr) {n : Nat} (hn : c.sum + n = N) : S x A ts N c ↔ srch x A ts n c lv wr = true := by
  have e : N - c.sum = n := by omega
  constructor
  · rintro ⟨lv', wr', h1, h2⟩
    obtain ⟨rfl, rfl⟩ := h.one h1
    rw [e] at h2; exact h2
  · intro h2; exact ⟨lv, wr, h, by rw [e]; exact h2⟩

/-- the memo -/
abbrev Memo := List Nat → Option Int
structure MemoOk (x : List Rec) (A : Acts) (ts : List Int) (N : Nat) (f : Memo) (s : Nat) (V : Int) : Prop where
  at_ : ∀ c n, f c = some n → 1 ≤ n ∧ n ≤ V ∧ (¬ S x A ts N c ∨ c.sum < s)
def Fn : Nat → Int
  | 0 => 1
  | n + 1 => 1 + 8 * Fn n
theorem Fn_pos : ∀ n, 1 ≤ Fn n
  | 0 => by simp [Fn]
  | n + 1 => by have := Fn_pos n; simp only [Fn]; omega
theorem Fn_8 : ∀ n, n ≤ 8 → Fn n ≤ 19173961
  | 0, _ => by decide
  | 1, _ => by decide
  | 2, _ => by decide
  | 3, _ => by decide
  | 4, _ => by decide
  | 5, _ => by decide
  | 6, _ => by decide
  | 7, _ => by decide
  | 8, _ => by decide
  | n + 9, h => by omega
/-- what is in the memo behind a call that found none -/
def Grew (x : List Rec) (A : Acts) (ts : List Int) (N : Nat) (f g : Memo) (V : Int) : Prop := ∀ c n, g c = some n → 1 ≤ n ∧ n ≤ V ∧ (f c ≠ none ∨ ¬ S x A ts N c)
end Go.Proofs.Ytlpefbpamgeikaa
