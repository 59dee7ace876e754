/- DERIVED. Plain: a number by its digits, and nothing else: 'numV s = some n' just if s is the decimal numeral of n. No program in sight. -/
import Derived.Test.YtkdmodanfcpcfaaDoorTxt
import Derived.Lib.ParseIntB
namespace Go.Proofs.YtkdmodanfcpcfaaDoor
open Go.RowKit

def dV (c : UInt8) : Nat := c.toNat - 48
def isD (c : UInt8) : Prop := 48 ≤ c.toNat ∧ c.toNat ≤ 57
instance (c : UInt8) : Decidable (isD c) := inferInstanceAs (Decidable (_ ∧ _))
def valF (n : Nat) (s : List UInt8) : Nat := s.foldl (fun n c => 10 * n + dV c) n
def valV (s : List UInt8) : Nat := valF 0 s
def numV (s : List UInt8) : Option Nat := if s = Lib.decDigits (valV s) then some (valV s) else none
/-- below B -/
def numB (B : Nat) (s : List UInt8) : Option Nat := if s = Lib.decDigits (valV s) ∧ valV s < B then some (valV s) else none

theorem valF_nil (n : Nat) : valF n [] = n := by unfold valF; rw [List.foldl_nil]
theorem valF_cons (n : Nat) (c : UInt8) (s : List UInt8) : valF n (c :: s) = valF (10 * n + dV c) s := by unfold valF; rw [List.foldl_cons]
theorem valF_snoc (n : Nat) (s : List UInt8) (c : UInt8) : valF n (s ++ [c]) = 10 * valF n s + dV c := by simp [valF]
theorem valF_app (n : Nat) (s t : List UInt8) : valF n (s ++ t) = valF (valF n s) t := by simp [valF]
theorem valF_ge : ∀ (s : List UInt8) (n : Nat), n ≤ valF n s
  | [], n => by rw [valF_nil]; exact Nat.le_refl _
  | c :: s, n => by rw [valF_cons]; have := valF_ge s (10 * n + dV c); omega
theorem dV_ofNat {k : Nat} (h : k < 10) : dV (UInt8.ofNat (48 + k)) = k := by
  unfold dV; rw [UInt8.toNat_ofNat']; omega
theorem isD_ofNat {k : Nat} (h : k < 10) : isD (UInt8.ofNat (48 + k)) := by
  unfold isD; rw [UInt8.toNat_ofNat']; omega
theorem ofNat_dV {c : UInt8} (h : isD c) : UInt8.ofNat (48 + dV c) = c := by
  unfold isD at h
  apply UInt8.toNat_inj.1
  unfold dV
  rw [UInt8.toNat_ofNat']
  have := c.toNat_lt
  omega
theorem dV_lt {c : UInt8} (h : isD c) : dV c < 10 := by unfold isD at h; unfold dV; omega

theorem dec_big {n : Nat} (h : ¬ n < 10) : Lib.decDigits n = Lib.decDigits (n / 10) ++ [UInt8.ofNat (48 + n % 10)] := by
  rw [Lib.decDigits, dif_neg h]
theorem dec_ne (n : Nat) : Lib.decDigits n ≠ [] := by
  intro e
  by_cases h : n < 10
  · rw [Lib.decDigits_one h] at e; simp at e
  · rw [dec_big h] at e; simp at e
theorem val_dec (n : Nat) : valV (Lib.decDigits n) = n := by
  induction n using Nat.strongRecOn with
  | ind n ih =>
    by_cases h : n < 10
    · rw [Lib.decDigits_one h, valV, valF_cons, valF_nil, dV_ofNat h]; omega
    · rw [dec_big h, valV, valF_snoc, dV_ofNat (by omega)]
      have := ih (n / 10) (by omega)
      rw [valV] at this
      rw [this]; omega
theorem dec_dig (n : Nat) : ∀ c ∈ Lib.decDigits n, isD c := by
  induction n using Nat.strongRecOn with
  | ind n ih =>
    by_cases h : n < 10
    · rw [Lib.decDigits_one h]; intro c hc; rw [List.mem_singleton] at hc; subst hc; exact isD_ofNat h
    · rw [dec_big h]; intro c hc
      rcases List.mem_append.1 hc with h1 | h1
      · exact ih (n / 10) (by omega) c h1
      · rw [List.mem_singleton] at h1; subst h1; exact isD_ofNat (by omega)
/-- a numeral that begins with 0 is 0 -/
theorem dec_head (n : Nat) (r : List UInt8) (h : Lib.decDigits n = 48 :: r) : r = [] := by
  induction n using Nat.strongRecOn generalizing r with
  | ind n ih =>
    by_cases h10 : n < 10
    · rw [Lib.decDigits_one h10] at h; exact (List.cons.inj h).2.symm
    · exfalso
      rw [dec_big h10] at h
      cases hd : Lib.decDigits (n / 10) with
      | nil => exact dec_ne _ hd
      | cons c s =>
        rw [hd] at h
        rw [List.cons_append] at h
        obtain ⟨rfl, h2⟩ := List.cons.inj h
        have := ih (n / 10) (by omega) s hd
        subst this
        have hv := val_dec (n / 10)
        rw [hd] at hv
        have h0 : valV [48] = 0 := by rw [valV, valF_cons, valF_nil]; rfl
        omega
/-- digits, at least one, and no 0 ahead: the numeral of its value -/
theorem dec_of_canon : ∀ (s : List UInt8), s ≠ [] → (∀ c ∈ s, isD c) → (∀ r, s = 48 :: r → r = []) → s = Lib.decDigits (valV s) := by
  intro s
  induction hn : s.length using Nat.strongRecOn generalizing s with
  | ind n ih =>
    intro hne hd h0
    obtain ⟨t, c, rfl⟩ : ∃ t c, s = t ++ [c] := ⟨s.dropLast, s.getLast hne, (List.dropLast_concat_getLast hne).symm⟩
    have hc : isD c := hd c (by simp)
    by_cases ht : t = []
    · subst ht
      rw [List.nil_append, valV, valF_cons, valF_nil, show 10 * 0 + dV c = dV c by omega, Lib.decDigits_one (dV_lt hc), ofNat_dV hc]
    · have hnz : ∀ r, t ≠ 48 :: r := by
        rintro r rfl
        have := h0 (r ++ [c]) (by simp)
        simp at this
      have e := ih t.length (by rw [← hn]; simp) t rfl ht (fun x hx => hd x (by simp [hx])) (fun r hr => absurd hr (hnz r))
      have hv : 1 ≤ valV t := by
        apply Nat.one_le_iff_ne_zero.2
        intro hz
        rw [hz, Lib.decDigits_one (by omega)] at e
        exact hnz [] e
      have hl := dV_lt hc
      have hq : (10 * valV t + dV c) / 10 = valV t := by omega
      have hr : (10 * valV t + dV c) % 10 = dV c := by omega
      have hval : valV (t ++ [c]) = 10 * valV t + dV c := valF_snoc 0 t c
      rw [hval, dec_big (by omega), hq, hr, ofNat_dV hc, ← e]
theorem dec_digs {s : List UInt8} {n : Nat} (h : s = Lib.decDigits n) : ∀ c ∈ s, isD c := by subst h; exact dec_dig n

theorem numB_some {B : Nat} {s : List UInt8} {n : Nat} : numB B s = some n ↔ s = Lib.decDigits n ∧ n < B := by
  unfold numB
  constructor
  · intro h
    split at h
    · injection h with h; subst h; assumption
    · cases h
  · rintro ⟨h, hb⟩
    have hv : valV s = n := by rw [h, val_dec]
    rw [hv, if_pos ⟨h, hb⟩]
theorem numB_none_of {B : Nat} {s : List UInt8} (h : ∀ n, s = Lib.decDigits n → B ≤ n) : numB B s = none := by
  cases hn : numB B s with
  | none => rfl
  | some n => obtain ⟨h1, h2⟩ := numB_some.1 hn; have := h n h1; omega
theorem numB_lt {B : Nat} {s : List UInt8} {n : Nat} (h : numB B s = some n) : n < B := (numB_some.1 h).2
/-- not a digit: no number -/
theorem numB_nodig {B : Nat} {s : List UInt8} {c : UInt8} (hc : c ∈ s) (h : ¬ isD c) : numB B s = none :=
  numB_none_of fun _ e => absurd (dec_digs e c hc) h
theorem numB_nil {B : Nat} : numB B [] = none := numB_none_of fun n e => absurd e.symm (dec_ne n)
theorem numB_zero {B : Nat} {r : List UInt8} (h : r ≠ []) : numB B (48 :: r) = none :=
  numB_none_of fun n e => absurd (dec_head n r e.symm) h
/-- a part of it is B already -/
theorem numB_pre {B : Nat} {s t : List UInt8} (h : B ≤ valV s) : numB B (s ++ t) = none :=
  numB_none_of fun n e => by
    have h1 : valV (s ++ t) = n := by rw [e, val_dec]
    have h2 : valV (s ++ t) = valF (valV s) t := valF_app 0 s t
    have h3 := valF_ge t (valV s)
    omega
theorem numB_canon {B : Nat} {s : List UInt8} (hne : s ≠ []) (hd : ∀ c ∈ s, isD c) (h0 : ∀ r, s = 48 :: r → r = []) (hb : valV s < B) : numB B s = some (valV s) :=
  numB_some.2 ⟨dec_of_canon s hne hd h0, hb⟩
theorem dec_len {n : Nat} (h : n < 18446744073709551616) : (Lib.decDigits n).length ≤ 20 := by have := dig_len n h; rwa [Str.size] at this
theorem dec_len32 {n : Nat} (h : n < 4294967296) : (Lib.decDigits n).length ≤ 10 := by
  have key : ∀ (k n : Nat), n < 10 ^ (k + 1) → (Lib.decDigits n).length ≤ k + 1 := by
    intro k
    induction k with
    | zero => intro n h; rw [Lib.decDigits_one (by omega)]; simp
    | succ k ih =>
      intro n h
      by_cases h10 : n < 10
      · rw [Lib.decDigits_one h10]; simp
      · rw [dec_big h10]
        have := ih (n / 10) (by rw [Nat.pow_succ] at h; omega)
        simp; omega
  exact key 9 n (by omega)
theorem numB_long {B : Nat} {s : List UInt8} (hB : B ≤ 18446744073709551616) (h : 20 < s.length) : numB B s = none :=
  numB_none_of fun n e => by
    by_cases hn : n < 18446744073709551616
    · have := dec_len hn; rw [← e] at this; omega
    · omega
theorem numB_long32 {s : List UInt8} (h : 10 < s.length) : numB 4294967296 s = none :=
  numB_none_of fun n e => by
    by_cases hn : n < 4294967296
    · have := dec_len32 hn; rw [← e] at this; omega
    · omega

/-! ### strconv.ParseUint's answer -/
theorem pM_ok (M : Nat) (hM : M < 18446744073709551616) : ∀ (s : List UInt8) (acc : Nat), (∀ c ∈ s, isD c) → valF acc s ≤ M → Lib.parseUintM M acc s = .ok (valF acc s)
  | [], acc, _, _ => by rw [valF_nil]; rfl
  | c :: s, acc, hd, hv => by
    have hc : isD c := hd c (by simp)
    have hg := valF_ge s (10 * acc + dV c)
    rw [valF_cons] at hv
    have hl := dV_lt hc
    have hdv : dV c = c.toNat - 48 := rfl
    rw [Lib.parseUintM, if_pos (show 48 ≤ c.toNat ∧ c.toNat ≤ 57 from hc), if_neg (by omega), if_neg (by omega), valF_cons, show acc * 10 + (c.toNat - 48) = 10 * acc + dV c by omega]
    exact pM_ok M hM s _ (fun x hx => hd x (by simp [hx])) hv
theorem pM_val (M : Nat) : ∀ (s : List UInt8) (acc u : Nat), acc ≤ M → Lib.parseUintM M acc s = .ok u → u = valF acc s ∧ u ≤ M
  | [], acc, u, ha, h => by simp [Lib.parseUintM] at h; subst h; exact ⟨(valF_nil _).symm, ha⟩
  | c :: s, acc, u, ha, h => by
    rw [Lib.parseUintM] at h
    split at h
    · split at h
      · cases h
      · split at h
        · cases h
        · have := pM_val M s _ u (by omega) h
          rwa [show acc * 10 + (c.toNat - 48) = 10 * acc + dV c by unfold dV; omega] at this
    · cases h
theorem pB_ok {B : Nat} (hB : B ≤ 64) (h1 : 1 ≤ 2 ^ B) {s : List UInt8} {n : Nat} (h : numB (2 ^ B) s = some n) : Lib.parseUintB B s = .ok n := by
  obtain ⟨e, hn⟩ := numB_some.1 h
  have hv : valV s = n := by rw [e, val_dec]
  have hp : 2 ^ B ≤ 2 ^ 64 := Nat.pow_le_pow_right (by omega) hB
  rw [Lib.parseUintB, if_neg (by rw [e]; exact dec_ne n)]
  rw [pM_ok _ (by omega) s 0 (dec_digs e) (by rw [show valF 0 s = n from hv]; omega)]
  rw [show valF 0 s = n from hv]
/-- what the code asks of it: no error, and the numeral is the text -/
theorem pB_num {B : Nat} (h1 : 1 ≤ 2 ^ B) {s : List UInt8} {u : Nat} (h : Lib.parseUintB B s = .ok u) : u = valV s ∧ u < 2 ^ B := by
  rw [Lib.parseUintB] at h
  split at h
  · cases h
  · obtain ⟨h2, h3⟩ := pM_val _ _ _ _ (by omega) h
    exact ⟨h2, by omega⟩
end Go.Proofs.YtkdmodanfcpcfaaDoor
