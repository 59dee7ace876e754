/- DERIVED. Chapter 44, the reference: find, Legal. -/
import Derived.Test.YtlpefbpamgeikaaHuntI
namespace Go.Proofs.Ytlpefbpamgeikaa
open Go.RowKit

structure Tm where
  handle : Int
  deadline : Int
  live : Bool
def Tm.cs (t : Tm) : List Value := [.int .u64 t.handle, .int .i64 t.deadline, .bool t.live]
def encTm : Enc Tm := ⟨3, Tm.cs, fun _ => rfl, by decide, fun a u h => by simp only [Tm.cs, List.mem_cons, List.not_mem_nil, or_false] at h; rcases h with rfl | rfl | rfl <;> rfl⟩
theorem slTm : SlTy Try.prog 83 91 encTm := SlTy.mk' (.agg #[.int .u64 0, .int .i64 0, .bool false]) 24 Try.underlying83 (by kernel_rfl) rfl (by decide)
theorem lenT {w : World} {v : Value} {xs : List Tm} {b off : Nat} (h : RdAt encTm w v xs b off) (ty : TypeId) (W : World) :
    Sem.run Try.prog (Builtin.len_ #[83] ty #[v]) W = .ok (.int .i64 xs.length) W := h.len _ _ Try.underlying83 W
theorem idxT {w : World} {v : Value} {xs : List Tm} {b off : Nat} (h : RdAt encTm w v xs b off) {k : Nat} (hk : k < xs.length) (W : World) :
    Sem.run Try.prog (Instr.indexAt 83 v (.int .i64 k)) W = .ok (.pointer (some ⟨b, off + k * 3, none⟩)) W := h.idx slTm k hk W
theorem tmAt {w : World} {v : Value} {xs : List Tm} {b off : Nat} (h : RdAt encTm w v xs b off) {k : Nat} {r : Tm} (hx : xs[k]? = some r) :
    w.cell? ⟨b, off + k * 3, none⟩ = some (.int .u64 r.handle) ∧ w.cell? ⟨b, off + k * 3 + 1, none⟩ = some (.int .i64 r.deadline) ∧ w.cell? ⟨b, off + k * 3 + 2, none⟩ = some (.bool r.live) := by
  have c := h.cell k r hx
  exact ⟨c 0 (by decide), c 1 (by decide), c 2 (by decide)⟩

/-- the first one of a handle -/
structure First (l : List Tm) (h : Int) (j : Nat) (t : Tm) : Prop where
  at_ : l[j]? = some t
  hd : t.handle = h
  no : ∀ m t', m < j → l[m]? = some t' → t'.handle ≠ h
theorem first_or (l : List Tm) (h : Int) : (∀ t ∈ l, t.handle ≠ h) ∨ ∃ j t, First l h j t := by
  induction l with
  | nil => exact .inl (by simp)
  | cons a l ih =>
    by_cases ha : a.handle = h
    · exact .inr ⟨0, a, rfl, ha, by omega⟩
    · rcases ih with ih | ⟨j, t, h1, h2, h3⟩
      · exact .inl (by simpa [ha] using ih)
      · refine .inr ⟨j + 1, t, by simpa using h1, h2, fun m t' hm ht => ?_⟩
        rcases m with _ | m
        · simp at ht; subst ht; exact ha
        · exact h3 m t' (by omega) (by simpa using ht)
def RefM (l : List Tm) (lv wr : Timers) : Prop :=
  ∀ h, ((∀ t ∈ l, t.handle ≠ h) → wr h = none ∧ lv h = none) ∧ ∀ j t, First l h j t → wr h = some t.deadline ∧ lv h = if t.live then some t.deadline else none

set_option maxHeartbeats 400000 in
theorem find_no (v : Value) (l : List Tm) (h : Int) (w : World) (hl : Rd encTm w v l) (hn : ∀ t ∈ l, t.handle ≠ h) :
    Calls Try.prog 47 #[v, .int .u64 h] w fun e w' => e = .returned (.int .i64 (-1)) ∧ w = w' := by
  have hlen := hl.len_le
  obtain ⟨b, o, hl⟩ := hl
  have l1 := lenT hl
  have HH := Lib.hid (And.intro hl hn)
  clear hl hn
  go_enter Try.func47, Try.ntmps47
  go_wp2
  go_loop [5] (fun i => ∃ k : Nat, k ≤ l.length ∧ i = .int .i64 k) (fun i => l.length - (intOf i).toNat)
  case atStart => exact ⟨0, by omega, rfl⟩
  case round =>
    obtain ⟨k, hk, rfl⟩ := hrel
    by_cases hlt : k < l.length
    · obtain ⟨t, ht⟩ := at_of l hlt
      have i1 := idxT HH.out.1 hlt
      have c1 := (tmAt HH.out.1 ht).1
      have d1 : (t.handle == h) = false := by simpa using HH.out.2 t (List.mem_of_getElem? ht)
      clear ht
      go_wp2
      go_round
      case rel => exact ⟨k + 1, by omega, by go_num⟩
      case measure => simp [intOf]; omega
    · go_wp2
      go_ret
      exact ⟨rfl, rfl⟩
set_option maxHeartbeats 400000 in
theorem find_yes (v : Value) (l : List Tm) (h : Int) (j : Nat) (t : Tm) (w : World) (hl : Rd encTm w v l) (hn : First l h j t) :
    Calls Try.prog 47 #[v, .int .u64 h] w fun e w' => e = .returned (.int .i64 j) ∧ w = w' := by
  have hlen := hl.len_le
  have hj := (List.getElem?_eq_some_iff.1 hn.at_).1
  obtain ⟨b, o, hl⟩ := hl
  have l1 := lenT hl
  have HH := Lib.hid (And.intro hl hn)
  clear hl hn
  go_enter Try.func47, Try.ntmps47
  go_wp2
  go_loop [5] (fun i => ∃ k : Nat, k ≤ j ∧ i = .int .i64 k) (fun i => l.length - (intOf i).toNat)
  case atStart => exact ⟨0, by omega, rfl⟩
  case round =>
    obtain ⟨k, hk, rfl⟩ := hrel
    have hlt : k < l.length := by omega
    obtain ⟨t', ht⟩ := at_of l hlt
    have i1 := idxT HH.out.1 hlt
    have c1 := (tmAt HH.out.1 ht).1
    by_cases hkj : k = j
    · subst hkj
      have d1 : (t'.handle == h) = true := by
        have := HH.out.2.at_
        rw [this] at ht; injection ht with ht; subst ht
        simpa using HH.out.2.hd
      clear ht
      go_wp2
      go_ret
      exact ⟨rfl, rfl⟩
    · have d1 : (t'.handle == h) = false := by simpa using HH.out.2.no k t' (by omega) ht
      clear ht
      go_wp2
      go_round
      case rel => exact ⟨k + 1, by omega, by go_num⟩
      case measure => simp [intOf]; omega
end Go.Proofs.Ytlpefbpamgeikaa
