/- DERIVED. From the row's reading of an argument to my own words: 'Opens P W t E ok': whatever reads at type t in the world W lies as E says, and is ok. -/
import Derived.Test.YtkdmodanfcpcfaaDoorLib
import Derived.ProofKit
import Derived.OpenShut
import Derived.ShutString
import Derived.ChangeOld
import Derived.Deep.Slices
namespace Go.Proofs.YtkdmodanfcpcfaaDoor
open Go.RowKit Go.ChangeShapes Go.WideShapes

def Opens (P : Program) (W : World) (t : TypeId) {α : Type} (E : Enc α) (ok : α → Prop) : Prop :=
  ∀ {H : Type} (enc : TypeId × Value → H) (fuel : Nat) (cs : List Value) (x : DataW H × List MemPlace), DataW.trod enc P W 0 (fun _ => true) true fuel t cs = some x → ∃ a, cs = E.enc a ∧ ok a
def okInt (k : IntKind) (n : Int) : Prop := (Lit.int k n).wf = true
theorem opens_i64 {P : Program} {W : World} {t : TypeId} (ht : P.underlying t = some (.int .i64)) : Opens P W t encI (okInt .i64) := by
  intro H enc fuel cs x h
  obtain ⟨n, rfl, _, hn⟩ := DataW.trod_int ht h
  exact ⟨n, rfl, hn⟩
theorem opens_u64 {P : Program} {W : World} {t : TypeId} (ht : P.underlying t = some (.int .u64)) : Opens P W t encW (okInt .u64) := by
  intro H enc fuel cs x h
  obtain ⟨n, rfl, _, hn⟩ := DataW.trod_int ht h
  exact ⟨n, rfl, hn⟩

theorem mapM_range_at {α : Type} (f : Nat → Option α) : ∀ (n : Nat) (l : List α), (List.range n).mapM f = some l → l.length = n ∧ ∀ j, j < n → f j = l[j]? := by
  intro n l h
  have key : ∀ (r : List Nat) (l : List α), r.mapM f = some l → l.length = r.length ∧ ∀ (j i : Nat), r[j]? = some i → f i = l[j]? := by
    intro r
    induction r with
    | nil => intro l h; simp at h; subst h; simp
    | cons a r ih =>
      intro l h
      rw [List.mapM_cons] at h
      cases ha : f a with
      | none => simp [ha] at h
      | some y =>
        cases hr : r.mapM f with
        | none => simp [ha, hr] at h
        | some l' =>
          simp [ha, hr] at h
          subst h
          obtain ⟨h1, h2⟩ := ih l' hr
          refine ⟨by simp [h1], fun j i hj => ?_⟩
          cases j with
          | zero => simp at hj; subst hj; simpa using ha
          | succ j => simp at hj; simpa using h2 j i hj
  obtain ⟨h1, h2⟩ := key _ l h
  refine ⟨by simpa using h1, fun j hj => h2 j j (by simp [hj])⟩

theorem cells_at {w : World} {a : Addr} {n : Nat} {cs : List Value} (h : w.cells? 0 a n = some cs) : cs.length = n ∧ ∀ j, j < n → w.cell? (a.add j) = cs[j]? := by
  unfold World.cells? at h
  rw [if_pos (Nat.zero_le _)] at h
  exact mapM_range_at _ n cs h

theorem addr_of_cell {w : World} {a : Addr} {v : Value} (h : w.cell? a = some v) : a = ⟨a.block, a.off, none⟩ ∧ a.block < w.heap.size := by
  refine ⟨?_, block_lt_of_cell h⟩
  obtain ⟨b, o, s⟩ := a
  cases s with
  | none => rfl
  | some s =>
    exfalso
    unfold World.cell? at h
    split at h <;> simp at h

theorem Opens.slice {P : Program} {W : World} {t e : TypeId} {α : Type} {E : Enc α} {ok : α → Prop} (ho : Opens P W e E ok) (ht : P.underlying t = some (.slice e)) (hc : P.cellsOf e = E.sz) {H : Type} {enc : TypeId × Value → H} {fuel : Nat} {cs : List Value} {x : DataW H × List MemPlace} (h : DataW.trod enc P W 0 (fun _ => true) true fuel t cs = some x) :
    ∃ v xs, cs = [v] ∧ Rd E W v xs ∧ ∀ y ∈ xs, ok y := by
  rcases Deep.open_slice ht h with ⟨rfl, _⟩ | ⟨a, len, cap, m, n, D, Pl, rfl, _, hl, hm, hmm, hx0, hel⟩
  · exact ⟨_, [], rfl, ⟨0, 0, ⟨none, 0, rfl, by simp, by simp, by simp⟩, by simp, by simp⟩, by simp⟩
  · simp at hmm
    subst hmm
    have hg : ∀ i, i < len → ∃ y, ok y ∧ ∀ j, j < E.sz → W.cell? ((a.add (i * E.sz)).add j) = (E.enc y)[j]? := by
      intro i hi
      obtain ⟨cs', h1, h2⟩ := hel i (by omega)
      obtain ⟨y, rfl, hy⟩ := ho enc n cs' _ h2
      rw [hc] at h1
      exact ⟨y, hy, (cells_at h1).2⟩
    have hch : ∃ xs : List α, xs.length = len ∧ ∀ i y, xs[i]? = some y → ok y ∧ ∀ j, j < E.sz → W.cell? ((a.add (i * E.sz)).add j) = (E.enc y)[j]? := by
      clear hel hl hm h hx0
      induction len with
      | zero => exact ⟨[], rfl, by simp⟩
      | succ k ih =>
        obtain ⟨xs, h1, h2⟩ := ih (fun i hi => hg i (by omega))
        obtain ⟨y, hy⟩ := hg k (by omega)
        refine ⟨xs ++ [y], by simp [h1], fun i z hz => ?_⟩
        by_cases hi : i < k
        · exact h2 i z (by rwa [List.getElem?_append_left (by omega)] at hz)
        · have hlt := (List.getElem?_eq_some_iff.1 hz).1
          simp [h1] at hlt
          obtain rfl : i = k := by omega
          rw [List.getElem?_append_right (by omega), h1, Nat.sub_self] at hz
          simp at hz
          subst hz
          exact hy
    obtain ⟨xs, hlen, hxs⟩ := hch
    refine ⟨_, xs, rfl, ?_, ?_⟩
    · by_cases hne : xs = []
      · subst hne
        simp at hlen
        subst hlen
        exact ⟨0, 0, ⟨some a, m, by simp, by simp, by omega, hm⟩, by simp, by simp⟩
      · have h0 : 0 < xs.length := List.length_pos_iff.2 hne
        obtain ⟨y, hy⟩ := at_of xs h0
        have hy0 := (hxs 0 y hy).2 0 E.pos
        rw [Nat.zero_mul] at hy0
        have haa : (a.add 0).add 0 = a := by simp [Addr.add]
        rw [haa] at hy0
        have hlt0 : 0 < (E.enc y).length := by rw [E.len]; exact E.pos
        rw [List.getElem?_eq_getElem hlt0] at hy0
        obtain ⟨ha, hb⟩ := addr_of_cell hy0
        obtain ⟨b, o, ha'⟩ : ∃ b o, a = ⟨b, o, none⟩ := ⟨_, _, ha⟩
        subst ha'
        refine ⟨b, o, ⟨_, m, by rw [hlen], fun _ => rfl, by omega, hm⟩, fun i z hz j hj => ?_, fun _ => hb⟩
        rw [← (hxs i z hz).2 j hj]
        congr 1
        generalize i * E.sz = q
        unfold Addr.add
        by_cases h1 : q = 0 <;> by_cases h2 : j = 0 <;> simp [h1, h2] <;> omega
    · intro y hy
      obtain ⟨i, hi⟩ := List.mem_iff_getElem?.1 hy
      exact (hxs i y hi).1
end Go.Proofs.YtkdmodanfcpcfaaDoor
