/- DERIVED. Maps in memory as functions: 'MapAt kv ev kok w b f': block b holds a map whose entries are f's. What look-up, entry, store, update, delete and a range loop do. No function of the program is named here. -/
import Derived.Test.YtlpefbpamgeikaaLib
import Derived.Maps.RangeWalk
import Derived.WideKeyEntry
import Derived.DeepKeys3
namespace Go.Proofs.Ytlpefbpamgeikaa
open Go.RowKit Go.ChangeShapes Go.WideShapes
open Go.ChangeMaps (setBlock)

theorem sb_size (w : World) (b : Nat) (o : Obj) : (setBlock w b o).heap.size = w.heap.size := by simp [setBlock]
theorem sb_same {w : World} {b : Nat} (h : b < w.heap.size) (o : Obj) : (setBlock w b o).heap[b]? = some o := by simp [setBlock, h]
theorem sb_other {w : World} {b k : Nat} (h : k ≠ b) (o : Obj) : (setBlock w b o).heap[k]? = w.heap[k]? := by
  simp [setBlock, Array.getElem?_setIfInBounds, Ne.symm h]
theorem sb_fr (w : World) (b : Nat) (o : Obj) : Fr [b] w (setBlock w b o) := ⟨rfl, rfl, rfl, by rw [sb_size]; exact Nat.le_refl _, fun k _ hn => sb_other (by simpa using hn) o⟩
theorem Fr.sb {S : List Nat} {a w : World} (h : Fr S a w) {b : Nat} (hb : b ∈ S ∨ a.heap.size ≤ b) (o : Obj) : Fr S a (setBlock w b o) := h.trans (sb_fr w b o) (by simpa using hb)
theorem sb_cell {w : World} {b k : Nat} (h : k ≠ b) (o : Obj) (i : Nat) : (setBlock w b o).cell? ⟨k, i, none⟩ = w.cell? ⟨k, i, none⟩ := World.cell?_of_block (a := ⟨k, i, none⟩) (sb_other h o)
theorem sb_frozen {w : World} {b k : Nat} (h : k ≠ b) (o : Obj) (i : Nat) : (setBlock w b o).frozen? ⟨k, i, none⟩ = w.frozen? ⟨k, i, none⟩ := World.frozen?_of_block (a := ⟨k, i, none⟩) (sb_other h o)

theorem set_self_any {α : Type} : ∀ (l : List α) (j : Nat) (a : α), l[j]? = some a → l.set j a = l
  | [], _, _, h => by simp at h
  | b :: r, 0, a, h => by simp at h; subst h; rfl
  | b :: r, j + 1, a, h => by simp at h; simp [set_self_any r j a h]

/-- how a kind of key lies in a map -/
structure KeyOk (P : Program) (kt : TypeId) {κ : Type} (kv : κ → Value) (kok : κ → Prop) : Prop where
  keyed : Maps.Keyed P kt
  lit : ∀ k, kok k → ∃ l, keyOf P kt (kv k) = some l
  inj : ∀ a b, kv a = kv b → a = b

section
variable {κ ε : Type}
/-- a map's entries -/
structure Ents (kv : κ → Value) (ev : ε → Value) (kok : κ → Prop) (f : κ → Option ε) (es : Array MapEntry) (clock : Nat) : Prop where
  keys : ∀ e ∈ es.toList, ∃ k v, e.key = kv k ∧ e.val = ev v ∧ kok k ∧ f k = some v
  has : ∀ k v, f k = some v → ∃ e ∈ es.toList, e.key = kv k ∧ e.val = ev v
  apart : es.toList.Pairwise fun x y => x.key ≠ y.key
  borns : (es.toList.map (·.born)).Nodup
  lt : ∀ e ∈ es.toList, e.born < clock
def MapAt (kv : κ → Value) (ev : ε → Value) (kok : κ → Prop) (w : World) (b : Nat) (f : κ → Option ε) : Prop :=
  ∃ es clock, w.heap[b]? = some (.map es clock) ∧ Ents kv ev kok f es clock
variable {kv : κ → Value} {ev : ε → Value} {kok : κ → Prop}
theorem MapAt.lt {w : World} {b : Nat} {m : κ → Option ε} (h : MapAt kv ev kok w b m) : b < w.heap.size := by
  obtain ⟨es, c, h, _⟩ := h; exact (Array.getElem?_eq_some_iff.1 h).1
theorem MapAt.keep {w w' : World} {b : Nat} {m : κ → Option ε} (h : MapAt kv ev kok w b m) {S : List Nat} (hf : Fr S w w') (hb : b ∉ S) : MapAt kv ev kok w' b m := by
  have hl := h.lt
  obtain ⟨es, c, h, he⟩ := h
  exact ⟨es, c, (hf.block b hl hb).trans h, he⟩
theorem MapAt.made (kv : κ → Value) (ev : ε → Value) (kok : κ → Prop) (w : World) : MapAt kv ev kok (w.alloc (.map #[] 0)) w.heap.size (fun _ => none) :=
  ⟨#[], 0, heap_alloc_new _ _, ⟨by simp, by simp, by simp, by simp, by simp⟩⟩

variable {P : Program} {kt mt et : TypeId} {f : κ → Option ε} {es : Array MapEntry} {clock : Nat}
theorem Ents.fits (K : KeyOk P kt kv kok) (E : Ents kv ev kok f es clock) : ∀ e ∈ es.toList, ∃ l, keyOf P kt e.key = some l := by
  intro e he
  obtain ⟨k, v, h1, _, h2, _⟩ := E.keys e he
  rw [h1]; exact K.lit k h2
theorem apart_at {l : List MapEntry} (h : l.Pairwise fun x y => x.key ≠ y.key) {i j : Nat} {x y : MapEntry} (hi : l[i]? = some x) (hj : l[j]? = some y) (he : x.key = y.key) : i = j := by
  obtain ⟨h1, rfl⟩ := List.getElem?_eq_some_iff.1 hi
  obtain ⟨h2, rfl⟩ := List.getElem?_eq_some_iff.1 hj
  rw [List.pairwise_iff_getElem] at h
  rcases Nat.lt_trichotomy i j with hh | hh | hh
  · exact absurd he (h i j h1 h2 hh)
  · exact hh
  · exact absurd he.symm (h j i h2 h1 hh)
theorem Ents.find_none (K : KeyOk P kt kv kok) (E : Ents kv ev kok f es clock) {k : κ} (hk : kok k) (hf : f k = none) :
    (∀ e ∈ es.toList, e.key ≠ kv k) ∧ ∀ W : World, (Instr.findKey kt (kv k) es.toList).run P W = .ok none W := by
  have h1 : ∀ e ∈ es.toList, e.key ≠ kv k := by
    intro e he h
    obtain ⟨k', v, h1, _, _, h2⟩ := E.keys e he
    rw [h] at h1
    rw [K.inj _ _ h1, h2] at hf; cases hf
  refine ⟨h1, fun W => ?_⟩
  obtain ⟨l, hl⟩ := K.lit k hk
  rcases K.keyed.find W hl es.toList (E.fits K) with ⟨h2, _⟩ | ⟨j, e, _, h3, h4⟩
  · exact h2
  · exact absurd h4 (h1 e (List.mem_of_getElem? h3))
theorem Ents.find_some (K : KeyOk P kt kv kok) (E : Ents kv ev kok f es clock) {k : κ} (hk : kok k) {v : ε} (hf : f k = some v) :
    ∃ j e, es.toList[j]? = some e ∧ e.key = kv k ∧ e.val = ev v ∧ ∀ W : World, (Instr.findKey kt (kv k) es.toList).run P W = .ok (some (j, ev v)) W := by
  obtain ⟨e, he, h1, h2⟩ := E.has k v hf
  obtain ⟨j, hj⟩ := List.mem_iff_getElem?.1 he
  refine ⟨j, e, hj, h1, h2, fun W => ?_⟩
  obtain ⟨l, hl⟩ := K.lit k hk
  rcases K.keyed.find W hl es.toList (E.fits K) with ⟨_, h3⟩ | ⟨j', e', h3, h4, h5⟩
  · exact absurd h1 (h3 e he)
  · have hjj := apart_at E.apart h4 hj (h5.trans h1.symm)
    subst hjj
    rw [h4] at hj
    injection hj with hj
    subst hj
    rw [h3, h2]

/-- look-up -/
theorem Ents.lookup (K : KeyOk P kt kv kok) (hm : P.underlying mt = some (.map kt et)) {z0 : ε} (hz : ∀ W : World, (zeroValue et).run P W = .ok (ev z0) W) (E : Ents kv ev kok f es clock) {k : κ} (hk : kok k) (W : World) (b : Nat) (hb : W.heap[b]? = some (.map es clock)) :
    Sem.run P (Instr.lookup mt (.map (some b)) (kv k) false) W = .ok (ev ((f k).getD z0)) W := by
  obtain ⟨l, hl⟩ := K.lit k hk
  cases hf : f k with
  | none =>
    have h1 := (E.find_none K hk hf).2 W
    simp [Instr.lookup, run_underlying hm, MapKept.run_getObj_map hb, K.keyed.check W _ hl, h1, hz, Result.andThen]
  | some v =>
    obtain ⟨j, e, _, _, _, h1⟩ := E.find_some K hk hf
    simp [Instr.lookup, run_underlying hm, MapKept.run_getObj_map hb, K.keyed.check W _ hl, h1 W, Result.andThen]
theorem Ents.lookupOk (K : KeyOk P kt kv kok) (hm : P.underlying mt = some (.map kt et)) {z0 : ε} (hz : ∀ W : World, (zeroValue et).run P W = .ok (ev z0) W) (E : Ents kv ev kok f es clock) {k : κ} (hk : kok k) (W : World) (b : Nat) (hb : W.heap[b]? = some (.map es clock)) :
    Sem.run P (Instr.lookup mt (.map (some b)) (kv k) true) W = .ok (.tuple #[ev ((f k).getD z0), .bool (f k).isSome]) W := by
  obtain ⟨l, hl⟩ := K.lit k hk
  cases hf : f k with
  | none =>
    have h1 := (E.find_none K hk hf).2 W
    simp [Instr.lookup, run_underlying hm, MapKept.run_getObj_map hb, K.keyed.check W _ hl, h1, hz, Result.andThen]
  | some v =>
    obtain ⟨j, e, _, _, _, h1⟩ := E.find_some K hk hf
    simp [Instr.lookup, run_underlying hm, MapKept.run_getObj_map hb, K.keyed.check W _ hl, h1 W, Result.andThen]

variable [DecidableEq κ]
def upd (f : κ → Option ε) (k : κ) (v : Option ε) : κ → Option ε := fun j => if j = k then v else f j

theorem Ents.pushed (E : Ents kv ev kok f es clock) (K : KeyOk P kt kv kok) {k : κ} (hk : kok k) (hf : f k = none) (v : ε) : Ents kv ev kok (upd f k (some v)) (es.push ⟨kv k, ev v, clock⟩) (clock + 1) := by
  have hn := (E.find_none K hk hf).1
  refine ⟨?_, ?_, ?_, ?_, ?_⟩
  · intro e he
    simp only [Array.toList_push, List.mem_append, List.mem_singleton] at he
    rcases he with he | rfl
    · obtain ⟨k', v', h1, h2, h3, h4⟩ := E.keys e he
      have : k' ≠ k := by rintro rfl; exact hn e he h1
      exact ⟨k', v', h1, h2, h3, by simp [upd, this, h4]⟩
    · exact ⟨k, v, rfl, rfl, hk, by simp [upd]⟩
  · intro k' v' h
    by_cases hkk : k' = k
    · subst hkk
      simp [upd] at h
      subst h
      exact ⟨⟨kv k', ev v, clock⟩, by simp, rfl, rfl⟩
    · simp [upd, hkk] at h
      obtain ⟨e, he, h1⟩ := E.has k' v' h
      exact ⟨e, by simp at he ⊢; exact .inl he, h1⟩
  · rw [Array.toList_push, List.pairwise_append]
    refine ⟨E.apart, by simp, fun a ha c hc => ?_⟩
    simp at hc
    subst hc
    exact hn a ha
  · rw [Array.toList_push, List.map_append, List.nodup_append]
    refine ⟨E.borns, by simp, fun a ha c hc e1 => ?_⟩
    simp at hc
    obtain ⟨x, hx, rfl⟩ := List.mem_map.1 ha
    have := E.lt x hx
    omega
  · intro e he
    simp only [Array.toList_push, List.mem_append, List.mem_singleton] at he
    rcases he with he | rfl
    · have := E.lt e he; omega
    · simp

theorem Ents.valued (E : Ents kv ev kok f es clock) (K : KeyOk P kt kv kok) {k : κ} (hk : kok k) {j : Nat} {e : MapEntry} (hj : es.toList[j]? = some e) (he : e.key = kv k) (v : ε) :
    ∃ es', es.modify j (fun e => { e with val := ev v }) = es' ∧ Ents kv ev kok (upd f k (some v)) es' clock := by
  refine ⟨_, rfl, ?_⟩
  have hl : (es.modify j (fun e => { e with val := ev v })).toList = es.toList.set j { e with val := ev v } := by rw [Array.toList_modify, ChangeMaps.modify_eq_set _ _ _ _ hj]
  have hjl : j < es.toList.length := (List.getElem?_eq_some_iff.1 hj).1
  have hat : ∀ x ∈ es.toList.set j { e with val := ev v }, x = { e with val := ev v } ∨ (x ∈ es.toList ∧ x.key ≠ kv k) := by
    intro x hx
    obtain ⟨i, hi⟩ := List.mem_iff_getElem?.1 hx
    rw [List.getElem?_set] at hi
    split at hi
    · injection hi with hi; exact .inl hi.symm
    · rename_i hne
      refine .inr ⟨List.mem_of_getElem? hi, fun h => hne ?_⟩
      exact apart_at E.apart hj hi (he.trans h.symm)
  have hkeys : (es.toList.set j { e with val := ev v }).map (·.key) = es.toList.map (·.key) := by
    rw [List.map_set]
    exact set_self_any _ _ _ (by rw [List.getElem?_map, hj]; rfl)
  have hborn : (es.toList.set j { e with val := ev v }).map (·.born) = es.toList.map (·.born) := by
    rw [List.map_set]
    exact set_self_any _ _ _ (by rw [List.getElem?_map, hj]; rfl)
  refine ⟨?_, ?_, ?_, ?_, ?_⟩ <;> rw [hl]
  · intro x hx
    rcases hat x hx with rfl | ⟨h1, h2⟩
    · exact ⟨k, v, he, rfl, hk, by simp [upd]⟩
    · obtain ⟨k', v', h3, h4, h5, h6⟩ := E.keys x h1
      have : k' ≠ k := by rintro rfl; exact h2 h3
      exact ⟨k', v', h3, h4, h5, by simp [upd, this, h6]⟩
  · intro k' v' h
    by_cases hkk : k' = k
    · subst hkk
      simp [upd] at h
      subst h
      exact ⟨{ e with val := ev v }, List.mem_iff_getElem?.2 ⟨j, List.getElem?_set_self hjl⟩, he, rfl⟩
    · simp [upd, hkk] at h
      obtain ⟨x, hx, h1, h2⟩ := E.has k' v' h
      obtain ⟨i, hi⟩ := List.mem_iff_getElem?.1 hx
      have hij : j ≠ i := by
        rintro rfl
        rw [hj] at hi; injection hi with hi; subst hi
        rw [he] at h1
        exact hkk (K.inj _ _ h1).symm
      exact ⟨x, List.mem_iff_getElem?.2 ⟨i, by rw [List.getElem?_set, if_neg hij]; exact hi⟩, h1, h2⟩
  · have h1 : (es.toList.map (·.key)).Pairwise (· ≠ ·) := by rw [List.pairwise_map]; exact E.apart
    rw [← hkeys, List.pairwise_map] at h1; exact h1
  · rw [hborn]; exact E.borns
  · intro x hx
    have : x.born ∈ (es.toList.set j { e with val := ev v }).map (·.born) := List.mem_map_of_mem hx
    rw [hborn] at this
    obtain ⟨y, hy, h⟩ := List.mem_map.1 this
    rw [← h]; exact E.lt y hy

/-- entry, then store -/
theorem Ents.entry (K : KeyOk P kt kv kok) (hm : P.underlying mt = some (.map kt et)) {z0 : ε} (hz : ∀ W : World, (zeroValue et).run P W = .ok (ev z0) W) (E : Ents kv ev kok f es clock) {k : κ} (hk : kok k) :
    ∃ (es1 : Array MapEntry) (clock1 st : Nat), Ents kv ev kok (upd f k (some ((f k).getD z0))) es1 clock1 ∧
      (∀ (W : World) (b : Nat), W.heap[b]? = some (.map es clock) → Sem.run P (Instr.mapEntry mt (.map (some b)) (kv k)) W = .ok (.tuple #[ev ((f k).getD z0), goInt st]) (setBlock W b (.map es1 clock1))) ∧
      ∀ v : ε, ∃ es2, Ents kv ev kok (upd f k (some v)) es2 clock1 ∧ ∀ (W : World) (b : Nat), W.heap[b]? = some (.map es1 clock1) → Sem.run P (Instr.entryStore mt (.map (some b)) (goInt st) (ev v)) W = .ok () (setBlock W b (.map es2 clock1)) := by
  obtain ⟨l, hl⟩ := K.lit k hk
  have key : ∀ (g : κ → Option ε) (es1 : Array MapEntry) (clock1 j : Nat) (e0 : MapEntry), Ents kv ev kok g es1 clock1 → es1.toList[j]? = some e0 → e0.key = kv k → (∀ i, i ≠ k → g i = f i) →
      ∀ v : ε, ∃ es2, Ents kv ev kok (upd f k (some v)) es2 clock1 ∧ ∀ (W : World) (b : Nat), W.heap[b]? = some (.map es1 clock1) → Sem.run P (Instr.entryStore mt (.map (some b)) (goInt e0.born) (ev v)) W = .ok () (setBlock W b (.map es2 clock1)) := by
    intro g es1 clock1 j e0 E1 hj he hg v
    obtain ⟨es2, h1, h2⟩ := E1.valued K hk hj he v
    have hu : upd g k (some v) = upd f k (some v) := by funext i; unfold upd; split <;> simp_all
    rw [hu] at h2
    refine ⟨es2, h2, fun W b hb => ?_⟩
    have hidx : es1.findIdx? (fun e => ((e.born : Nat) : Int) == ((e0.born : Nat) : Int)) = some j := by
      rw [WideElems.findIdx_arr]; exact WideElems.findIdx_born E1.borns hj
    simp [Instr.entryStore, MapKept.run_getObj_map hb, asInt, asIntOf, goInt, hidx, h1, MapKept.run_setObj_map _ hb, Result.andThen, setBlock]
  cases hf : f k with
  | none =>
    have hn := E.find_none K hk hf
    have E1 := E.pushed K hk hf z0
    refine ⟨_, _, clock, E1, fun W b hb => ?_, key _ _ _ es.size ⟨kv k, ev z0, clock⟩ E1 (by simp) rfl (fun i hi => by simp [upd, hi])⟩
    simp [Instr.mapEntry, run_underlying hm, MapKept.run_getObj_map hb, K.keyed.check W false hl, hn.2 W, hz, MapKept.run_setObj_map _ hb, Result.andThen, setBlock]
  | some v0 =>
    obtain ⟨j, e0, h2, h3, h4, h1⟩ := E.find_some K hk hf
    have hj : es[j]? = some e0 := by simpa using h2
    have hsame : es.modify j (fun e => { e with key := kv k }) = es := by
      apply Array.ext'
      rw [Array.toList_modify, ChangeMaps.modify_eq_set _ _ _ _ h2]
      have : ({ e0 with key := kv k } : MapEntry) = e0 := by rw [← h3]
      rw [this]
      exact WideElems.set_self _ _ _ h2
    have hu : upd f k (some v0) = f := by funext i; unfold upd; split <;> simp_all
    refine ⟨es, clock, e0.born, by simpa [hu] using E, fun W b hb => ?_, key f es clock j e0 E h2 h3 (fun _ _ => rfl)⟩
    have hs := K.keyed.stays W hl
    simp [Instr.mapEntry, run_underlying hm, MapKept.run_getObj_map hb, K.keyed.check W false hl, h1 W, hj, h3, hs, hsame, MapKept.run_setObj_map _ hb, Result.andThen, setBlock]

/-- update -/
theorem Ents.update (K : KeyOk P kt kv kok) (hm : P.underlying mt = some (.map kt et)) (E : Ents kv ev kok f es clock) {k : κ} (hk : kok k) (v : ε) :
    ∃ (es1 : Array MapEntry) (clock1 : Nat), Ents kv ev kok (upd f k (some v)) es1 clock1 ∧
      (∀ (W : World) (b : Nat), W.heap[b]? = some (.map es clock) → Sem.run P (Instr.mapUpdate mt (.map (some b)) (kv k) (ev v)) W = .ok () (setBlock W b (.map es1 clock1))) := by
  obtain ⟨l, hl⟩ := K.lit k hk
  cases hf : f k with
  | none =>
    have hn := E.find_none K hk hf
    refine ⟨_, _, E.pushed K hk hf v, fun W b hb => ?_⟩
    simp [Instr.mapUpdate, run_underlying hm, MapKept.run_getObj_map hb, K.keyed.check W false hl, hn.2 W, MapKept.run_setObj_map _ hb, Result.andThen, setBlock]
  | some v0 =>
    obtain ⟨j, e0, h2, h3, h4, h1⟩ := E.find_some K hk hf
    have hj : es[j]? = some e0 := by simpa using h2
    obtain ⟨es2, h5, h6⟩ := E.valued K hk h2 h3 v
    have hmod : es.modify j (fun e => { e with key := kv k, val := ev v }) = es2 := by
      rw [← h5]
      apply Array.ext'
      rw [Array.toList_modify, Array.toList_modify, ChangeMaps.modify_eq_set _ _ _ _ h2, ChangeMaps.modify_eq_set _ _ _ _ h2, ← h3]
    refine ⟨es2, clock, h6, fun W b hb => ?_⟩
    have hs := K.keyed.stays W hl
    simp [Instr.mapUpdate, run_underlying hm, MapKept.run_getObj_map hb, K.keyed.check W false hl, h1 W, hj, h3, hs, hmod, MapKept.run_setObj_map _ hb, Result.andThen, setBlock]

/-- delete -/
theorem Ents.delete (K : KeyOk P kt kv kok) (hm : P.underlying mt = some (.map kt et)) (E : Ents kv ev kok f es clock) {k : κ} (hk : kok k) :
    ∃ (es1 : Array MapEntry), Ents kv ev kok (upd f k none) es1 clock ∧
      (∀ (W : World) (b : Nat) (ty : TypeId), W.heap[b]? = some (.map es clock) → Sem.run P (Builtin.delete_ #[mt, kt] ty #[.map (some b), kv k]) W = .ok (.tuple #[]) (setBlock W b (.map es1 clock))) := by
  obtain ⟨l, hl⟩ := K.lit k hk
  cases hf : f k with
  | none =>
    have hn := E.find_none K hk hf
    have hu : upd f k none = f := by funext i; unfold upd; split <;> simp_all
    refine ⟨es, by rw [hu]; exact E, fun W b ty hb => ?_⟩
    simp [Builtin.delete_, run_underlying hm, MapKept.run_getObj_map hb, K.keyed.check W _ hl, hn.2 W, MapKept.run_setObj_map _ hb, Result.andThen, setBlock]
  | some v0 =>
    obtain ⟨j, e0, h2, h3, h4, h1⟩ := E.find_some K hk hf
    have hjs : j < es.size := by simpa using (List.getElem?_eq_some_iff.1 h2).1
    have hsub : (es.eraseIdxIfInBounds j).toList = es.toList.eraseIdx j := by
      unfold Array.eraseIdxIfInBounds
      rw [dif_pos hjs]
      simp
    refine ⟨es.eraseIdxIfInBounds j, ⟨?_, ?_, ?_, ?_, ?_⟩, fun W b ty hb => ?_⟩
    · rw [hsub]
      intro x hx
      obtain ⟨i, hi⟩ := List.mem_iff_getElem?.1 hx
      obtain ⟨k', v', h5, h6, h7, h8⟩ := E.keys x ((List.eraseIdx_sublist _ _).subset hx)
      have : k' ≠ k := by
        rintro rfl
        rw [List.getElem?_eraseIdx] at hi
        split at hi
        · have := apart_at E.apart hi h2 (h5.trans h3.symm); omega
        · have := apart_at E.apart hi h2 (h5.trans h3.symm); omega
      exact ⟨k', v', h5, h6, h7, by simp [upd, this, h8]⟩
    · rw [hsub]
      intro k' v' h
      have hkk : k' ≠ k := by rintro rfl; simp [upd] at h
      simp [upd, hkk] at h
      obtain ⟨x, hx, h5, h6⟩ := E.has k' v' h
      obtain ⟨i, hi⟩ := List.mem_iff_getElem?.1 hx
      have hij : i ≠ j := by
        rintro rfl
        rw [h2] at hi; injection hi with hi; subst hi
        rw [h3] at h5
        exact hkk (K.inj _ _ h5).symm
      refine ⟨x, ?_, h5, h6⟩
      rw [List.mem_iff_getElem?]
      by_cases hlt : i < j
      · exact ⟨i, by rw [List.getElem?_eraseIdx, if_pos hlt]; exact hi⟩
      · exact ⟨i - 1, by rw [List.getElem?_eraseIdx, if_neg (by omega), show i - 1 + 1 = i by omega]; exact hi⟩
    · rw [hsub]; exact E.apart.sublist (List.eraseIdx_sublist _ _)
    · rw [hsub]; exact E.borns.sublist ((List.eraseIdx_sublist _ _).map _)
    · rw [hsub]; exact fun e he => E.lt e ((List.eraseIdx_sublist _ _).subset he)
    · simp [Builtin.delete_, run_underlying hm, MapKept.run_getObj_map hb, K.keyed.check W _ hl, h1 W, MapKept.run_setObj_map _ hb, Result.andThen, setBlock]
end

theorem key_u64 {P : Program} {kt : TypeId} (hk : P.underlying kt = some (.int .u64)) : KeyOk P kt (Value.int .u64) (fun n => (Lit.int .u64 n).wf = true) :=
  ⟨Maps.int_keyed hk, fun _ h => ⟨_, Maps.keyOf_int_mk hk h⟩, fun a b h => by injection h⟩
end Go.Proofs.Ytlpefbpamgeikaa
