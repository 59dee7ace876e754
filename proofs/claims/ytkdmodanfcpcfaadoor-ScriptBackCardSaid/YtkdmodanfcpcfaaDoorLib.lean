/- DERIVED. Words of my own on worlds: what a call leaves alone ('Fr'), lists of plain data in memory ('Rd': can be read; 'Own': made by the program itself, may grow). No function of the program is named here. -/
import Derived.WalkKit
import Derived.WalkSpells
import Derived.WalkLawsBesides
import Derived.IntWalk
import Derived.WalkSmall
import Derived.Lib.Hide
namespace Go.Proofs.YtkdmodanfcpcfaaDoor
open Go.RowKit

/-- w' is w but for new blocks, and for the blocks of S. -/
structure Fr (S : List Nat) (w w' : World) : Prop where
  os : w'.os = w.os
  tape : w'.tape = w.tape
  output : w'.output = w.output
  size : w.heap.size ≤ w'.heap.size
  block : ∀ k, k < w.heap.size → k ∉ S → w'.heap[k]? = w.heap[k]?
theorem Fr.refl (S : List Nat) (w : World) : Fr S w w := ⟨rfl, rfl, rfl, Nat.le_refl _, fun _ _ _ => rfl⟩
theorem Fr.trans {S S' : List Nat} {a b c : World} (h : Fr S a b) (k : Fr S' b c) (hs : ∀ x ∈ S', x ∈ S ∨ a.heap.size ≤ x) : Fr S a c :=
  ⟨k.os.trans h.os, k.tape.trans h.tape, k.output.trans h.output, Nat.le_trans h.size k.size,
   fun i hi hn => (k.block i (Nat.lt_of_lt_of_le hi h.size) (fun hx => (hs i hx).elim hn (fun _ => by omega))).trans (h.block i hi hn)⟩
theorem Fr.trans0 {S : List Nat} {a b c : World} (h : Fr S a b) (k : Fr [] b c) : Fr S a c := h.trans k (by simp)
theorem Fr.transS {S : List Nat} {a b c : World} (h : Fr S a b) (k : Fr S b c) : Fr S a c := h.trans k (fun _ hx => .inl hx)
theorem Fr.mono {S S' : List Nat} {a b : World} (h : Fr S a b) (hs : ∀ x ∈ S, x ∈ S' ∨ a.heap.size ≤ x) : Fr S' a b :=
  ⟨h.os, h.tape, h.output, h.size, fun k hk hn => h.block k hk (fun hx => (hs k hx).elim hn (fun _ => by omega))⟩
theorem Fr.drew {S : List Nat} {a w : World} (h : Fr S a w) : Fr S a w.drew := ⟨h.os, h.tape, h.output, h.size, h.block⟩
theorem Fr.drewN {S : List Nat} {a w : World} (h : Fr S a w) (n : Nat) : Fr S a (w.drewN n) := ⟨h.os, h.tape, h.output, h.size, h.block⟩
theorem Fr.alloc {S : List Nat} {a w : World} (h : Fr S a w) (o : Obj) : Fr S a (w.alloc o) :=
  h.trans0 ⟨rfl, rfl, rfl, by simp, fun k hk _ => Below.heap_alloc _ _ _ (by omega)⟩
theorem Fr.setCell {S : List Nat} {a w : World} (h : Fr S a w) {p : Addr} (hp : p.block ∈ S ∨ a.heap.size ≤ p.block) (u : Value) : Fr S a (w.setCell p u) :=
  h.trans (S' := [p.block]) ⟨rfl, rfl, rfl, by simp [World.setCell], fun k _ hn => Below.heap_setCell _ _ _ _ (by simpa using hn)⟩ (by simpa using hp)
theorem Fr.below {w w' : World} (h : Fr [] w w') : Below w.heap.size w w' := ⟨h.os, h.tape, h.output, h.size, fun k hk => h.block k hk (by simp)⟩
theorem Fr.of_below {w w' : World} (h : Below w.heap.size w w') : Fr [] w w' := ⟨h.os, h.tape, h.output, h.size, fun k hk _ => h.block k hk⟩
theorem Fr.grown {w w' : World} {row : Option Nat} (h : w.grownBy w' row) : Fr row.toList w w' :=
  ⟨h.os, h.tape, h.output, h.size, fun k hk hn => h.block k hk (fun e => hn (by simp [← e]))⟩
theorem Fr.cell {S : List Nat} {w w' : World} (h : Fr S w w') {b : Nat} (hb : b < w.heap.size) (hn : b ∉ S) (o : Nat) : w'.cell? ⟨b, o, none⟩ = w.cell? ⟨b, o, none⟩ :=
  World.cell?_of_block (a := ⟨b, o, none⟩) (h.block b hb hn)
theorem Fr.frozen {S : List Nat} {w w' : World} (h : Fr S w w') {b : Nat} (hb : b < w.heap.size) (hn : b ∉ S) (o : Nat) : w'.frozen? ⟨b, o, none⟩ = w.frozen? ⟨b, o, none⟩ :=
  World.frozen?_of_block (a := ⟨b, o, none⟩) (h.block b hb hn)
/-- for the walk: two rules, and a bound -/
theorem Fr.rules {w w' : World} (h : Fr [] w w') : (∀ b o, b < w.heap.size → w'.cell? ⟨b, o, none⟩ = w.cell? ⟨b, o, none⟩) ∧ (∀ b o, b < w.heap.size → w'.frozen? ⟨b, o, none⟩ = w.frozen? ⟨b, o, none⟩) ∧ (∀ b, b < w.heap.size → b < w'.heap.size) :=
  ⟨fun b o hb => h.cell hb (by simp) o, fun b o hb => h.frozen hb (by simp) o, fun _ hb => Nat.lt_of_lt_of_le hb h.size⟩

/-- a block whose cells are known, for the walk -/
structure Box (w : World) (g : Nat) (cs : Array Value) : Prop where
  cell : ∀ j, w.cell? ⟨g, j, none⟩ = cs[j]?
  lt : g < w.heap.size
theorem Box.new (w : World) (cs : Array Value) (t : TypeId) : Box (w.alloc (.cells cs t)) w.heap.size cs :=
  ⟨fun j => World.cell?_alloc_at _ _ _ _ rfl, by simp⟩
theorem Box.keep {w w' : World} {g : Nat} {cs : Array Value} (h : Box w g cs) {S : List Nat} (hf : Fr S w w') (hg : g ∉ S) : Box w' g cs :=
  ⟨fun j => by rw [hf.cell h.lt hg, h.cell], Nat.lt_of_lt_of_le h.lt hf.size⟩
theorem Box.keep0 {w w' : World} {g : Nat} {cs : Array Value} (h : Box w g cs) (hf : Fr [] w w') : Box w' g cs := h.keep hf (by simp)

/-- How a kind of plain data lies in cells. -/
structure Enc (α : Type) where
  sz : Nat
  enc : α → List Value
  len : ∀ a, (enc a).length = sz
  pos : 0 < sz
  one : ∀ a, ∀ u ∈ enc a, u.oneCell' = true
def encI : Enc Int := ⟨1, fun a => [.int .i64 a], fun _ => rfl, by decide, fun _ u h => by simp at h; subst h; rfl⟩
def encW : Enc Int := ⟨1, fun a => [.int .u64 a], fun _ => rfl, by decide, fun _ u h => by simp at h; subst h; rfl⟩

theorem flat_len {α : Type} (E : Enc α) (xs : List α) : (xs.flatMap E.enc).length = xs.length * E.sz := by
  induction xs with
  | nil => simp
  | cons x xs ih => simp only [List.flatMap_cons, List.length_append, ih, E.len, List.length_cons, Nat.add_mul]; omega
theorem flat_at {α : Type} (E : Enc α) : ∀ (xs : List α) (i : Nat) (x : α), xs[i]? = some x → ∀ j, j < E.sz → (xs.flatMap E.enc)[i * E.sz + j]? = (E.enc x)[j]?
  | y :: xs, 0, x, h, j, hj => by
    simp at h; subst h
    simp only [List.flatMap_cons, Nat.zero_mul, Nat.zero_add]
    rw [List.getElem?_append_left (by rw [E.len]; exact hj)]
  | y :: xs, i + 1, x, h, j, hj => by
    simp only [List.flatMap_cons]
    rw [List.getElem?_append_right (by rw [E.len, Nat.add_mul]; omega), E.len, show (i + 1) * E.sz + j - E.sz = i * E.sz + j by rw [Nat.add_mul]; omega]
    exact flat_at E xs i x (by simpa using h) j hj
theorem drop_at {α : Type} {xs : List α} {k : Nat} {x : α} (h : xs[k]? = some x) : xs.drop k = x :: xs.drop (k + 1) := by
  obtain ⟨hlt, rfl⟩ := List.getElem?_eq_some_iff.1 h; exact List.drop_eq_getElem_cons hlt
theorem take_at {α : Type} {xs : List α} {k : Nat} {x : α} (h : xs[k]? = some x) : xs.take (k + 1) = xs.take k ++ [x] := by
  obtain ⟨hlt, rfl⟩ := List.getElem?_eq_some_iff.1 h; exact List.take_succ_eq_append_getElem hlt
theorem at_of {α : Type} (xs : List α) {k : Nat} (h : k < xs.length) : ∃ x, xs[k]? = some x := ⟨_, List.getElem?_eq_getElem h⟩

/-- The slice v can be read as the list xs; it lies in block b, from off on. -/
structure RdAt {α : Type} (E : Enc α) (w : World) (v : Value) (xs : List α) (b off : Nat) : Prop where
  val : ∃ ao cap, v = .slice ao xs.length cap ∧ (xs ≠ [] → ao = some ⟨b, off, none⟩) ∧ xs.length ≤ cap ∧ cap ≤ maxLen
  cell : ∀ i x, xs[i]? = some x → ∀ j, j < E.sz → w.cell? ⟨b, off + i * E.sz + j, none⟩ = (E.enc x)[j]?
  lt : xs ≠ [] → b < w.heap.size
def Rd {α : Type} (E : Enc α) (w : World) (v : Value) (xs : List α) : Prop := ∃ b off, RdAt E w v xs b off
/-- the block of a slice -/
def sblk : Value → List Nat
  | .slice (some a) _ _ => [a.block]
  | _ => []
theorem RdAt.keep {α : Type} {E : Enc α} {w w' : World} {v : Value} {xs : List α} {b off : Nat} (h : RdAt E w v xs b off) {S : List Nat} (hf : Fr S w w') (hd : ∀ x ∈ sblk v, x ∉ S) : RdAt E w' v xs b off := by
  obtain ⟨hv, hc, hl⟩ := h
  refine ⟨hv, fun i x hx j hj => ?_, fun hne => Nat.lt_of_lt_of_le (hl hne) hf.size⟩
  have hne : xs ≠ [] := by rintro rfl; simp at hx
  obtain ⟨ao, cap, rfl, ha, _⟩ := hv
  rw [hf.cell (hl hne) (hd b (by rw [ha hne]; simp [sblk]))]
  exact hc i x hx j hj
theorem Rd.keep {α : Type} {E : Enc α} {w w' : World} {v : Value} {xs : List α} (h : Rd E w v xs) {S : List Nat} (hf : Fr S w w') (hd : ∀ x ∈ sblk v, x ∉ S) : Rd E w' v xs :=
  let ⟨b, off, h⟩ := h; ⟨b, off, h.keep hf hd⟩
theorem Rd.keep0 {α : Type} {E : Enc α} {w w' : World} {v : Value} {xs : List α} (h : Rd E w v xs) (hf : Fr [] w w') : Rd E w' v xs := h.keep hf (by simp)
theorem RdAt.keep0 {α : Type} {E : Enc α} {w w' : World} {v : Value} {xs : List α} {b off : Nat} (h : RdAt E w v xs b off) (hf : Fr [] w w') : RdAt E w' v xs b off := h.keep hf (by simp)

/-- what the walk wants of a slice type -/
structure SlTy (P : Program) (t e : TypeId) {α : Type} (E : Enc α) : Prop where
  ut : P.underlying t = some (.slice e)
  inf : ∃ i z, P.info? e = some i ∧ i.zero = some z ∧ i.size = E.sz ∧ z.cells.size = E.sz ∧ i.bytes ≤ 1024
theorem SlTy.mk' {P : Program} {t e : TypeId} {α : Type} {E : Enc α} (z : Value) (by_ : Nat) (hu : P.underlying t = some (.slice e)) (h : (P.info? e).map (fun i => (i.zero, i.size, i.bytes)) = some (some z, E.sz, by_)) (hz : z.cells.size = E.sz) (hb : by_ ≤ 1024) : SlTy P t e E := by
  obtain ⟨i, hi, h1, h2, h3⟩ := info_parts h
  exact ⟨hu, i, z, hi, h1, h2, hz, by omega⟩
theorem RdAt.len {α : Type} {E : Enc α} {w : World} {v : Value} {xs : List α} {b off : Nat} (h : RdAt E w v xs b off) {P : Program} (t ty : TypeId) {e : TypeId} (ht : P.underlying t = some (.slice e)) (W : World) :
    Sem.run P (Builtin.len_ #[t] ty #[v]) W = .ok (.int .i64 xs.length) W := by
  obtain ⟨⟨ao, cap, rfl, _⟩, _⟩ := h
  simp [Builtin.len_, run_underlying ht, goInt]
theorem Rd.len_le {α : Type} {E : Enc α} {w : World} {v : Value} {xs : List α} (h : Rd E w v xs) : xs.length ≤ 9223372036854775807 := by
  obtain ⟨b, off, ⟨ao, cap, rfl, _, h1, h2⟩, _⟩ := h
  unfold maxLen at h2; omega

theorem RdAt.idx {α : Type} {E : Enc α} {w : World} {v : Value} {xs : List α} {b off : Nat} (h : RdAt E w v xs b off) {P : Program} {t e : TypeId} (hT : SlTy P t e E) (k : Nat) (hk : k < xs.length) (W : World) :
    Sem.run P (Instr.indexAt t v (.int .i64 k)) W = .ok (.pointer (some ⟨b, off + k * E.sz, none⟩)) W := by
  obtain ⟨⟨ao, cap, rfl, ha, _⟩, _⟩ := h
  have hne : xs ≠ [] := by rintro rfl; simp at hk
  obtain ⟨ht, i, z, hi, hz, hsz, hzc, hby⟩ := hT
  have he : P.elem t = e := by simp [Program.elem, ht]
  rw [ha hne, run_indexAt_slice (h := by rw [he]; exact ht), if_pos ⟨by omega, by omega⟩]
  simp [he, sizeOf, typeInfo, hi, hsz, Addr.add]

theorem RdAt.base {α : Type} {E : Enc α} {w : World} {g n c b off : Nat} {xs : List α} (h : RdAt E w (.slice (some ⟨g, 0, none⟩) n c) xs b off) (hne : xs ≠ []) : b = g ∧ off = 0 := by
  obtain ⟨ao, cap, hv, ha, _⟩ := h.val
  injection hv with e1 _ _
  rw [ha hne] at e1
  injection e1 with e1; injection e1 with e1 e2
  exact ⟨e1.symm, e2.symm⟩

/-- The slice v is the program's own list xs: nil, or a row of its own that begins at 0. -/
def Own {α : Type} (E : Enc α) (e : TypeId) (w : World) (v : Value) (xs : List α) : Prop :=
  (v = .slice none 0 0 ∧ xs = []) ∨
  ∃ g cap cur, v = .slice (some ⟨g, 0, none⟩) xs.length cap ∧ w.heap[g]? = some (.cells cur e (0, 0)) ∧ xs.length ≤ cap ∧ cap ≤ maxLen ∧ cur.size = cap * E.sz ∧ cur.toList.take (xs.length * E.sz) = xs.flatMap E.enc
theorem Own.nil {α : Type} (E : Enc α) (e : TypeId) (w : World) : Own E e w (.slice none 0 0) [] := .inl ⟨rfl, rfl⟩
theorem Own.row {α : Type} {E : Enc α} {e : TypeId} {w : World} {v : Value} {xs : List α} (h : Own E e w v xs) : w.ownsRow 0 e E.sz v xs.length (xs.flatMap E.enc) := by
  refine ⟨flat_len E xs, ?_⟩
  rcases h with ⟨rfl, rfl⟩ | ⟨g, cap, cur, rfl, h1, h2, h3, h4, h5⟩
  · exact .inl ⟨rfl, rfl⟩
  · exact .inr ⟨g, cap, cur, rfl, Nat.zero_le _, h1, h2, h3, h4, h5⟩
theorem Own.lt {α : Type} {E : Enc α} {e : TypeId} {w : World} {v : Value} {xs : List α} (h : Own E e w v xs) : ∀ x ∈ sblk v, x < w.heap.size := by
  intro x hx
  rcases h with ⟨rfl, rfl⟩ | ⟨g, cap, cur, rfl, h1, _⟩
  · simp [sblk] at hx
  · simp [sblk] at hx; subst hx; exact (Array.getElem?_eq_some_iff.1 h1).1
theorem Own.keep {α : Type} {E : Enc α} {e : TypeId} {w w' : World} {v : Value} {xs : List α} (h : Own E e w v xs) {S : List Nat} (hf : Fr S w w') (hd : ∀ x ∈ sblk v, x ∉ S) : Own E e w' v xs := by
  have hl := h.lt
  rcases h with h | ⟨g, cap, cur, rfl, h1, h2⟩
  · exact .inl h
  · refine .inr ⟨g, cap, cur, rfl, ?_, h2⟩
    rw [hf.block g (hl g (by simp [sblk])) (hd g (by simp [sblk]))]; exact h1
theorem Own.keep0 {α : Type} {E : Enc α} {e : TypeId} {w w' : World} {v : Value} {xs : List α} (h : Own E e w v xs) (hf : Fr [] w w') : Own E e w' v xs := h.keep hf (by simp)
theorem Own.rd {α : Type} {E : Enc α} {e : TypeId} {w : World} {v : Value} {xs : List α} (h : Own E e w v xs) : ∃ g, RdAt E w v xs g 0 := by
  rcases h with ⟨rfl, rfl⟩ | ⟨g, cap, cur, rfl, h1, h2, h3, h4, h5⟩
  · exact ⟨0, ⟨none, 0, rfl, by simp, by simp, by simp⟩, by simp, by simp⟩
  · refine ⟨g, ⟨_, cap, rfl, fun _ => rfl, h2, h3⟩, fun i x hx j hj => ?_, fun _ => (Array.getElem?_eq_some_iff.1 h1).1⟩
    have hf := flat_at E xs i x hx j hj
    have hi : i < xs.length := (List.getElem?_eq_some_iff.1 hx).1
    have hlt : i * E.sz + j < xs.length * E.sz := by
      calc i * E.sz + j < i * E.sz + E.sz := by omega
        _ = (i + 1) * E.sz := by rw [Nat.add_mul]; omega
        _ ≤ xs.length * E.sz := Nat.mul_le_mul_right _ hi
    rw [← h5, List.getElem?_take, if_pos hlt] at hf
    rw [cell_of_row w g _ cur e (0, 0) h1, Nat.zero_add, ← hf]; simp

/-- 'append(s, x)' of one element that lies in the newest block -/
theorem wpList_app {P : Program} {α : Type} (E : Enc α) {w : World} {ops : Array Oper} {rest : List Oper} {o : Oper} {a : Act} {Q : Exit → Act → World → Prop} {t e : TypeId} (hT : SlTy P t e E)
    (hgd : o.guard = none) (s x : Operand) (ho : o.op = .call { callee := .builtin .append, args := #[s, x], argTypes := #[t, t] })
    {v : Value} {xs : List α} (hown : Own E e w v xs) (y : α) (hs : a.eval s = v) (hx : a.eval x = .slice (some ⟨w.heap.size, 0, none⟩) 1 1) (hlen : xs.length < 4294967296)
    (h : ∀ v' w', Own E e w' v' (xs ++ [y]) → Fr (sblk v) w w' → (sblk v' = sblk v ∨ ∃ g, sblk v' = [g] ∧ w.heap.size ≤ g) → v' ≠ .slice none 0 0 → wpList P ops Q rest (a.put o.dst v') w')
    {cs : Array Value} (hcs : cs.toList = E.enc y) : wpList P ops Q (o :: rest) a (w.alloc (.cells cs e)) := by
  obtain ⟨ht, i, z, hi, hz, hsz, hzc, hby⟩ := hT
  refine wpList_plain hgd fun K hK => ?_
  have hnews : ∀ j u, (E.enc y)[j]? = some u → (w.alloc (.cells cs e)).cell? ((⟨w.heap.size, 0, none⟩ : Addr).add j) = some u := by
    intro j u hu
    have : (⟨w.heap.size, 0, none⟩ : Addr).add j = ⟨w.heap.size, j, none⟩ := by unfold Addr.add; split <;> simp_all
    rw [this, World.cell?_alloc_new, ← hu, ← hcs]; simp
  have hl : (E.enc y).length = 1 * E.sz := by rw [E.len]; omega
  have hfa : Fr [] w (w.alloc (.cells cs e)) := (Fr.refl _ _).alloc _
  have hown1 := hown.keep0 hfa
  obtain ⟨v', w', hr, h2, h3, h4⟩ := run_append_own (P := P) (w.alloc (.cells cs e)) 0 t o.type e i z E.sz i.bytes ht hi hz hsz rfl hzc E.pos v xs.length _ hown1.row
    ⟨w.heap.size, 0, none⟩ 1 1 (E.enc y) hl hnews (E.one y) (by unfold maxLen; omega) (by
      have : (xs.length + 1) * i.bytes ≤ 4294967296 * 1024 := Nat.mul_le_mul (by omega) hby
      omega) (Nat.zero_le _)
  have hwhere : sblk v' = sblk v ∨ ∃ g, sblk v' = [g] ∧ w.heap.size ≤ g := by
    rcases hown1 with ⟨rfl, rfl⟩ | ⟨g, cap, cur, rfl, g1, g2, g3, g4, g5⟩
    · have hr2 := run_append_nil (P := P) (w.alloc (.cells cs e)) t o.type e i z ht hi hz ⟨w.heap.size, 0, none⟩ 1 1 (E.enc y) (by rw [hsz]; exact hl) hnews (by omega) (by omega) (by omega)
      rw [hr2] at hr
      injection hr with e1 e2
      subst e1
      exact .inr ⟨_, rfl, by simp⟩
    · by_cases hroom : xs.length + 1 ≤ cap
      · have hfit : xs.length * i.size + (E.enc y).length ≤ cur.size := by rw [hsz, hl, g4, ← Nat.add_mul]; exact Nat.mul_le_mul_right _ hroom
        have hr2 := run_append_room (P := P) (w.alloc (.cells cs e)) t o.type e i ht hi g xs.length cap cur g1 ⟨w.heap.size, 0, none⟩ 1 1 (E.enc y) (by rw [hsz]; exact hl) hnews (E.one y) hroom hfit
        rw [hr2] at hr
        injection hr with e1 e2
        subst e1
        exact .inl rfl
      · have hr0 : Own E e (w.alloc (.cells cs e)) (.slice (some ⟨g, 0, none⟩) xs.length cap) xs := .inr ⟨g, cap, cur, rfl, g1, g2, g3, g4, g5⟩
        have hr2 := run_append_grow (P := P) (w.alloc (.cells cs e)) t o.type e i z ht hi hz ⟨g, 0, none⟩ xs.length cap (xs.flatMap E.enc) (by rw [hsz]; exact flat_len E xs) (hr0.row.cells (g := g) rfl) ⟨w.heap.size, 0, none⟩ 1 1 (E.enc y) (by rw [hsz]; exact hl) hnews (by omega) (by omega)
          (growslice_fits (by omega) (by
            have : (xs.length + 1) * i.bytes ≤ 4294967296 * 1024 := Nat.mul_le_mul (by omega) hby
            omega))
        rw [hr2] at hr
        injection hr with e1 e2
        subst e1
        exact .inr ⟨_, rfl, by simp⟩
  have hown' : Own E e w' v' (xs ++ [y]) := by
    rcases h2.2 with ⟨_, hn⟩ | ⟨g, cap, cur, q1, _, q2, q3, q4, q5, q6⟩
    · omega
    · exact .inr ⟨g, cap, cur, by simpa using q1, q2, by simpa using q3, q4, q5, by simpa [List.flatMap_append] using q6⟩
  have hfr : Fr (sblk v) w w' := by
    refine (hfa.mono (by simp)).trans (Fr.grown h3) (fun x hx => .inl ?_)
    cases v <;> simp_all [Value.ownBlock, sblk]
    rename_i ao _ _; cases ao <;> simp_all
  unfold Oper.wp execOp
  simp only [ho, resolve, invoke, builtin, Sem.run_bind, Sem.run_pure, Result.andThen_ok, List.map_toArray, List.map_cons, List.map_nil, hs, hx, hr]
  refine hK _ _ (h v' w' hown' hfr hwhere ?_)
  intro hv
  have := h4.1 hv
  omega

/-- a row that was made at once -/
theorem Own.lit {α : Type} {E : Enc α} {e : TypeId} {w : World} {g : Nat} {cur : Array Value} {xs : List α} (h : w.heap[g]? = some (.cells cur e (0, 0))) (hc : cur.toList = xs.flatMap E.enc) (hl : xs.length ≤ maxLen) : Own E e w (.slice (some ⟨g, 0, none⟩) xs.length xs.length) xs := by
  refine .inr ⟨g, xs.length, cur, rfl, h, Nat.le_refl _, hl, ?_, ?_⟩
  · rw [← Array.length_toList, hc, flat_len]
  · rw [hc, List.take_of_length_le (by rw [flat_len]; exact Nat.le_refl _)]
theorem made_flat {α : Type} (E : Enc α) (z : Array Value) (y : α) (n : Nat) (hz : z.toList = E.enc y) : (madeCells z (n * E.sz)).toList = (List.replicate n y).flatMap E.enc := by
  have hp := E.pos
  have hzs : z.size = E.sz := by rw [← Array.length_toList, hz, E.len]
  apply List.ext_getElem?
  intro m
  by_cases hm : m < n * E.sz
  · have hd : m / E.sz < n := Nat.div_lt_of_lt_mul (by rw [Nat.mul_comm]; exact hm)
    have hf := flat_at E (List.replicate n y) (m / E.sz) y (by rw [List.getElem?_replicate, if_pos hd]) (m % E.sz) (Nat.mod_lt _ hp)
    rw [show m / E.sz * E.sz + m % E.sz = m by rw [Nat.mul_comm]; exact Nat.div_add_mod m E.sz] at hf
    have hml : m % E.sz < z.size := by rw [hzs]; exact Nat.mod_lt _ hp
    rw [hf, ← hz]
    simp [madeCells, hm, hzs, Nat.mod_lt _ hp]
  · rw [List.getElem?_eq_none (by simp [madeCells]; omega), List.getElem?_eq_none (by rw [flat_len]; simp; omega)]
/-- 'make([]T, n)' -/
theorem wpList_mk {P : Program} {α : Type} (E : Enc α) {w : World} {ops : Array Oper} {rest : List Oper} {o : Oper} {a : Act} {Q : Exit → Act → World → Prop} {t e : TypeId} (hT : SlTy P t e E)
    (hgd : o.guard = none) (s x : Operand) (ho : o.op = .makeSlice t s x) (n : Nat) (y : α) (hs : a.eval s = .int .i64 n) (hx : a.eval x = .int .i64 n) (hlen : n < 4294967296)
    {zv : Value} (hzv : (P.info? e).map (fun i => i.zero) = some (some zv)) (hy : zv.cells.toList = E.enc y)
    (h : ∀ w', Own E e w' (.slice (some ⟨w.heap.size, 0, none⟩) n n) (List.replicate n y) → Fr [] w w' → w.heap.size < w'.heap.size → wpList P ops Q rest (a.put o.dst (.slice (some ⟨w.heap.size, 0, none⟩) n n)) w') : wpList P ops Q (o :: rest) a w := by
  obtain ⟨ht, i, z, hi, hz, hsz, hzc, hby⟩ := hT
  have hyz : z.cells.toList = E.enc y := by
    rw [hi, Option.map_some, hz] at hzv
    injection hzv with hzv; injection hzv with hzv; rw [hzv]; exact hy
  refine wpList_make_full w hgd s x t ho 0 e i z E.sz ht hi hz hsz .i64 .i64 n n n hs hx rfl rfl ?_ (by unfold maxLen; omega) (Nat.zero_le _) ?_
  · have : i.bytes * n ≤ 1024 * 4294967296 := Nat.mul_le_mul hby (by omega)
    omega
  · intro w' hown hg
    have h2 := hown.2
    have hfr := Fr.grown hg
    rcases h2 with ⟨q, _⟩ | ⟨g, cap, cur, q1, _, q2, q3, q4, q5, q6⟩
    · cases q
    · injection q1 with e1 e2 e3
      injection e1 with e1; injection e1 with e1
      subst e1; subst e3
      refine h w' (.inr ⟨w.heap.size, n, cur, by simp, q2, by simp, q4, q5, ?_⟩) hfr (Array.getElem?_eq_some_iff.1 q2).1
      rw [List.length_replicate, q6]
      exact made_flat E z.cells y n hyz
/-- the slice's block is B or later -/
def New (B : Nat) (v : Value) : Prop := ∀ x ∈ sblk v, B ≤ x
theorem New.nil (B : Nat) : New B (.slice none 0 0) := by simp [New, sblk]
theorem New.step {B : Nat} {v v' : Value} {w : World} (h : New B v) (hB : B ≤ w.heap.size) (hw : sblk v' = sblk v ∨ ∃ g, sblk v' = [g] ∧ w.heap.size ≤ g) : New B v' := by
  intro x hx
  rcases hw with hw | ⟨g, hw, hg⟩
  · rw [hw] at hx; exact h x hx
  · rw [hw] at hx; simp at hx; omega
theorem Fr.new {w0 w w' : World} {v : Value} (h : Fr [] w0 w) (k : Fr (sblk v) w w') (n : New w0.heap.size v) : Fr [] w0 w' := h.trans k (fun x hx => .inr (n x hx))

theorem set_fill {α : Type} (A : List α) (y z : α) {k n : Nat} (hA : A.length = k) (hk : k < n) : (A ++ List.replicate (n - k) z).set k y = A ++ [y] ++ List.replicate (n - (k + 1)) z := by
  rw [List.set_append_right _ _ (by omega), hA, Nat.sub_self, show n - k = (n - (k + 1)) + 1 by omega, List.replicate_succ, List.set_cons_zero, List.append_assoc]
  rfl
/-- one element of one cell is stored -/
theorem Own.slot {α : Type} {E : Enc α} {e : TypeId} {w : World} {g n cap : Nat} {xs : List α} (h : Own E e w (.slice (some ⟨g, 0, none⟩) n cap) xs) (hs : E.sz = 1) {k : Nat} (hk : k < xs.length) :
    (∃ u, w.cell? ⟨g, k, none⟩ = some u) ∧ w.frozen? ⟨g, k, none⟩ = false := by
  rcases h with ⟨h, _⟩ | ⟨g', cap', cur, hv, h1, h2, h3, h4, h5⟩
  · cases h
  · injection hv with e1 e2 e3
    injection e1 with e1; injection e1 with e1
    subst e1
    rw [hs, Nat.mul_one] at h4
    refine ⟨⟨cur[k]'(by omega), ?_⟩, frozen_of_row w g k cur e h1⟩
    rw [cell_of_row w g k cur e (0, 0) h1]; simp
theorem heap_setCell_same {w : World} {g k : Nat} {cur : Array Value} {e : TypeId} {fz : Nat × Nat} (h : w.heap[g]? = some (.cells cur e fz)) (u : Value) : (w.setCell ⟨g, k, none⟩ u).heap[g]? = some (.cells (cur.setIfInBounds k u) e fz) := by
  simp only [World.setCell, Array.getElem?_modify, h, Option.map_some]
  rfl
theorem Own.set1 {α : Type} {E : Enc α} {e : TypeId} {w : World} {g n cap : Nat} {xs : List α} (h : Own E e w (.slice (some ⟨g, 0, none⟩) n cap) xs) (hs : E.sz = 1) (k : Nat) (y : α) (u : Value) (hu : E.enc y = [u]) :
    Own E e (w.setCell ⟨g, k, none⟩ u) (.slice (some ⟨g, 0, none⟩) n cap) (xs.set k y) := by
  rcases h with ⟨h, _⟩ | ⟨g', cap', cur, hv, h1, h2, h3, h4, h5⟩
  · cases h
  · injection hv with e1 e2 e3
    injection e1 with e1; injection e1 with e1
    subst e1; subst e2; subst e3
    refine .inr ⟨g, cap, cur.setIfInBounds k u, by simp, heap_setCell_same h1 u, by simpa using h2, h3, by simpa using h4, ?_⟩
    rw [hs, Nat.mul_one] at h5 ⊢
    have key : ∀ (ys : List α) (j : Nat), (ys.set j y).flatMap E.enc = (ys.flatMap E.enc).set j u := by
      intro ys
      induction ys with
      | nil => intro j; simp
      | cons x ys ih =>
        intro j
        have hx : ∃ v, E.enc x = [v] := by
          have := E.len x; rw [hs] at this
          match hq : E.enc x, this with
          | [v], _ => exact ⟨v, rfl⟩
        obtain ⟨v, hx⟩ := hx
        cases j with
        | zero => simp [hu, hx]
        | succ j => simp [ih, hx]
    rw [key, ← h5, List.length_set, Array.toList_setIfInBounds, List.take_set]
end Go.Proofs.YtkdmodanfcpcfaaDoor
