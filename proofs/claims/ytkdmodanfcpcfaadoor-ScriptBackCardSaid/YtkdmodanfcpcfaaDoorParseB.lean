/- DERIVED. Chapter 42: Parse, of the program: what lies between two rounds. -/
import Derived.Test.YtkdmodanfcpcfaaDoorEventOf
import Derived.Test.YtkdmodanfcpcfaaDoorPlanOf
import Derived.Test.YtkdmodanfcpcfaaDoorApp
namespace Go.Proofs.YtkdmodanfcpcfaaDoor
open Go.RowKit Go.Shelf

theorem bf_alloc {w : World} {g : Nat} {cs : List Value} (o : Obj) (h : BF w g cs) : BF (w.alloc o) g cs := h.keep0 ((Fr.refl _ _).alloc _)
theorem bf_new {w : World} {n : Nat} (cs : Array Value) (t : TypeId) (h : w.heap.size = n) : BF (w.alloc (.cells cs t)) n cs.toList := by rw [← h]; exact BF.new w cs t
theorem BF.at {w : World} {g : Nat} {v : Value} {cs : List Value} (h : BF w g (v :: cs)) : CellsAt w g := cellsAt_of_cell (a := ⟨g, 0, none⟩) (h.cell 0)
theorem BF.pb {w : World} {g : Nat} {p : PlanA} (h : BF w g [.int .i64 p.threads, .int .i64 p.slots, .int .i64 p.levels, .int .u64 p.gen]) : PB w g p :=
  ⟨h.cell 0, h.cell 1, h.cell 2, h.cell 3, h.fz⟩
theorem PB.at {w : World} {g : Nat} {p : PlanA} (h : PB w g p) : CellsAt w g := cellsAt_of_cell h.c0

/-- the blocks of Parse -/
structure Blk where
  n : Nat
  (g2 g3 g4 g5 g6 g7 g8 g9 B : Nat)
  h2 : n ≤ g2
  h3 : g2 < g3
  h4 : g3 < g4
  h5 : g4 < g5
  h6 : g5 < g6
  h7 : g6 < g7
  h8 : g7 < g8
  h9 : g8 < g9
  hB : g9 < B
/-- the results' cells, as they were laid -/
structure Res (k : Blk) (W : World) : Prop where
  r2 : PB W k.g2 noPlan
  r3 : BF W k.g3 [.slice none 0 0]
  r4 : BF W k.g4 [.int .i64 0]
  r5 : BF W k.g5 [.int .i64 0]
theorem Res.keep {k : Blk} {W W' : World} (h : Res k W) {S : List Nat} (hf : Fr S W W') (hs : ∀ x ∈ S, k.g5 < x) : Res k W' := by
  have := k.h3; have := k.h4; have := k.h5
  exact ⟨h.r2.keep hf (fun hm => by have := hs _ hm; omega), h.r3.keep hf (fun hm => by have := hs _ hm; omega), h.r4.keep hf (fun hm => by have := hs _ hm; omega), h.r5.keep hf (fun hm => by have := hs _ hm; omega)⟩
/-- between two rounds -/
structure PI (k : Blk) (s : List UInt8) (R : ScriptR) (w W : World) (t : List UInt8) (o : Option PlanA) (l : List EventA) (j : Nat) (v : Value) : Prop where
  go : scriptGo t o l j = R
  len : j + t.length ≤ s.length
  ll : l.length ≤ j
  right : ∀ p, o = some p → p.right = true
  c6 : PB W k.g6 (o.getD noPlan)
  c7 : BF W k.g7 [v]
  own : Own encE 49 W v l
  new : New (k.B + 1) v
  c8 : BF W k.g8 [.int .i64 j]
  c9 : BF W k.g9 [.int .i64 0]
  res : Res k W
  fr : Fr [] w W
  bl : k.B < W.heap.size
/-- where a round has left -/
structure PX (k : Blk) (R : ScriptR) (w W : World) (line e : Nat) : Prop where
  bad : R = .bad line e
  r2 : PB W k.g2 noPlan
  r3 : BF W k.g3 [.slice none 0 0]
  r4 : BF W k.g4 [.int .i64 line]
  r5 : BF W k.g5 [.int .i64 e]
  fr : Fr [] w W
def PIx (k : Blk) (s : List UInt8) (R : ScriptR) (w : World) (t : List UInt8) (W : World) : Prop := ∃ o l j v, PI k s R w W t o l j v
def PXx (k : Blk) (R : ScriptR) (w : World) (c : Code) (W : World) : Prop := c = .ret ∧ ∃ line e, PX k R w W line e

theorem pi_abd (k : Blk) (s : List UInt8) (R : ScriptR) (w : World) (N : Nat) (hN : w.heap.size ≤ N) (hn : k.n = w.heap.size) : Abd k.B N (PIx k s R w) := by
  rintro t W W' x ⟨o, l, j, v, h⟩ hf hx
  have := k.h2; have := k.h3; have := k.h4; have := k.h5; have := k.h6; have := k.h7; have := k.h8; have := k.h9; have := k.hB
  have ne : ∀ g, g < k.B → CellsAt W g → g ∉ [x] := by
    intro g hg hc hm
    simp at hm
    subst hm
    rcases hx with hx | ⟨_, hx⟩
    · omega
    · exact hx hc
  refine ⟨o, l, j, v, h.go, h.len, h.ll, h.right, h.c6.keep hf (ne _ (by omega) h.c6.at), h.c7.keep hf (ne _ (by omega) h.c7.at), ?_, h.new, h.c8.keep hf (ne _ (by omega) h.c8.at), h.c9.keep hf (ne _ (by omega) h.c9.at), ⟨h.res.r2.keep hf (ne _ (by omega) h.res.r2.at), h.res.r3.keep hf (ne _ (by omega) h.res.r3.at), h.res.r4.keep hf (ne _ (by omega) h.res.r4.at), h.res.r5.keep hf (ne _ (by omega) h.res.r5.at)⟩, h.fr.trans hf (fun y hy => .inr ?_), Nat.lt_of_lt_of_le h.bl hf.size⟩
  · rcases h.own with ho | ⟨g, cap, cur, hv, h1, h2⟩
    · exact .inl ho
    · have hgB : k.B + 1 ≤ g := h.new g (by rw [hv]; simp [sblk])
      refine .inr ⟨g, cap, cur, hv, ?_, h2⟩
      rw [hf.block g (Array.getElem?_eq_some_iff.1 h1).1 ?_]
      · exact h1
      · intro hm
        simp at hm
        subst hm
        rcases hx with hx | ⟨_, hx⟩
        · omega
        · exact hx ⟨_, h1, rfl⟩
  · simp at hy
    subst hy
    rcases hx with hx | ⟨hx, _⟩ <;> omega
theorem px_abd (k : Blk) (R : ScriptR) (w : World) (N : Nat) (hN : w.heap.size ≤ N) (hn : k.n = w.heap.size) : Abd k.B N (PXx k R w) := by
  rintro c W W' x ⟨hc, line, e, h⟩ hf hx
  have := k.h2; have := k.h3; have := k.h4; have := k.h5; have := k.h6; have := k.h7; have := k.h8; have := k.h9; have := k.hB
  have ne : ∀ g, g < k.B → CellsAt W g → g ∉ [x] := by
    intro g hg hc hm
    simp at hm
    subst hm
    rcases hx with hx | ⟨_, hx⟩
    · omega
    · exact hx hc
  refine ⟨hc, line, e, h.bad, h.r2.keep hf (ne _ (by omega) h.r2.at), h.r3.keep hf (ne _ (by omega) h.r3.at), h.r4.keep hf (ne _ (by omega) h.r4.at), h.r5.keep hf (ne _ (by omega) h.r5.at), h.fr.trans hf (fun y hy => .inr ?_)⟩
  simp at hy
  subst hy
  rcases hx with hx | ⟨hx, _⟩ <;> omega

/-- a round that ends the function: the results are laid -/
theorem end_ret {k : Blk} {s : List UInt8} {R : ScriptR} {w W X : World} {nx : List UInt8} {a : Act} {S : List Nat} (hf : Fr S W X) (hS : ∀ x ∈ S, x ≠ k.B ∧ CellsAt W x) (h0 : Res k W) (hr : Res k X) (fr : Fr [] w X) (hn : k.n = w.heap.size) {line e : Nat} (hb : R = .bad line e) {line' e' : Int} (hl : line' = (line : Int)) (he : e' = (e : Int)) :
    stPost k.B (PIx k s R w) (PXx k R w) nx W Exit.ret a
      ((((((((X.setCell ⟨k.g2, 0, none⟩ (.int .i64 0)).setCell ⟨k.g2, 1, none⟩ (.int .i64 0)).setCell ⟨k.g2, 2, none⟩ (.int .i64 0)).setCell ⟨k.g2, 3, none⟩ (.int .u64 0)).setCell ⟨k.g3, 0, none⟩ (.slice none 0 0)).setCell ⟨k.g4, 0, none⟩ (.int .i64 line')).setCell ⟨k.g5, 0, none⟩ (.int .i64 e')).drew) := by
  subst hl he
  have := k.h2; have := k.h3; have := k.h4; have := k.h5; have := k.h6; have := k.h7; have := k.h8; have := k.h9; have := k.hB
  have f2 := (Fr.refl [k.g2] X).setP (g := k.g2) (.inl (by simp)) (.int .i64 0) (.int .i64 0) (.int .i64 0) (.int .u64 0)
  have c2 := hr.r2.setAll noPlan
  obtain ⟨X2, hX2⟩ : ∃ X2, (((X.setCell ⟨k.g2, 0, none⟩ (.int .i64 0)).setCell ⟨k.g2, 1, none⟩ (.int .i64 0)).setCell ⟨k.g2, 2, none⟩ (.int .i64 0)).setCell ⟨k.g2, 3, none⟩ (.int .u64 0) = X2 := ⟨_, rfl⟩
  have c2' : PB X2 k.g2 noPlan := by rw [← hX2]; exact c2
  rw [hX2] at f2 ⊢
  have f3 := (Fr.refl [k.g3] X2).setCell (p := ⟨k.g3, 0, none⟩) (.inl (by simp)) (.slice none 0 0)
  have c3 := (hr.r3.keep f2 (by simp; omega)).set 0 (by simp) (.slice none 0 0)
  have c23 := c2'.keep f3 (by simp; omega)
  have c4a := (hr.r4.keep f2 (by simp; omega)).keep f3 (by simp; omega)
  have c5a := (hr.r5.keep f2 (by simp; omega)).keep f3 (by simp; omega)
  generalize X2.setCell ⟨k.g3, 0, none⟩ (.slice none 0 0) = X3 at *
  have f4 := (Fr.refl [k.g4] X3).setCell (p := ⟨k.g4, 0, none⟩) (.inl (by simp)) (.int .i64 line)
  have c4 := c4a.set 0 (by simp) (.int .i64 line)
  have c24 := c23.keep f4 (by simp; omega)
  have c34 := c3.keep f4 (by simp; omega)
  have c5b := c5a.keep f4 (by simp; omega)
  generalize X3.setCell ⟨k.g4, 0, none⟩ (.int .i64 line) = X4 at *
  have f5 := (Fr.refl [k.g5] X4).setCell (p := ⟨k.g5, 0, none⟩) (.inl (by simp)) (.int .i64 e)
  have c5 := c5b.set 0 (by simp) (.int .i64 e)
  have c25 := c24.keep f5 (by simp; omega)
  have c35 := c34.keep f5 (by simp; omega)
  have c45 := c4.keep f5 (by simp; omega)
  generalize X4.setCell ⟨k.g5, 0, none⟩ (.int .i64 e) = X5 at *
  have fall : Fr [k.g2, k.g3, k.g4, k.g5] X X5 := (((f2.mono (by simp)).trans f3 (by simp)).trans f4 (by simp)).trans f5 (by simp)
  have fd : Fr [] X5 X5.drew := (Fr.refl [] X5).drew
  have ft : Fr (S ++ [k.g2, k.g3, k.g4, k.g5]) W X5 := (hf.mono (fun x hx => .inl (List.mem_append_left _ hx))).trans fall (fun x hx => .inl (List.mem_append_right _ hx))
  refine ⟨S ++ [k.g2, k.g3, k.g4, k.g5], ft.drew, fun x hx => ?_, rfl, line, e, hb, c25.keep0 fd, c35.keep0 fd, c45.keep0 fd, c5.keep0 fd, (fr.trans fall (fun x hx => .inr ?_)).drew⟩
  · rcases List.mem_append.1 hx with hx | hx
    · exact hS x hx
    · simp at hx
      rcases hx with rfl | rfl | rfl | rfl
      · exact ⟨by omega, h0.r2.at⟩
      · exact ⟨by omega, h0.r3.at⟩
      · exact ⟨by omega, h0.r4.at⟩
      · exact ⟨by omega, h0.r5.at⟩
  · simp at hx
    rcases hx with rfl | rfl | rfl | rfl <;> omega

/-- within a round: the line is counted -/
structure PJ (k : Blk) (w W X : World) (o : Option PlanA) (l : List EventA) (j : Nat) (v : Value) : Prop where
  c6 : PB X k.g6 (o.getD noPlan)
  c7 : BF X k.g7 [v]
  own : Own encE 49 X v l
  new : New (k.B + 1) v
  c8 : BF X k.g8 [.int .i64 ((j : Int) + 1)]
  c9 : BF X k.g9 [.int .i64 0]
  res : Res k X
  fr : Fr [] w X
  fs : Fr [k.g8] W X
theorem PJ.keep0 {k : Blk} {w W X Y : World} {o : Option PlanA} {l : List EventA} {j : Nat} {v : Value} (h : PJ k w W X o l j v) (f : Fr [] X Y) : PJ k w W Y o l j v :=
  ⟨h.c6.keep0 f, h.c7.keep0 f, h.own.keep0 f, h.new, h.c8.keep0 f, h.c9.keep0 f, h.res.keep f (by simp), h.fr.trans0 f, h.fs.trans0 f⟩
theorem PJ.facts {k : Blk} {w W X : World} {o : Option PlanA} {l : List EventA} {j : Nat} {v : Value} (h : PJ k w W X o l j v) :
    (X.cell? ⟨k.g8, 0, none⟩ = some (.int .i64 ((j : Int) + 1)) ∧ X.frozen? ⟨k.g8, 0, none⟩ = false) ∧ (X.cell? ⟨k.g9, 0, none⟩ = some (.int .i64 0) ∧ X.frozen? ⟨k.g9, 0, none⟩ = false) ∧ (X.cell? ⟨k.g7, 0, none⟩ = some v ∧ X.frozen? ⟨k.g7, 0, none⟩ = false) ∧
    (X.cell? ⟨k.g6, 0, none⟩ = some (.int .i64 (o.getD noPlan).threads) ∧ X.cell? ⟨k.g6, 1, none⟩ = some (.int .i64 (o.getD noPlan).slots) ∧ X.cell? ⟨k.g6, 2, none⟩ = some (.int .i64 (o.getD noPlan).levels) ∧ X.cell? ⟨k.g6, 3, none⟩ = some (.int .u64 (o.getD noPlan).gen)) ∧
    (X.frozen? ⟨k.g6, 0, none⟩ = false ∧ X.frozen? ⟨k.g6, 1, none⟩ = false ∧ X.frozen? ⟨k.g6, 2, none⟩ = false ∧ X.frozen? ⟨k.g6, 3, none⟩ = false) :=
  ⟨⟨h.c8.cell 0, h.c8.fz 0⟩, ⟨h.c9.cell 0, h.c9.fz 0⟩, ⟨h.c7.cell 0, h.c7.fz 0⟩, ⟨h.c6.c0, h.c6.c1, h.c6.c2, h.c6.c3⟩, h.c6.fz 0, h.c6.fz 1, h.c6.fz 2, h.c6.fz 3⟩
theorem Res.facts {k : Blk} {X : World} (h : Res k X) :
    (X.cell? ⟨k.g2, 0, none⟩ = some (.int .i64 0) ∧ X.cell? ⟨k.g2, 1, none⟩ = some (.int .i64 0) ∧ X.cell? ⟨k.g2, 2, none⟩ = some (.int .i64 0) ∧ X.cell? ⟨k.g2, 3, none⟩ = some (.int .u64 0)) ∧
    (X.frozen? ⟨k.g2, 0, none⟩ = false ∧ X.frozen? ⟨k.g2, 1, none⟩ = false ∧ X.frozen? ⟨k.g2, 2, none⟩ = false ∧ X.frozen? ⟨k.g2, 3, none⟩ = false) ∧
    (X.cell? ⟨k.g3, 0, none⟩ = some (.slice none 0 0) ∧ X.frozen? ⟨k.g3, 0, none⟩ = false) ∧ (X.cell? ⟨k.g4, 0, none⟩ = some (.int .i64 0) ∧ X.frozen? ⟨k.g4, 0, none⟩ = false) ∧ (X.cell? ⟨k.g5, 0, none⟩ = some (.int .i64 0) ∧ X.frozen? ⟨k.g5, 0, none⟩ = false) :=
  ⟨⟨h.r2.c0, h.r2.c1, h.r2.c2, h.r2.c3⟩, ⟨h.r2.fz 0, h.r2.fz 1, h.r2.fz 2, h.r2.fz 3⟩, ⟨h.r3.cell 0, h.r3.fz 0⟩, ⟨h.r4.cell 0, h.r4.fz 0⟩, h.r5.cell 0, h.r5.fz 0⟩
/-- a round that passes its line over -/
theorem end_pass {k : Blk} {s : List UInt8} {R : ScriptR} {w W : World} {t : List UInt8} {o : Option PlanA} {l : List EventA} {j : Nat} {v : Value} {a : Act} (h : PI k s R w W t o l j v) (hn : k.n = w.heap.size) (ht : t ≠ []) (hg : scriptGo (nextL t) o l (j + 1) = R) (X : World) (hj : PJ k w W X o l j v) :
    stPost k.B (PIx k s R w) (PXx k R w) (nextL t) W Exit.normal a X := by
  have hlt := nextL_lt ht
  have := k.h2; have := k.h3; have := k.h4; have := k.h5; have := k.h6; have := k.h7; have := k.h8; have := k.h9; have := k.hB
  refine ⟨[k.g8], hj.fs, fun x hx => ?_, o, l, j + 1, v, hg, by have := h.len; omega, by have := h.ll; omega, h.right, hj.c6, hj.c7, hj.own, hj.new, hj.c8, hj.c9, hj.res, hj.fr, Nat.lt_of_lt_of_le h.bl hj.fs.size⟩
  simp at hx
  subst hx
  exact ⟨by omega, h.c8.at⟩
theorem PI.count {k : Blk} {s : List UInt8} {R : ScriptR} {w W : World} {t : List UInt8} {o : Option PlanA} {l : List EventA} {j : Nat} {v : Value} (h : PI k s R w W t o l j v) (hn : k.n = w.heap.size) :
    PJ k w W (W.setCell ⟨k.g8, 0, none⟩ (.int .i64 ((j : Int) + 1))) o l j v := by
  have := k.h2; have := k.h3; have := k.h4; have := k.h5; have := k.h6; have := k.h7; have := k.h8; have := k.h9; have := k.hB
  have f := (Fr.refl [k.g8] W).setCell (p := ⟨k.g8, 0, none⟩) (.inl (by simp)) (.int .i64 ((j : Int) + 1))
  have c8 := h.c8.set 0 (by simp) (.int .i64 ((j : Int) + 1))
  generalize W.setCell ⟨k.g8, 0, none⟩ (.int .i64 ((j : Int) + 1)) = X at *
  exact ⟨h.c6.keep f (by simp; omega), h.c7.keep f (by simp; omega), h.own.keep f (fun x hx => by have := h.new x hx; simp; omega), h.new, c8, h.c9.keep f (by simp; omega), h.res.keep f (by simp; omega), h.fr.trans f (fun x hx => .inr (by simp at hx; subst hx; omega)), f⟩

/-- wherever a round may be: what it has turned -/
def Sv (k : Blk) (v : Value) : List Nat := [k.g6, k.g7, k.g8, k.g9] ++ sblk v
structure PK (k : Blk) (v : Value) (w W X : World) : Prop where
  fs : Fr (Sv k v) W X
  res : Res k X
  fr : Fr [] w X
theorem PJ.pk {k : Blk} {w W X : World} {o : Option PlanA} {l : List EventA} {j : Nat} {v : Value} (h : PJ k w W X o l j v) : PK k v w W X :=
  ⟨h.fs.mono (fun x hx => .inl (by simp at hx; subst hx; simp [Sv])), h.res, h.fr⟩
theorem PK.step {k : Blk} {v : Value} {w W X Y : World} {S : List Nat} (h : PK k v w W X) (hn : k.n = w.heap.size) (hv : New (k.B + 1) v) (hf : Fr S X Y) (hS : ∀ x ∈ S, x ∈ Sv k v ∨ W.heap.size ≤ x) (h5 : k.g5 < W.heap.size) (hw : w.heap.size ≤ W.heap.size) : PK k v w W Y := by
  have := k.h2; have := k.h3; have := k.h4; have := k.h5; have := k.h6; have := k.h7; have := k.h8; have := k.h9; have := k.hB
  have key : ∀ x ∈ S, k.g5 < x ∧ w.heap.size ≤ x := by
    intro x hx
    rcases hS x hx with hm | hm
    · rcases List.mem_append.1 hm with hm | hm
      · simp at hm
        rcases hm with rfl | rfl | rfl | rfl <;> omega
      · have := hv x hm; omega
    · omega
  exact ⟨h.fs.trans hf hS, h.res.keep hf (fun x hx => (key x hx).1), h.fr.trans hf (fun x hx => .inr (key x hx).2)⟩
theorem PI.cells {k : Blk} {s : List UInt8} {R : ScriptR} {w W : World} {t : List UInt8} {o : Option PlanA} {l : List EventA} {j : Nat} {v : Value} (h : PI k s R w W t o l j v) : ∀ x ∈ Sv k v, x ≠ k.B ∧ CellsAt W x := by
  have := k.h2; have := k.h3; have := k.h4; have := k.h5; have := k.h6; have := k.h7; have := k.h8; have := k.h9; have := k.hB
  intro x hx
  rcases List.mem_append.1 hx with hm | hm
  · simp at hm
    rcases hm with rfl | rfl | rfl | rfl
    · exact ⟨by omega, h.c6.at⟩
    · exact ⟨by omega, h.c7.at⟩
    · exact ⟨by omega, h.c8.at⟩
    · exact ⟨by omega, h.c9.at⟩
  · have hb := h.new x hm
    refine ⟨by omega, ?_⟩
    rcases h.own with ⟨rfl, _⟩ | ⟨g, cap, cur, rfl, h1, _⟩
    · simp [sblk] at hm
    · simp [sblk] at hm
      subst hm
      exact ⟨_, h1, rfl⟩
theorem end_ret' {k : Blk} {s : List UInt8} {R : ScriptR} {w W X : World} {t nx : List UInt8} {o : Option PlanA} {l : List EventA} {j : Nat} {v : Value} {a : Act} (h : PI k s R w W t o l j v) (hk : PK k v w W X) (hn : k.n = w.heap.size) {e : Nat} (hb : R = .bad (j + 1) e) {e' : Int} (he : e' = (e : Int)) :
    stPost k.B (PIx k s R w) (PXx k R w) nx W Exit.ret a
      ((((((((X.setCell ⟨k.g2, 0, none⟩ (.int .i64 0)).setCell ⟨k.g2, 1, none⟩ (.int .i64 0)).setCell ⟨k.g2, 2, none⟩ (.int .i64 0)).setCell ⟨k.g2, 3, none⟩ (.int .u64 0)).setCell ⟨k.g3, 0, none⟩ (.slice none 0 0)).setCell ⟨k.g4, 0, none⟩ (.int .i64 ((j : Int) + 1))).setCell ⟨k.g5, 0, none⟩ (.int .i64 e')).drew) :=
  end_ret hk.fs h.cells h.res hk.res hk.fr hn hb (by omega) he
/-- a round that has read the plan -/
theorem end_plan {k : Blk} {s : List UInt8} {R : ScriptR} {w W X : World} {t : List UInt8} {l : List EventA} {j : Nat} {v : Value} {a : Act} (h : PI k s R w W t none l j v) (hn : k.n = w.heap.size) (ht : t ≠ []) (q : PlanA) (hq : q.right = true) (hg : scriptGo (nextL t) (some q) l (j + 1) = R) (hj : PJ k w W X none l j v) :
    stPost k.B (PIx k s R w) (PXx k R w) (nextL t) W Exit.normal a ((((X.setCell ⟨k.g6, 0, none⟩ (.int .i64 q.threads)).setCell ⟨k.g6, 1, none⟩ (.int .i64 q.slots)).setCell ⟨k.g6, 2, none⟩ (.int .i64 q.levels)).setCell ⟨k.g6, 3, none⟩ (.int .u64 q.gen)) := by
  have hlt := nextL_lt ht
  have := k.h2; have := k.h3; have := k.h4; have := k.h5; have := k.h6; have := k.h7; have := k.h8; have := k.h9; have := k.hB
  have f6 := (Fr.refl [k.g6] X).setP (g := k.g6) (.inl (by simp)) (.int .i64 q.threads) (.int .i64 q.slots) (.int .i64 q.levels) (.int .u64 q.gen)
  have c6 := hj.c6.setAll q
  generalize (((X.setCell ⟨k.g6, 0, none⟩ (.int .i64 q.threads)).setCell ⟨k.g6, 1, none⟩ (.int .i64 q.slots)).setCell ⟨k.g6, 2, none⟩ (.int .i64 q.levels)).setCell ⟨k.g6, 3, none⟩ (.int .u64 q.gen) = Y at *
  have hs : Fr (Sv k v) W Y := (hj.pk.fs).trans f6 (fun x hx => .inl (by simp at hx; subst hx; simp [Sv]))
  refine ⟨Sv k v, hs, h.cells, some q, l, j + 1, v, hg, by have := h.len; omega, by have := h.ll; omega, fun p hp => by injection hp with hp; rw [← hp]; exact hq, c6, hj.c7.keep f6 (by simp; omega), hj.own.keep f6 (fun x hx => by have := hj.new x hx; simp; omega), hj.new, hj.c8.keep f6 (by simp; omega), hj.c9.keep f6 (by simp; omega), hj.res.keep f6 (by simp; omega), hj.fr.trans f6 (fun x hx => .inr (by simp at hx; subst hx; omega)), Nat.lt_of_lt_of_le h.bl hs.size⟩
/-- a round that has read an event -/
theorem end_event {k : Blk} {s : List UInt8} {R : ScriptR} {w W X Z : World} {t : List UInt8} {o : Option PlanA} {l : List EventA} {j : Nat} {v v' : Value} {e : EventA} {a : Act} (h : PI k s R w W t o l j v) (hn : k.n = w.heap.size) (ht : t ≠ []) (hg : scriptGo (nextL t) o (l ++ [e]) (j + 1) = R) (hj : PJ k w W X o l j v)
    (hO : Own encE 49 Z v' (l ++ [e])) (hf : Fr (sblk v) X Z) (hw : sblk v' = sblk v ∨ ∃ g, sblk v' = [g] ∧ X.heap.size ≤ g) :
    stPost k.B (PIx k s R w) (PXx k R w) (nextL t) W Exit.normal a (Z.setCell ⟨k.g7, 0, none⟩ v') := by
  have hlt := nextL_lt ht
  have := k.h2; have := k.h3; have := k.h4; have := k.h5; have := k.h6; have := k.h7; have := k.h8; have := k.h9; have := k.hB
  have nv : ∀ g, g ≤ k.B → g ∉ sblk v := fun g hg hm => by have := hj.new g hm; omega
  have new' : New (k.B + 1) v' := by
    intro x hx
    rcases hw with hw | ⟨g, hw, hg⟩
    · rw [hw] at hx; exact hj.new x hx
    · rw [hw] at hx; simp at hx; have := h.bl; have := hj.fs.size; omega
  have f7 := (Fr.refl [k.g7] Z).setCell (p := ⟨k.g7, 0, none⟩) (.inl (by simp)) v'
  have c7 := (hj.c7.keep hf (nv _ (by omega))).set 0 (by simp) v'
  have ow := hO.keep f7 (fun x hx => by have := new' x hx; simp; omega)
  generalize Z.setCell ⟨k.g7, 0, none⟩ v' = Y at *
  have hs : Fr (Sv k v) W Y := ((hj.pk.fs).trans hf (fun x hx => .inl (List.mem_append_right _ hx))).trans f7 (fun x hx => .inl (by simp at hx; subst hx; simp [Sv]))
  refine ⟨Sv k v, hs, h.cells, o, l ++ [e], j + 1, v', hg, by have := h.len; omega, by have := h.ll; simp; omega, h.right, (hj.c6.keep hf (nv _ (by omega))).keep f7 (by simp; omega), c7, ow, new', (hj.c8.keep hf (nv _ (by omega))).keep f7 (by simp; omega), (hj.c9.keep hf (nv _ (by omega))).keep f7 (by simp; omega), (hj.res.keep hf (fun x hx => by have := hj.new x hx; omega)).keep f7 (by simp; omega), (hj.fr.trans hf (fun x hx => .inr (by have := hj.new x hx; omega))).trans f7 (fun x hx => .inr (by simp at hx; subst hx; omega)), Nat.lt_of_lt_of_le h.bl hs.size⟩

theorem PJ.bad {k : Blk} {w W X : World} {o : Option PlanA} {l : List EventA} {j : Nat} {v : Value} (h : PJ k w W X o l j v) (n : Int) :
    Own encE 49 (X.setCell ⟨k.g9, 0, none⟩ (.int .i64 n)) v l ∧ ∀ Y, Fr (sblk v) (X.setCell ⟨k.g9, 0, none⟩ (.int .i64 n)) Y →
      (Y.cell? ⟨k.g7, 0, none⟩ = some v ∧ Y.frozen? ⟨k.g7, 0, none⟩ = false) ∧ (Y.cell? ⟨k.g8, 0, none⟩ = some (.int .i64 ((j : Int) + 1)) ∧ Y.cell? ⟨k.g9, 0, none⟩ = some (.int .i64 n)) ∧ Res k Y ∧ Fr (Sv k v) X Y := by
  have := k.h2; have := k.h3; have := k.h4; have := k.h5; have := k.h6; have := k.h7; have := k.h8; have := k.h9; have := k.hB
  have f9 := (Fr.refl [k.g9] X).setCell (p := ⟨k.g9, 0, none⟩) (.inl (by simp)) (.int .i64 n)
  have c9 := h.c9.set 0 (by simp) (.int .i64 n)
  generalize X.setCell ⟨k.g9, 0, none⟩ (.int .i64 n) = Z at *
  have nv : ∀ g, g ≤ k.B → g ∉ sblk v := fun g hg hm => by have := h.new g hm; omega
  refine ⟨h.own.keep f9 (fun x hx => by have := h.new x hx; simp; omega), fun Y hf => ?_⟩
  have c7 := (h.c7.keep f9 (by simp; omega)).keep hf (nv _ (by omega))
  have c8 := (h.c8.keep f9 (by simp; omega)).keep hf (nv _ (by omega))
  have c9 := c9.keep hf (nv _ (by omega))
  exact ⟨⟨c7.cell 0, c7.fz 0⟩, ⟨c8.cell 0, c9.cell 0⟩, (h.res.keep f9 (by simp; omega)).keep hf (fun x hx => by have := h.new x hx; omega), (f9.mono (fun x hx => .inl (by simp at hx; subst hx; simp [Sv]))).trans hf (fun x hx => .inl (List.mem_append_right _ hx))⟩

/-- the results, stored -/
def setRes (k : Blk) (X : World) (q : PlanA) (v : Value) (line e : Int) : World :=
  ((((((((X.setCell ⟨k.g2, 0, none⟩ (.int .i64 q.threads)).setCell ⟨k.g2, 1, none⟩ (.int .i64 q.slots)).setCell ⟨k.g2, 2, none⟩ (.int .i64 q.levels)).setCell ⟨k.g2, 3, none⟩ (.int .u64 q.gen)).setCell ⟨k.g3, 0, none⟩ v).setCell ⟨k.g4, 0, none⟩ (.int .i64 line)).setCell ⟨k.g5, 0, none⟩ (.int .i64 e)).drew)
theorem res_set (k : Blk) {X : World} (hr : Res k X) (q : PlanA) (v : Value) (line e : Int) :
    PB (setRes k X q v line e) k.g2 q ∧ BF (setRes k X q v line e) k.g3 [v] ∧ BF (setRes k X q v line e) k.g4 [.int .i64 line] ∧ BF (setRes k X q v line e) k.g5 [.int .i64 e] ∧ Fr [k.g2, k.g3, k.g4, k.g5] X (setRes k X q v line e) := by
  have := k.h2; have := k.h3; have := k.h4; have := k.h5; have := k.h6; have := k.h7; have := k.h8; have := k.h9; have := k.hB
  unfold setRes
  have f2 := (Fr.refl [k.g2] X).setP (g := k.g2) (.inl (by simp)) (.int .i64 q.threads) (.int .i64 q.slots) (.int .i64 q.levels) (.int .u64 q.gen)
  have c2 := hr.r2.setAll q
  generalize (((X.setCell ⟨k.g2, 0, none⟩ (.int .i64 q.threads)).setCell ⟨k.g2, 1, none⟩ (.int .i64 q.slots)).setCell ⟨k.g2, 2, none⟩ (.int .i64 q.levels)).setCell ⟨k.g2, 3, none⟩ (.int .u64 q.gen) = X2 at *
  have f3 := (Fr.refl [k.g3] X2).setCell (p := ⟨k.g3, 0, none⟩) (.inl (by simp)) v
  have c3 := (hr.r3.keep f2 (by simp; omega)).set 0 (by simp) v
  have c23 := c2.keep f3 (by simp; omega)
  have c4a := (hr.r4.keep f2 (by simp; omega)).keep f3 (by simp; omega)
  have c5a := (hr.r5.keep f2 (by simp; omega)).keep f3 (by simp; omega)
  generalize X2.setCell ⟨k.g3, 0, none⟩ v = X3 at *
  have f4 := (Fr.refl [k.g4] X3).setCell (p := ⟨k.g4, 0, none⟩) (.inl (by simp)) (.int .i64 line)
  have c4 := c4a.set 0 (by simp) (.int .i64 line)
  have c24 := c23.keep f4 (by simp; omega)
  have c34 := c3.keep f4 (by simp; omega)
  have c5b := c5a.keep f4 (by simp; omega)
  generalize X3.setCell ⟨k.g4, 0, none⟩ (.int .i64 line) = X4 at *
  have f5 := (Fr.refl [k.g5] X4).setCell (p := ⟨k.g5, 0, none⟩) (.inl (by simp)) (.int .i64 e)
  have c5 := c5b.set 0 (by simp) (.int .i64 e)
  have c25 := c24.keep f5 (by simp; omega)
  have c35 := c34.keep f5 (by simp; omega)
  have c45 := c4.keep f5 (by simp; omega)
  generalize X4.setCell ⟨k.g5, 0, none⟩ (.int .i64 e) = X5 at *
  have fd : Fr [] X5 X5.drew := (Fr.refl [] X5).drew
  exact ⟨c25.keep0 fd, c35.keep0 fd, c45.keep0 fd, c5.keep0 fd, ((((f2.mono (by simp)).trans f3 (by simp)).trans f4 (by simp)).trans f5 (by simp)).drew⟩
theorem parse_door (Y : World) (tmps : Array Value) (k : Blk) (D : Nat) (hD : k.B < D) (p : PlanA) (v : Value) (line e : Int) (R : Ending → World → Prop)
    (h2 : tmps[2]?.getD undef = .pointer (some ⟨k.g2, 0, none⟩)) (h3 : tmps[3]?.getD undef = .pointer (some ⟨k.g3, 0, none⟩)) (h4 : tmps[4]?.getD undef = .pointer (some ⟨k.g4, 0, none⟩)) (h5 : tmps[5]?.getD undef = .pointer (some ⟨k.g5, 0, none⟩))
    (c2 : PB Y k.g2 p) (c3 : BF Y k.g3 [v]) (c4 : BF Y k.g4 [.int .i64 line]) (c5 : BF Y k.g5 [.int .i64 e]) (hv : ∃ a n c, v = .slice a n c) (hK : Y.heap[D]? = some (.deferred (some [])))
    (hR : R (.returned (.tuple #[planAgg p, v, .int .i64 line, .int .i64 e])) (Y.putObj D (.deferred none))) :
    bodyPostM Fence.wide 9 Tryd.prog Tryd.f15 R Exit.ret { tmps := tmps, defers := [{ target := .collected D, args := #[] }] } Y := by
  have := k.h2; have := k.h3; have := k.h4; have := k.h5; have := k.h6; have := k.h7; have := k.h8; have := k.h9; have := k.hB
  obtain ⟨a, n, c, rfl⟩ := hv
  refine ⟨by simp, .inl ⟨_, _, rfl, run_takeDeferred hK, ?_⟩⟩
  have f := Fr.put Y D (.deferred none)
  have d2 := c2.keep f (by simp; omega)
  have d3 := (c3.keep f (by simp; omega)).cell 0
  have d4 := (c4.keep f (by simp; omega)).cell 0
  have d5 := (c5.keep f (by simp; omega)).cell 0
  refine ⟨_, ?_, hR⟩
  simp [results, Tryd.results15, go_sem, h2, h3, h4, h5, d2.c0, d2.c1, d2.c2, d2.c3, d3, d4, d5, planAgg]

theorem own_ne {α : Type} {E : Enc α} {e : TypeId} {W : World} {v : Value} {xs : List α} (h : Own E e W v xs) {D : Nat} {o : Obj} (hD : W.heap[D]? = some o) (ho : o.isCells = false) : ∀ x ∈ sblk v, x ≠ D := by
  rintro x hx rfl
  rcases h with ⟨rfl, _⟩ | ⟨g, cap, cur, rfl, h1, _⟩
  · simp [sblk] at hx
  · simp [sblk] at hx
    subst hx
    rw [h1] at hD
    injection hD with hD
    subst hD
    cases ho

/-- 'append(l, x)' in a fence -/
theorem wpListIn_app {F : Fence} {m : Nat} {P : Program} {α : Type} (E : Enc α) {w : World} {ops : Array Oper} {rest : List Oper} {o : Oper} {a : Act} {Q : Exit → Act → World → Prop} {t e : TypeId} (hT : SlTy P t e E)
    (hgd : o.guard = none) (s x : Operand) (ho : o.op = .call { callee := .builtin .append, args := #[s, x], argTypes := #[t, t] })
    {v : Value} {xs : List α} (hown : Own E e w v xs) (y : α) {gn : Nat} (hgn : w.heap.size = gn) (hs : a.eval s = v) (hx : a.eval x = .slice (some ⟨gn, 0, none⟩) 1 1) (hlen : xs.length < 4294967295)
    {cs : Array Value} (hcs : cs.toList = E.enc y)
    (h : ∀ v' w', Own E e w' v' (xs ++ [y]) → Fr (sblk v) w w' → (sblk v' = sblk v ∨ ∃ g, sblk v' = [g] ∧ w.heap.size ≤ g) → wpListIn F m P ops Q rest (a.put o.dst v') w') : wpListIn F m P ops Q (o :: rest) a (w.alloc (.cells cs e)) := by
  subst hgn
  refine wpListIn_plain hgd fun K hK' => ?_
  obtain ⟨v', w', hrun, r1, r2, r3, _⟩ := run_app (P := P) hT hown y hcs hlen o.type
  unfold Oper.wpIn
  refine ⟨?_, ?_⟩
  · simp [Oper.about, ho, resolve, Target.leads, Sem.run_pure]
  · rw [Oper.semAt_plain F _ _ (by rw [ho]; intro c hc'; cases hc')]
    simp [execOp, ho, resolve, invoke, builtin, hs, hx, hrun, Result.andThen]
    exact hK' _ _ (h v' w' r1 r2 r3)
end Go.Proofs.YtkdmodanfcpcfaaDoor
