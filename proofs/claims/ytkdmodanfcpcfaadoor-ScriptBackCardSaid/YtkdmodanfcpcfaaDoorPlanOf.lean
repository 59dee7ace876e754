/- DERIVED. Chapter 42: planOf, of the program. -/
import Derived.Test.YtkdmodanfcpcfaaDoorEventV
import Derived.Deep.RegionWith
import Derived.Deep.RegionHeld3
namespace Go.Proofs.YtkdmodanfcpcfaaDoor
open Go.RowKit

/-- a plan's block -/
structure PB (w : World) (g : Nat) (p : PlanA) : Prop where
  c0 : w.cell? ⟨g, 0, none⟩ = some (.int .i64 p.threads)
  c1 : w.cell? ⟨g, 1, none⟩ = some (.int .i64 p.slots)
  c2 : w.cell? ⟨g, 2, none⟩ = some (.int .i64 p.levels)
  c3 : w.cell? ⟨g, 3, none⟩ = some (.int .u64 p.gen)
  fz : ∀ j, w.frozen? ⟨g, j, none⟩ = false
def noPlan : PlanA := ⟨0, 0, 0, 0⟩
theorem PB.lt {w : World} {g : Nat} {p : PlanA} (h : PB w g p) : g < w.heap.size := block_lt_of_cell h.c0
theorem PB.keep {w w' : World} {g : Nat} {p : PlanA} (h : PB w g p) {S : List Nat} (hf : Fr S w w') (hg : g ∉ S) : PB w' g p :=
  ⟨by rw [hf.cell h.lt hg, h.c0], by rw [hf.cell h.lt hg, h.c1], by rw [hf.cell h.lt hg, h.c2], by rw [hf.cell h.lt hg, h.c3], fun j => by rw [hf.frozen h.lt hg]; exact h.fz j⟩
theorem PB.keep0 {w w' : World} {g : Nat} {p : PlanA} (h : PB w g p) (hf : Fr [] w w') : PB w' g p := h.keep hf (by simp)
theorem PB.setAll {w : World} {g : Nat} {p0 : PlanA} (h : PB w g p0) (p : PlanA) : PB ((((w.setCell ⟨g, 0, none⟩ (.int .i64 p.threads)).setCell ⟨g, 1, none⟩ (.int .i64 p.slots)).setCell ⟨g, 2, none⟩ (.int .i64 p.levels)).setCell ⟨g, 3, none⟩ (.int .u64 p.gen)) g p := by
  have h0 := h.c0
  have h1 := h.c1
  have h2 := h.c2
  have h3 := h.c3
  refine ⟨?_, ?_, ?_, ?_, fun j => by simp only [World.frozen?_setCell]; exact h.fz j⟩
  · rw [World.cell?_setCell_other _ _ _ _ (other (by decide)), World.cell?_setCell_other _ _ _ _ (other (by decide)), World.cell?_setCell_other _ _ _ _ (other (by decide)), set_same h0]
  · rw [World.cell?_setCell_other _ _ _ _ (other (by decide)), World.cell?_setCell_other _ _ _ _ (other (by decide))]
    exact set_same ((World.cell?_setCell_other _ _ _ _ (other (by decide))).trans h1)
  · rw [World.cell?_setCell_other _ _ _ _ (other (by decide))]
    exact set_same ((World.cell?_setCell_other _ _ _ _ (other (by decide))).trans ((World.cell?_setCell_other _ _ _ _ (other (by decide))).trans h2))
  · exact set_same ((World.cell?_setCell_other _ _ _ _ (other (by decide))).trans ((World.cell?_setCell_other _ _ _ _ (other (by decide))).trans ((World.cell?_setCell_other _ _ _ _ (other (by decide))).trans h3)))
theorem PB.new (w : World) (p : PlanA) : PB (w.alloc (.cells #[.int .i64 p.threads, .int .i64 p.slots, .int .i64 p.levels, .int .u64 p.gen] 38)) w.heap.size p :=
  ⟨by simp, by simp, by simp, by simp, fun j => by simp [go_sem]⟩
theorem Fr.setP {S : List Nat} {w wd : World} {g : Nat} (h : Fr S w wd) (hg : g ∈ S ∨ w.heap.size ≤ g) (a b c d : Value) : Fr S w ((((wd.setCell ⟨g, 0, none⟩ a).setCell ⟨g, 1, none⟩ b).setCell ⟨g, 2, none⟩ c).setCell ⟨g, 3, none⟩ d) :=
  (((h.setCell (p := ⟨g, 0, none⟩) hg _).setCell (p := ⟨g, 1, none⟩) hg _).setCell (p := ⟨g, 2, none⟩) hg _).setCell (p := ⟨g, 3, none⟩) hg _

/-- a row of numbers of fixed length -/
structure AB (w : World) (g : Nat) (ns : List Nat) : Prop where
  cell : ∀ j, w.cell? ⟨g, j, none⟩ = (ns.map fun (n : Nat) => Value.int .u64 n)[j]?
  lt : g < w.heap.size
  fz : ∀ j, w.frozen? ⟨g, j, none⟩ = false
theorem AB.keep {w w' : World} {g : Nat} {p : List Nat} (h : AB w g p) {S : List Nat} (hf : Fr S w w') (hg : g ∉ S) : AB w' g p :=
  ⟨fun j => by rw [hf.cell h.lt hg, h.cell], Nat.lt_of_lt_of_le h.lt hf.size, fun j => by rw [hf.frozen h.lt hg]; exact h.fz j⟩
theorem AB.set {w : World} {g : Nat} {ns : List Nat} (h : AB w g ns) {k : Nat} (hk : k < ns.length) (n : Nat) : AB (w.setCell ⟨g, k, none⟩ (.int .u64 n)) g (ns.set k n) := by
  refine ⟨fun j => ?_, by simp [World.setCell]; exact h.lt, fun j => by rw [World.frozen?_setCell]; exact h.fz j⟩
  by_cases e : j = k
  · subst e
    rw [World.cell?_setCell_same' _ _ _ (by rw [h.cell]; simp [hk])]
    simp [hk]
  · rw [World.cell?_setCell_other _ _ _ _ (other (Ne.symm e)), h.cell]
    simp [List.getElem?_set, Ne.symm e]

theorem plan_door (w wd : World) (tmps : Array Value) (g : Nat) (p : PlanA) (s : List UInt8) (b : Bool) (h2 : tmps[2]?.getD undef = .pointer (some ⟨g, 0, none⟩)) (h3 : tmps[3]?.getD undef = .bool b) (hc : PB wd g p) (hf : Fr [] w wd) (hb : b = (planV s).isSome) (hq : ∀ q, planV s = some q → p = q) :
    bodyPost Tryd.prog Tryd.f34 (fun e w' => PlanR s e ∧ Fr [] w w') Exit.ret { tmps := tmps, defers := [] } wd := by
  refine bodyPost_ret (v := .tuple #[planAgg p, .bool b]) ?_ rfl ⟨⟨p, by rw [hb], hq⟩, hf⟩
  simp [results, Tryd.results34, go_sem, h2, h3, hc.c0, hc.c1, hc.c2, hc.c3, planAgg]

set_option maxRecDepth 20000 in
set_option maxHeartbeats 4000000 in
theorem planOf_any (s : List UInt8) (hs : s.length ≤ 1000000) (w : World) (hg : Glob w) :
    Calls Tryd.prog 34 #[.string (Str s)] w fun e w' => PlanR s e ∧ Fr [] w w' := by
  have F0 : Fr [] w (w.alloc (.cells #[.int .i64 0, .int .i64 0, .int .i64 0, .int .u64 0] 38)) := (Fr.refl _ _).alloc _
  have C0 : PB (w.alloc (.cells #[.int .i64 0, .int .i64 0, .int .i64 0, .int .u64 0] 38)) w.heap.size noPlan := PB.new w noPlan
  have SP := split_any s hs _ (hg.keep F0)
  have hV : planV s = planW (wordsV s) := rfl
  have hws := wordsV_each s
  have hwn := wordsV_len s
  have hw1 : 1 ≤ (wordsV s).length := List.length_pos_iff.2 (wordsV_ne s)
  obtain ⟨ws, hws'⟩ : ∃ ws, wordsV s = ws := ⟨_, rfl⟩
  rw [hws'] at SP hws hwn hw1 hV
  obtain ⟨S, hS⟩ : ∃ S, Str s = S := ⟨_, rfl⟩
  rw [hS] at SP ⊢
  have HSP := Lib.hid SP
  have H0 := Lib.hid (And.intro F0 (And.intro C0 (And.intro hg (And.intro hws hV))))
  clear SP F0 C0 hg hws hV hws' hS
  go_enter Tryd.func34, Tryd.ntmps34
  go_wp2_with fail
  rw [show (⟨#[32]⟩ : ByteArray) = Str [32] from rfl]
  refine HSP.out.mono ?_
  clear HSP
  rintro e w1 ⟨h, rfl, f1, hr⟩
  obtain ⟨g, hgg⟩ : ∃ g, w.heap.size = g := ⟨_, rfl⟩
  have C1 := H0.out.2.1.keep0 f1
  have F1 := H0.out.1.trans0 f1
  rw [hgg] at C1
  have gw : w.heap.size ≤ g := by omega
  rw [hgg]
  have HH := Lib.hid (And.intro C1 (And.intro F1 (And.intro hr (And.intro (H0.out.2.2.1.keep F1) (And.intro H0.out.2.2.2.1 H0.out.2.2.2.2)))))
  have lw : ∀ (ty : TypeId) (W : World), Sem.run Tryd.prog (Builtin.len_ #[55] ty #[.slice (some ⟨h, 0, none⟩) ws.length ws.length]) W = .ok (.int .i64 ws.length) W := lenS hr
  clear H0 C1 F1 hr hgg f1
  -- how every early way out ends
  have OUT : ∀ (W : World) (tmps : Array Value), Fr [] w1 W → planW ws = none → tmps[2]?.getD undef = .pointer (some ⟨g, 0, none⟩) → tmps[3]?.getD undef = .bool false →
      bodyPost Tryd.prog Tryd.f34 (fun e w' => PlanR s e ∧ Fr [] w w') Exit.ret { tmps := tmps, defers := [] } ((((W.setCell ⟨g, 0, none⟩ (.int .i64 0)).setCell ⟨g, 1, none⟩ (.int .i64 0)).setCell ⟨g, 2, none⟩ (.int .i64 0)).setCell ⟨g, 3, none⟩ (.int .u64 0)) := by
    intro W tmps hF hn h2 h3
    have hn2 : planV s = none := by rw [HH.out.2.2.2.2.2, hn]
    exact plan_door w _ tmps g noPlan s false h2 h3 ((HH.out.1.keep0 hF).setAll noPlan) ((HH.out.2.1.trans0 hF).setP (.inr gw) _ _ _ _) (by rw [hn2]; rfl) (fun q hq => by rw [hn2] at hq; cases hq)
  have HOUT := Lib.hid OUT
  clear OUT
  have CELLS : ∀ W : World, Fr [] w1 W → PB W g noPlan := fun W hF => HH.out.1.keep0 hF
  have HCE := Lib.hid CELLS
  clear CELLS
  by_cases hl : ws.length = 5
  · obtain ⟨w0, hw0⟩ := at_of ws (k := 0) (by omega)
    have i0 : ∀ W, Sem.run Tryd.prog (Instr.indexAt 55 (.slice (some ⟨h, 0, none⟩) ws.length ws.length) (.int .i64 0)) W = .ok (.pointer (some ⟨h, 0, none⟩)) W := idxS HH.out.2.2.1 (k := 0) (by omega)
    have c0 := cellS HH.out.2.2.1 hw0
    obtain ⟨Z, hZ⟩ : ∃ Z, Str w0 = Z := ⟨_, rfl⟩
    rw [hZ] at c0
    rw [Nat.add_zero] at c0
    rw [hl] at i0 lw ⊢
    by_cases hq : Z = ⟨#[112, 108, 97, 110]⟩
    · have hhead : ws[0]? = some [112, 108, 97, 110] := by
        rw [hw0]
        have := congrArg (fun b => b.data.toList) (hZ.trans hq)
        simpa [Str] using this
      subst hq
      have HL := Lib.hid (And.intro hl hhead)
      have hlen : ∀ x ∈ ws, x.length ≤ 1000000 := fun x hx => Nat.le_trans (HH.out.2.2.2.2.1 x hx) hs
      have WK : ∀ (k : Nat) (x : List UInt8), x.length ≤ 1000000 → ∀ W, Glob W → Calls Tryd.prog 61 #[.string (Str x), .int .i64 (if k < 3 then 63 else 64)] W fun e w' => WholeR (pB k) x e ∧ Fr [] W w' := by
        intro k x hx W hW
        unfold pB
        split
        · exact scriptWhole63 x hx W hW
        · exact scriptWhole64 x hx W hW
      have HWK := Lib.hid WK
      clear hl hhead hw0 hZ WK
      have A1 : Fr [] w1 (w1.alloc (.cells #[.int .u64 0, .int .u64 0, .int .u64 0, .int .u64 0] 101)) := (Fr.refl _ _).alloc _
      have B1 : AB (w1.alloc (.cells #[.int .u64 0, .int .u64 0, .int .u64 0, .int .u64 0] 101)) w1.heap.size [0, 0, 0, 0] :=
        ⟨fun j => by rw [World.cell?_alloc_at _ _ _ _ rfl]; simp, by simp, fun j => by simp [go_sem]⟩
      go_wp2_with fail
      obtain ⟨p, hp⟩ : ∃ p, w1.heap.size = p := ⟨_, rfl⟩
      obtain ⟨U, hU⟩ : ∃ U, w1.alloc (.cells #[.int .u64 0, .int .u64 0, .int .u64 0, .int .u64 0] 101) = U := ⟨_, rfl⟩
      rw [hU] at A1
      rw [hU, hp] at B1
      rw [hU, hp]
      have hpg : g ≠ p := by have := HH.out.1.lt; omega
      have hwp : w.heap.size ≤ p := by rw [← hp]; exact HH.out.2.1.size
      have hw1p : w1.heap.size ≤ p := by omega
      have HU := Lib.hid (And.intro A1 B1)
      have hr1 := (HH.out.2.2.1.keep0 A1).tail rfl hw1
      rw [HL.out.1] at hr1
      have hpU : h < U.heap.size := hr1.lt (by intro e; have := congrArg List.length e; simp at this; have := HL.out.1; omega)
      have hhp : h ≠ p := by
        have : h < w1.heap.size := HH.out.2.2.1.lt (by rintro rfl; simp at hw1)
        omega
      have HR := Lib.hid hr1
      clear hU hp A1 B1 hr1 i0 c0 lw
      go_loopw [26] (fun vi wr => ∃ (k : Nat) (ns : List Nat), vi = .int .i64 k ∧ k ≤ 4 ∧ ns.length = 4 ∧ AB wr p ns ∧ Hid (∀ j, j < k → ∃ x n, (ws.drop 1)[j]? = some x ∧ numB (pB j) x = some n ∧ ns[j]? = some n) ∧ Hid (Fr [p] U wr)) (fun vi _ => 4 - (intOf vi).toNat)
      case atStart => exact ⟨0, _, rfl, by omega, rfl, HU.out.2, fun j hj => absurd hj (by omega), Fr.refl _ _⟩
      case round =>
        obtain ⟨k, ns, rfl, hk, hns, hab, hall, hfr⟩ := hrel
        have F1 : Fr [] w1 wr := HU.out.1.trans hfr.out (fun y hy => .inr (by simp at hy; subst hy; exact hw1p))
        have HF1 := Lib.hid F1
        have hrw := HR.out.keep hfr.out (by intro y hy; simp [sblk] at hy; subst hy; simp; exact hhp)
        by_cases hlt : k < 4
        · obtain ⟨x, hx⟩ := at_of (ws.drop 1) (k := k) (by have := HL.out.1; simp; omega)
          have iw : ∀ W, Sem.run Tryd.prog (Instr.indexAt 55 (.slice (some ⟨h, 1, none⟩) 4 4) (.int .i64 k)) W = .ok (.pointer (some ⟨h, 1 + k, none⟩)) W := idxS hrw (by have := HL.out.1; simp; omega)
          have cw := cellS hrw hx
          have hxl := hlen x (List.mem_of_mem_drop (List.mem_of_getElem? hx))
          have C := HWK.out k x hxl wr (HH.out.2.2.2.1.keep F1)
          obtain ⟨Y, hY⟩ : ∃ Y, Str x = Y := ⟨_, rfl⟩
          rw [hY] at cw C
          unfold WholeR at C
          generalize hn : numB (pB k) x = o at C
          have HX := Lib.hid (And.intro hx hn)
          clear hY hx hn hrw F1 hxl
          have RL : ∀ (w4 : World) (n : Nat), AB w4 p ns → Fr [p] U w4 → o = some n → ∀ v, v = Value.int .i64 ((k + 1 : Nat) : Int) → ∃ (k' : Nat) (ns' : List Nat), v = .int .i64 k' ∧ k' ≤ 4 ∧ ns'.length = 4 ∧ AB (w4.setCell ⟨p, k, none⟩ (.int .u64 n)) p ns' ∧ Hid (∀ j, j < k' → ∃ x n, (ws.drop 1)[j]? = some x ∧ numB (pB j) x = some n ∧ ns'[j]? = some n) ∧ Hid (Fr [p] U (w4.setCell ⟨p, k, none⟩ (.int .u64 n))) := by
            intro w4 n hab4 hf4 ho v hv
            refine ⟨k + 1, ns.set k n, hv, by omega, by simp [hns], hab4.set (by omega) n, fun j hj => ?_, hf4.setCell (p := ⟨p, k, none⟩) (.inl (by simp)) _⟩
            by_cases e : j = k
            · subst e
              exact ⟨x, n, HX.out.1, by rw [HX.out.2, ho], by rw [List.getElem?_set_self (by omega)]⟩
            · obtain ⟨x', n', h1, h2, h3⟩ := hall.out j (by omega)
              exact ⟨x', n', h1, h2, by rw [List.getElem?_set_ne (Ne.symm e)]; exact h3⟩
          have HRL := Lib.hid RL
          clear RL
          have hk4 : k = 0 ∨ k = 1 ∨ k = 2 ∨ k = 3 := by omega
          rcases hk4 with rfl | rfl | rfl | rfl
          all_goals
            simp only [Nat.reduceLT, ↓reduceIte] at C
            have HC := Lib.hid C
            clear C
            go_wp2_with fail
            refine HC.out.mono ?_
            clear HC
            rintro e w4 ⟨⟨n, rfl, hn⟩, f4⟩
            have F4 := HF1.out.trans0 f4
            have hab4 := hab.keep f4 (by simp)
            have G4 := hfr.out.trans0 f4
            cases o with
            | none =>
              have HN := Lib.hid (planW_no hlt HX.out.1 HX.out.2)
              have CG := HCE.out w4 F4
              have z0 := CG.fz 0
              have z1 := CG.fz 1
              have z2 := CG.fz 2
              have z3 := CG.fz 3
              have g0 := CG.c0
              have g1 := CG.c1
              have g2 := CG.c2
              have g3 := CG.c3
              have HF4 := Lib.hid F4
              clear F4 hab4 G4 f4 hn CG hab cw iw
              simp only [Option.isSome_none]
              go_wp2
              exact HOUT.out _ _ HF4.out HN.out rfl rfl
            | some m =>
              obtain rfl := hn m rfl
              obtain ⟨q, hq⟩ := at_of ns (Nat.lt_of_lt_of_eq hlt hns.symm)
              have cq := (hab4.cell _).trans (by rw [List.getElem?_map, hq]; rfl : _ = some (Value.int .u64 (q : Int)))
              have zq := hab4.fz
              have H4 := Lib.hid (And.intro hab4 (And.intro G4 hq))
              clear hab4 G4 f4 hn hq F4 hab cw iw
              simp only [Option.isSome_some]
              go_wp2
              go_roundw
              case rel => exact HRL.out _ _ H4.out.1 H4.out.2.1 rfl _ rfl
              case measure => simp [intOf]
        · have hk4 : k = 4 := by omega
          subst hk4
          obtain ⟨a, b, c, d, rfl⟩ : ∃ a b c d, ns = [a, b, c, d] := by
            match ns, hns with
            | [a, b, c, d], _ => exact ⟨a, b, c, d, rfl⟩
          obtain ⟨x1, n1, q1, r1, s1⟩ := hall.out 0 (by omega)
          obtain ⟨x2, n2, q2, r2, s2⟩ := hall.out 1 (by omega)
          obtain ⟨x3, n3, q3, r3, s3⟩ := hall.out 2 (by omega)
          obtain ⟨x4, n4, q4, r4, s4⟩ := hall.out 3 (by omega)
          simp at s1 s2 s3 s4
          subst s1 s2 s3 s4
          have HY := planW_yes HL.out.1 HL.out.2 ⟨x1, q1, r1⟩ ⟨x2, q2, r2⟩ ⟨x3, q3, r3⟩ ⟨x4, q4, r4⟩
          have t1 : wrap64 (a : Int) = a := by have := numB_lt r1; simp [pB] at this; unfold wrap64; omega
          have t2 : wrap64 (b : Int) = b := by have := numB_lt r2; simp [pB] at this; unfold wrap64; omega
          have t3 : wrap64 (c : Int) = c := by have := numB_lt r3; simp [pB] at this; unfold wrap64; omega
          have k0 : wr.cell? ⟨p, 0, none⟩ = some (.int .u64 (a : Int)) := hab.cell 0
          have k1 : wr.cell? ⟨p, 1, none⟩ = some (.int .u64 (b : Int)) := hab.cell 1
          have k2 : wr.cell? ⟨p, 2, none⟩ = some (.int .u64 (c : Int)) := hab.cell 2
          have k3 : wr.cell? ⟨p, 3, none⟩ = some (.int .u64 (d : Int)) := hab.cell 3
          have N5 := PB.new wr ⟨a, b, c, d⟩
          have A5 : Fr [] wr (wr.alloc (.cells #[.int .i64 a, .int .i64 b, .int .i64 c, .int .u64 d] 38)) := (Fr.refl _ _).alloc _
          dsimp only at N5
          have HYY := Lib.hid HY
          clear HY q1 q2 q3 q4 r1 r2 r3 r4 hrw F1 hab hall
          go_upto_region 14 with (fail)
          obtain ⟨q, hq⟩ : ∃ q, wr.heap.size = q := ⟨_, rfl⟩
          obtain ⟨V, hV⟩ : ∃ V, wr.alloc (.cells #[.int .i64 a, .int .i64 b, .int .i64 c, .int .u64 d] 38) = V := ⟨_, rfl⟩
          rw [hV] at A5 N5
          rw [hq] at N5
          rw [hV, hq]
          clear hq hV
          have FA : ∀ W, Fr [] V W → W.cell? ⟨q, 0, none⟩ = some (.int .i64 a) ∧ W.cell? ⟨q, 1, none⟩ = some (.int .i64 b) ∧ W.cell? ⟨q, 2, none⟩ = some (.int .i64 c) ∧ W.cell? ⟨q, 3, none⟩ = some (.int .u64 d) := fun W hW =>
            have h := N5.keep0 hW
            ⟨h.c0, h.c1, h.c2, h.c3⟩
          have HFA := Lib.hid FA
          obtain ⟨r, hr⟩ : ∃ r : Int, (if PlanA.right ⟨a, b, c, d⟩ then 0 else 1) = r := ⟨_, rfl⟩
          have HC0 := fun W => right_any a b c d W
          rw [hr] at HC0
          have HC := Lib.hid HC0
          have HRR := Lib.hid hr
          clear HC0 hr
          have HV := Lib.hid (HF1.out.trans0 A5)
          clear FA N5 A5 k0 k1 k2 k3
          have HGF := Lib.hid (show ∀ W, Fr [] V W → W.cell? ⟨g, 0, none⟩ = some (.int .i64 noPlan.threads) ∧ W.cell? ⟨g, 1, none⟩ = some (.int .i64 noPlan.slots) ∧ W.cell? ⟨g, 2, none⟩ = some (.int .i64 noPlan.levels) ∧ W.cell? ⟨g, 3, none⟩ = some (.int .u64 noPlan.gen) ∧ W.frozen? ⟨g, 0, none⟩ = false ∧ W.frozen? ⟨g, 1, none⟩ = false ∧ W.frozen? ⟨g, 2, none⟩ = false ∧ W.frozen? ⟨g, 3, none⟩ = false from fun W hW =>
            have h := HCE.out W (HV.out.trans0 hW)
            ⟨h.c0, h.c1, h.c2, h.c3, h.fz 0, h.fz 1, h.fz 2, h.fz 3⟩)
          have v0 := (HFA.out V (Fr.refl _ _)).1
          have v1 := (HFA.out V (Fr.refl _ _)).2.1
          have v2 := (HFA.out V (Fr.refl _ _)).2.2.1
          have v3 := (HFA.out V (Fr.refl _ _)).2.2.2
          go_region_with (first | (go_at_call 22; with_reducible refine (HC.out _).mono ?_; rintro e w7 ⟨rfl, f7⟩; replace f7 := Fr.trans0 (Fr.drew (Fr.refl [] V)) f7; obtain ⟨g0, g1, g2, g3, z0, z1, z2, z3⟩ := HGF.out _ f7; obtain ⟨x0, x1, x2, x3⟩ := HFA.out _ f7))
          all_goals
            go_wp2
            refine plan_door w _ _ g ⟨a, b, c, d⟩ s (r == 0) rfl rfl ((HCE.out w7 (HV.out.trans0 f7)).setAll ⟨a, b, c, d⟩) ((HH.out.2.1.trans0 (HV.out.trans0 f7)).setP (.inr gw) _ _ _ _) ?_ ?_
            · rw [HH.out.2.2.2.2.2, HYY.out, ← HRR.out]
              split <;> rfl
            · intro q hq
              rw [HH.out.2.2.2.2.2, HYY.out] at hq
              split at hq
              · injection hq
              · cases hq
    · have hn : planW ws = none := planW_head hw0 (fun e => hq (by rw [← hZ, e]; rfl))
      have HN := Lib.hid hn
      have hq2 : (Z.toList == [112, 108, 97, 110]) = false := by simpa using (Lib.bytes_beq_false_iff Z ⟨#[112, 108, 97, 110]⟩).2 hq
      have CG := HCE.out w1 (Fr.refl _ _)
      have z0 := CG.fz 0
      have z1 := CG.fz 1
      have z2 := CG.fz 2
      have z3 := CG.fz 3
      have g0 := CG.c0
      have g1 := CG.c1
      have g2 := CG.c2
      have g3 := CG.c3
      clear hn hq hw0 hZ CG
      go_wp2
      exact HOUT.out _ _ (Fr.refl _ _) HN.out rfl rfl
  · have hl2 : ((ws.length : Int) != 5) = true := by simp; omega
    have HN := Lib.hid (planW_len hl)
    have CG := HCE.out w1 (Fr.refl _ _)
    have z0 := CG.fz 0
    have z1 := CG.fz 1
    have z2 := CG.fz 2
    have z3 := CG.fz 3
    have g0 := CG.c0
    have g1 := CG.c1
    have g2 := CG.c2
    have g3 := CG.c3
    clear hl CG
    go_wp2
    exact HOUT.out _ _ (Fr.refl _ _) HN.out rfl rfl
end Go.Proofs.YtkdmodanfcpcfaaDoor
