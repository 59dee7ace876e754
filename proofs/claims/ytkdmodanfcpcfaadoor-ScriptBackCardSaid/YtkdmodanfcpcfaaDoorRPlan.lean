/- DERIVED. Chapter 42: plan, of the reference. -/
import Derived.Test.YtkdmodanfcpcfaaDoorPlanOf
import Derived.Test.YtkdmodanfcpcfaaDoorEventV
import Derived.Deep.RegionHeld3
import Derived.Deep.RegionWith
namespace Go.Proofs.YtkdmodanfcpcfaaDoor
open Go.RowKit

theorem planW_five {ws : List (List UInt8)} {w0 w1 w2 w3 w4 : List UInt8} (h5 : ws.length = 5) (h0 : ws[0]? = some w0) (h1 : ws[1]? = some w1) (h2 : ws[2]? = some w2) (h3 : ws[3]? = some w3) (h4 : ws[4]? = some w4) : ws = [w0, w1, w2, w3, w4] := by
  match ws, h5 with
  | [a, b, c, d, e], _ =>
    simp at h0 h1 h2 h3 h4
    simp [h0, h1, h2, h3, h4]
theorem rplan_door (w wd : World) (tmps : Array Value) (g : Nat) (p : PlanA) (s : List UInt8) (b : Bool) (h2 : tmps[2]?.getD undef = .pointer (some ⟨g, 0, none⟩)) (h3 : tmps[3]?.getD undef = .bool b) (hc : PB wd g p) (hf : Fr [] w wd) (hb : b = (planV s).isSome) (hq : ∀ q, planV s = some q → p = q) :
    bodyPost Tryd.prog Tryd.f36 (fun e w' => PlanR s e ∧ Fr [] w w') Exit.ret { tmps := tmps, defers := [] } wd := by
  refine bodyPost_ret (v := .tuple #[planAgg p, .bool b]) ?_ rfl ⟨⟨p, by rw [hb], hq⟩, hf⟩
  simp [results, Tryd.results36, go_sem, h2, h3, hc.c0, hc.c1, hc.c2, hc.c3, planAgg]

set_option maxRecDepth 20000 in
set_option maxHeartbeats 1000000 in
theorem refPlan_any (s : List UInt8) (hs : s.length ≤ 1000000) (w : World) :
    Calls Tryd.prog 36 #[.string (Str s)] w fun e w' => PlanR s e ∧ Fr [] w w' := by
  have F0 : Fr [] w (w.alloc (.cells #[.int .i64 0, .int .i64 0, .int .i64 0, .int .u64 0] 38)) := (Fr.refl _ _).alloc _
  have C0 : PB (w.alloc (.cells #[.int .i64 0, .int .i64 0, .int .i64 0, .int .u64 0] 38)) w.heap.size noPlan := PB.new w noPlan
  have SP := refWords_any s hs (w.alloc (.cells #[.int .i64 0, .int .i64 0, .int .i64 0, .int .u64 0] 38))
  have hV : planV s = planW (wordsV s) := rfl
  have hws := wordsV_each s
  have hw1 : 1 ≤ (wordsV s).length := List.length_pos_iff.2 (wordsV_ne s)
  obtain ⟨ws, hws'⟩ : ∃ ws, wordsV s = ws := ⟨_, rfl⟩
  rw [hws'] at SP hws hw1 hV
  obtain ⟨S, hS⟩ : ∃ S, Str s = S := ⟨_, rfl⟩
  rw [hS] at SP ⊢
  have HSP := Lib.hid SP
  have H0 := Lib.hid (And.intro F0 (And.intro C0 (And.intro hws hV)))
  clear SP F0 C0 hws hV hws' hS
  go_enter Tryd.func36, Tryd.ntmps36
  go_wp2_with fail
  refine HSP.out.mono ?_
  clear HSP
  rintro e w1 ⟨v, rfl, ⟨h, ho, hr⟩, f1⟩
  obtain ⟨ao, cap, rfl, hao, _⟩ := hr.val
  have hne : ws ≠ [] := by rintro rfl; simp at hw1
  obtain rfl := hao hne
  clear hao
  obtain ⟨g, hgg⟩ : ∃ g, w.heap.size = g := ⟨_, rfl⟩
  have C1 := H0.out.2.1.keep0 f1
  have F1 := H0.out.1.trans0 f1
  rw [hgg] at C1
  have gw : w.heap.size ≤ g := by omega
  rw [hgg]
  have HH := Lib.hid (And.intro C1 (And.intro F1 (And.intro hr (And.intro H0.out.2.2.1 H0.out.2.2.2))))
  have lw : ∀ (ty : TypeId) (W : World), Sem.run Tryd.prog (Builtin.len_ #[55] ty #[.slice (some ⟨h, ho, none⟩) ws.length cap]) W = .ok (.int .i64 ws.length) W := lenS hr
  clear H0 C1 F1 hr hgg f1
  have OUT : ∀ (W : World) (tmps : Array Value), Fr [] w1 W → planW ws = none → tmps[2]?.getD undef = .pointer (some ⟨g, 0, none⟩) → tmps[3]?.getD undef = .bool false → ∀ p : PlanA,
      bodyPost Tryd.prog Tryd.f36 (fun e w' => PlanR s e ∧ Fr [] w w') Exit.ret { tmps := tmps, defers := [] } ((((W.setCell ⟨g, 0, none⟩ (.int .i64 p.threads)).setCell ⟨g, 1, none⟩ (.int .i64 p.slots)).setCell ⟨g, 2, none⟩ (.int .i64 p.levels)).setCell ⟨g, 3, none⟩ (.int .u64 p.gen)) := by
    intro W tmps hF hn h2 h3 p
    have hn2 : planV s = none := by rw [HH.out.2.2.2.2, hn]
    exact rplan_door w _ tmps g p s false h2 h3 ((HH.out.1.keep0 hF).setAll p) ((HH.out.2.1.trans0 hF).setP (.inr gw) _ _ _ _) (by rw [hn2]; rfl) (fun q hq => by rw [hn2] at hq; cases hq)
  have HOUT := Lib.hid OUT
  clear OUT
  have CELLS : ∀ W : World, Fr [] w1 W → PB W g noPlan := fun W hF => HH.out.1.keep0 hF
  have HCE := Lib.hid CELLS
  clear CELLS
  by_cases hl : ws.length = 5
  · obtain ⟨w0, hw0⟩ := at_of ws (k := 0) (by omega)
    obtain ⟨x1, hx1⟩ := at_of ws (k := 1) (by omega)
    obtain ⟨x2, hx2⟩ := at_of ws (k := 2) (by omega)
    obtain ⟨x3, hx3⟩ := at_of ws (k := 3) (by omega)
    obtain ⟨x4, hx4⟩ := at_of ws (k := 4) (by omega)
    have i0 : ∀ W, Sem.run Tryd.prog (Instr.indexAt 55 (.slice (some ⟨h, ho, none⟩) ws.length cap) (.int .i64 0)) W = .ok (.pointer (some ⟨h, ho, none⟩)) W := idxS HH.out.2.2.1 (k := 0) (by omega)
    have i1 : ∀ W, Sem.run Tryd.prog (Instr.indexAt 55 (.slice (some ⟨h, ho, none⟩) ws.length cap) (.int .i64 1)) W = .ok (.pointer (some ⟨h, ho + 1, none⟩)) W := idxS HH.out.2.2.1 (k := 1) (by omega)
    have i2 : ∀ W, Sem.run Tryd.prog (Instr.indexAt 55 (.slice (some ⟨h, ho, none⟩) ws.length cap) (.int .i64 2)) W = .ok (.pointer (some ⟨h, ho + 2, none⟩)) W := idxS HH.out.2.2.1 (k := 2) (by omega)
    have i3 : ∀ W, Sem.run Tryd.prog (Instr.indexAt 55 (.slice (some ⟨h, ho, none⟩) ws.length cap) (.int .i64 3)) W = .ok (.pointer (some ⟨h, ho + 3, none⟩)) W := idxS HH.out.2.2.1 (k := 3) (by omega)
    have i4 : ∀ W, Sem.run Tryd.prog (Instr.indexAt 55 (.slice (some ⟨h, ho, none⟩) ws.length cap) (.int .i64 4)) W = .ok (.pointer (some ⟨h, ho + 4, none⟩)) W := idxS HH.out.2.2.1 (k := 4) (by omega)
    have c0 := cellS HH.out.2.2.1 hw0
    obtain ⟨Z, hZ⟩ : ∃ Z, Str w0 = Z := ⟨_, rfl⟩
    rw [hZ] at c0
    rw [Nat.add_zero] at c0
    rw [hl] at i0 i1 i2 i3 i4 lw ⊢
    by_cases hq : Z = ⟨#[112, 108, 97, 110]⟩
    · have hw : w0 = [112, 108, 97, 110] := by
        have := congrArg (fun b => b.data.toList) (hZ.trans hq)
        simpa [Str] using this
      have h5 := planW_five hl hw0 hx1 hx2 hx3 hx4
      rw [hw] at h5
      have hsum : planW ws = (numB 9223372036854775808 x1).bind fun a => (numB 9223372036854775808 x2).bind fun b => (numB 9223372036854775808 x3).bind fun c => (numB 18446744073709551616 x4).bind fun g => if PlanA.right ⟨a, b, c, g⟩ then some ⟨a, b, c, g⟩ else none := by
        rw [h5]; simp [planW]
      have hlen : ∀ x ∈ ws, x.length ≤ 1000000 := fun x hx => Nat.le_trans (HH.out.2.2.2.1 x hx) hs
      have P1 := fun W => small_any x1 (hlen x1 (List.mem_of_getElem? hx1)) W
      have P2 := fun W => small_any x2 (hlen x2 (List.mem_of_getElem? hx2)) W
      have P3 := fun W => small_any x3 (hlen x3 (List.mem_of_getElem? hx3)) W
      have P4 := fun W => refWhole_any x4 (Nat.le_trans (hlen x4 (List.mem_of_getElem? hx4)) (by decide)) W
      have CC : ∀ W, Fr [] w1 W → W.cell? ⟨h, ho + 1, none⟩ = some (.string (Str x1)) ∧ W.cell? ⟨h, ho + 2, none⟩ = some (.string (Str x2)) ∧ W.cell? ⟨h, ho + 3, none⟩ = some (.string (Str x3)) ∧ W.cell? ⟨h, ho + 4, none⟩ = some (.string (Str x4)) := fun W hF =>
        have hr := HH.out.2.2.1.keep0 hF
        ⟨cellS hr hx1, cellS hr hx2, cellS hr hx3, cellS hr hx4⟩
      obtain ⟨Y1, hY1⟩ : ∃ Y, Str x1 = Y := ⟨_, rfl⟩
      obtain ⟨Y2, hY2⟩ : ∃ Y, Str x2 = Y := ⟨_, rfl⟩
      obtain ⟨Y3, hY3⟩ : ∃ Y, Str x3 = Y := ⟨_, rfl⟩
      obtain ⟨Y4, hY4⟩ : ∃ Y, Str x4 = Y := ⟨_, rfl⟩
      rw [hY1] at P1
      rw [hY2] at P2
      rw [hY3] at P3
      rw [hY4] at P4
      simp only [hY1, hY2, hY3, hY4] at CC
      have k1 : w1.cell? ⟨h, ho + 1, none⟩ = some (.string Y1) := (CC w1 (Fr.refl _ _)).1
      generalize hn1 : numB 9223372036854775808 x1 = o1 at *
      generalize hn2 : numB 9223372036854775808 x2 = o2 at *
      generalize hn3 : numB 9223372036854775808 x3 = o3 at *
      generalize hn4 : numB 18446744073709551616 x4 = o4 at *
      subst hq
      have HL := Lib.hid (And.intro hsum CC)
      have HP1 := Lib.hid P1
      have HP2 := Lib.hid P2
      have HP3 := Lib.hid P3
      have HP4 := Lib.hid P4
      clear hl hw0 hx1 hx2 hx3 hx4 hZ hw h5 hsum hlen P1 P2 P3 P4 CC hY1 hY2 hY3 hY4 hn1 hn2 hn3 hn4
      go_wp2_with fail
      refine (HP1.out _).mono ?_
      clear HP1
      rintro e w2 ⟨rfl, f2⟩
      have k2 := (HL.out.2 _ f2).2.1
      have G2 := Lib.hid f2
      clear f2 k1 c0
      go_wp2_with fail
      refine (HP2.out _).mono ?_
      clear HP2
      rintro e w3 ⟨rfl, f3⟩
      have k3 := (HL.out.2 _ (G2.out.trans0 f3)).2.2.1
      have G3 := Lib.hid (G2.out.trans0 f3)
      clear f3 k2 G2
      go_wp2_with fail
      refine (HP3.out _).mono ?_
      clear HP3
      rintro e w4 ⟨rfl, f4⟩
      have k4 := (HL.out.2 _ (G3.out.trans0 f4)).2.2.2
      have G4 := Lib.hid (G3.out.trans0 f4)
      clear f4 k3 G3
      go_wp2_with fail
      refine (HP4.out _).mono ?_
      clear HP4
      rintro e w5 ⟨rfl, f5⟩
      have G5 := Lib.hid (G4.out.trans0 f5)
      clear f5 k4 G4
      obtain ⟨p, hp⟩ : ∃ p : PlanA, p = ⟨((o1.getD 0 : Nat) : Int), ((o2.getD 0 : Nat) : Int), ((o3.getD 0 : Nat) : Int), o4.getD 0⟩ := ⟨_, rfl⟩
      have N5 := PB.new w5 p
      have A5 : Fr [] w5 (w5.alloc (.cells #[.int .i64 p.threads, .int .i64 p.slots, .int .i64 p.levels, .int .u64 p.gen] 38)) := (Fr.refl _ _).alloc _
      rw [hp] at N5 A5
      dsimp only at N5 A5
      go_upto_region 9 with (fail)
      obtain ⟨q, hq⟩ : ∃ q, w5.heap.size = q := ⟨_, rfl⟩
      obtain ⟨U, hU⟩ : ∃ U, w5.alloc (.cells #[.int .i64 ((o1.getD 0 : Nat) : Int), .int .i64 ((o2.getD 0 : Nat) : Int), .int .i64 ((o3.getD 0 : Nat) : Int), .int .u64 ((o4.getD 0 : Nat) : Int)] 38) = U := ⟨_, rfl⟩
      rw [hU] at N5 A5
      rw [hq] at N5
      have hqg : q ≠ g := by have := HH.out.1.lt; have := G5.out.size; omega
      rw [hU, hq]
      clear hq hU
      have A5' := Lib.hid (G5.out.trans0 A5)
      have keyN : (o1.isSome && (o2.isSome && (o3.isSome && o4.isSome))) = false → planW ws = none := by
        rw [HL.out.1]
        intro hf
        cases o1 with
        | none => rfl
        | some a =>
          cases o2 with
          | none => rfl
          | some b =>
            cases o3 with
            | none => rfl
            | some c =>
              cases o4 with
              | none => rfl
              | some d => simp at hf
      have keyY : (o1.isSome && (o2.isSome && (o3.isSome && o4.isSome))) = true → planW ws = if PlanA.right ⟨((o1.getD 0 : Nat) : Int), ((o2.getD 0 : Nat) : Int), ((o3.getD 0 : Nat) : Int), o4.getD 0⟩ then some ⟨((o1.getD 0 : Nat) : Int), ((o2.getD 0 : Nat) : Int), ((o3.getD 0 : Nat) : Int), o4.getD 0⟩ else none := by
        rw [HL.out.1]
        intro hf
        cases o1 with
        | none => simp at hf
        | some a =>
          cases o2 with
          | none => simp at hf
          | some b =>
            cases o3 with
            | none => simp at hf
            | some c =>
              cases o4 with
              | none => simp at hf
              | some d => rfl
      have HKN := Lib.hid keyN
      have HKY := Lib.hid keyY
      clear keyN keyY HL hp A5 i0 i1 i2 i3 i4 lw
      generalize o1.getD 0 = n1 at *
      generalize o2.getD 0 = n2 at *
      generalize o3.getD 0 = n3 at *
      generalize o4.getD 0 = n4 at *
      generalize o1.isSome = b1 at *
      generalize o2.isSome = b2 at *
      generalize o3.isSome = b3 at *
      generalize o4.isSome = b4 at *
      have HS := Lib.hid (show ∀ W, Fr [g] U W → W.cell? ⟨q, 0, none⟩ = some (.int .i64 (n1 : Int)) ∧ W.cell? ⟨q, 1, none⟩ = some (.int .i64 (n2 : Int)) ∧ W.cell? ⟨q, 2, none⟩ = some (.int .i64 (n3 : Int)) ∧ W.cell? ⟨q, 3, none⟩ = some (.int .u64 (n4 : Int)) from fun W hW =>
        have h := N5.keep hW (by simp; omega)
        ⟨h.c0, h.c1, h.c2, h.c3⟩)
      have HGF := Lib.hid (show ∀ W, Fr [] U W → W.cell? ⟨g, 0, none⟩ = some (.int .i64 noPlan.threads) ∧ W.cell? ⟨g, 1, none⟩ = some (.int .i64 noPlan.slots) ∧ W.cell? ⟨g, 2, none⟩ = some (.int .i64 noPlan.levels) ∧ W.cell? ⟨g, 3, none⟩ = some (.int .u64 noPlan.gen) ∧ W.frozen? ⟨g, 0, none⟩ = false ∧ W.frozen? ⟨g, 1, none⟩ = false ∧ W.frozen? ⟨g, 2, none⟩ = false ∧ W.frozen? ⟨g, 3, none⟩ = false from fun W hW =>
        have h := HCE.out W (A5'.out.trans0 hW)
        ⟨h.c0, h.c1, h.c2, h.c3, h.fz 0, h.fz 1, h.fz 2, h.fz 3⟩)
      clear N5
      have hfr0 := Fr.refl [g] U
      have hmem : g ∈ [g] := by simp
      obtain ⟨r, hr⟩ : ∃ r, PlanA.right ⟨n1, n2, n3, n4⟩ = r := ⟨_, rfl⟩
      have HC0 := fun W => refRight_any n1 n2 n3 n4 W
      rw [hr] at HC0
      have HC := Lib.hid HC0
      have HRR := Lib.hid hr
      clear HC0 hr
      have hbs : (b1 && (b2 && (b3 && b4))) = true ∨ ((b1 && (b2 && (b3 && b4))) = false ∧ (b1 = false ∨ (b1 = true ∧ b2 = false) ∨ (b1 = true ∧ b2 = true ∧ b3 = false) ∨ (b1 = true ∧ b2 = true ∧ b3 = true ∧ b4 = false))) := by
        cases b1 <;> cases b2 <;> cases b3 <;> cases b4 <;> simp
      rcases hbs with hb | ⟨hb, hb2⟩
      · have HY := Lib.hid (HKY.out hb)
        simp only [Bool.and_eq_true] at hb
        obtain ⟨rfl, rfl, rfl, rfl⟩ := hb
        clear HKN HKY
        go_region_held3 (fun W => W.cell? ⟨q, 0, none⟩ = some (.int .i64 (n1 : Int)) ∧ W.cell? ⟨q, 1, none⟩ = some (.int .i64 (n2 : Int)) ∧ W.cell? ⟨q, 2, none⟩ = some (.int .i64 (n3 : Int)) ∧ W.cell? ⟨q, 3, none⟩ = some (.int .u64 (n4 : Int)))
          ((refine HS.out _ ?_; (with_reducible repeat' first | exact hfr0 | exact Fr.refl _ _ | (refine Fr.trans0 ?_ f7) | (refine Fr.drew ?_) | (refine Fr.setCell ?_ (.inl hmem) _))))
          (first | (go_at_call 42; with_reducible refine (HC.out _).mono ?_; rintro e w7 ⟨rfl, f7⟩; obtain ⟨g0, g1, g2, g3, z0, z1, z2, z3⟩ := HGF.out w7 (by with_reducible repeat' first | exact hfr0 | exact Fr.refl _ _ | (refine Fr.trans0 ?_ f7) | (refine Fr.drew ?_))))
        go_wp2
        have F7 : Fr [] U w7 := Fr.trans0 (Fr.drew (Fr.refl [] U)) f7
        refine rplan_door w _ _ g ⟨n1, n2, n3, n4⟩ s r rfl rfl ((HCE.out w7 (A5'.out.trans0 F7)).setAll ⟨n1, n2, n3, n4⟩) ((HH.out.2.1.trans0 (A5'.out.trans0 F7)).setP (.inr gw) _ _ _ _) ?_ ?_
        · rw [HH.out.2.2.2.2, HY.out, HRR.out]
          cases r <;> rfl
        · intro q hq
          rw [HH.out.2.2.2.2, HY.out] at hq
          split at hq
          · injection hq
          · cases hq
      · have HN := Lib.hid (HKN.out hb)
        clear HKN HKY HC hb
        obtain ⟨g0, g1, g2, g3, z0, z1, z2, z3⟩ := HGF.out U (Fr.refl _ _)
        rcases hb2 with rfl | ⟨rfl, rfl⟩ | ⟨rfl, rfl, rfl⟩ | ⟨rfl, rfl, rfl, rfl⟩
        all_goals
          obtain ⟨v0, v1, v2, v3⟩ := HS.out U hfr0
          go_region
          go_wp2
          have hn2 : planV s = none := by rw [HH.out.2.2.2.2, HN.out]
          exact rplan_door w _ _ g ⟨n1, n2, n3, n4⟩ s false rfl rfl (((HCE.out U A5'.out).setAll ⟨n1, n2, n3, n4⟩).keep0 ((Fr.refl [] _).drew)) ((HH.out.2.1.trans0 A5'.out).setP (.inr gw) _ _ _ _).drew (by rw [hn2]; rfl) (fun q hq => by rw [hn2] at hq; cases hq)
    · have hn : planW ws = none := planW_head hw0 (fun e => hq (by rw [← hZ, e]; rfl))
      have HN := Lib.hid hn
      have hq2 : (Z.toList == [112, 108, 97, 110]) = false := by simpa using (Lib.bytes_beq_false_iff Z ⟨#[112, 108, 97, 110]⟩).2 hq
      have CG := HCE.out w1 (Fr.refl _ _)
      have z0 := CG.fz 0
      have z1 := CG.fz 1
      have z2 := CG.fz 2
      have z3 := CG.fz 3
      have g0 := CG.c0
      have g1 := CG.c1
      have g2 := CG.c2
      have g3 := CG.c3
      clear hn hq hw0 hZ CG hx1 hx2 hx3 hx4 i1 i2 i3 i4
      go_wp2
      exact HOUT.out _ _ (Fr.refl _ _) HN.out rfl rfl noPlan
  · have hl2 : ((ws.length : Int) != 5) = true := by simp; omega
    have HN := Lib.hid (planW_len hl)
    have CG := HCE.out w1 (Fr.refl _ _)
    have z0 := CG.fz 0
    have z1 := CG.fz 1
    have z2 := CG.fz 2
    have z3 := CG.fz 3
    have g0 := CG.c0
    have g1 := CG.c1
    have g2 := CG.c2
    have g3 := CG.c3
    clear hl CG
    go_wp2
    exact HOUT.out _ _ (Fr.refl _ _) HN.out rfl rfl noPlan
end Go.Proofs.YtkdmodanfcpcfaaDoor
