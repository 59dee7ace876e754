/- DERIVED. Chapter 37: Parse, of the program. -/
import Derived.Test.YtkdmodanfcpcfaaDoorSpl
import Derived.Deep.QuietTactic
namespace Go.Proofs.YtkdmodanfcpcfaaDoor
open Go.RowKit

theorem RdAt.tail {α : Type} {E : Enc α} {w : World} {h n c : Nat} {xs : List α} (hr : RdAt E w (.slice (some ⟨h, 0, none⟩) n c) xs h 0) (h1 : E.sz = 1) (hn : 1 ≤ xs.length) :
    RdAt E w (.slice (some ⟨h, 1, none⟩) (n - 1) (c - 1)) (xs.drop 1) h 1 := by
  obtain ⟨⟨ao, cap, hv, ha, hl, hm⟩, hc, hlt⟩ := hr
  injection hv with e1 e2 e3
  subst e2 e3
  refine ⟨⟨some ⟨h, 1, none⟩, c - 1, by simp, fun _ => rfl, by simp; omega, by omega⟩, fun i x hx j hj => ?_, fun _ => hlt (by rintro rfl; simp at hn)⟩
  rw [List.getElem?_drop] at hx
  have := hc (1 + i) x hx j hj
  rw [h1] at this ⊢
  rw [← this]
  congr 2
  omega

def callAgg (c : CallA) : Value := .agg #[.int .i64 c.kind, .int .i64 c.deadline, .int .u64 c.draw, .int .u64 c.handle, .int .i64 c.count]
def noCall : CallA := ⟨0, 0, 0, 0, 0⟩

theorem CB.set0 {w : World} {g : Nat} {c : CallA} (h : CB w g c) (n : Int) : CB (w.setCell ⟨g, 0, none⟩ (.int .i64 n)) g { c with kind := n } :=
  ⟨set_same h.c0, by rw [World.cell?_setCell_other _ _ _ _ (other (by decide))]; exact h.c1, by rw [World.cell?_setCell_other _ _ _ _ (other (by decide))]; exact h.c2, by rw [World.cell?_setCell_other _ _ _ _ (other (by decide))]; exact h.c3, by rw [World.cell?_setCell_other _ _ _ _ (other (by decide))]; exact h.c4, fun j => by rw [World.frozen?_setCell]; exact h.fz j⟩
theorem CB.setAll {w : World} {g : Nat} {c0 : CallA} (h : CB w g c0) (c : CallA) : CB (((((w.setCell ⟨g, 0, none⟩ (.int .i64 c.kind)).setCell ⟨g, 1, none⟩ (.int .i64 c.deadline)).setCell ⟨g, 2, none⟩ (.int .u64 c.draw)).setCell ⟨g, 3, none⟩ (.int .u64 c.handle)).setCell ⟨g, 4, none⟩ (.int .i64 c.count)) g c :=
  ((((h.set0 c.kind).set1 c.deadline).set2 c.draw).set3 c.handle).set4 c.count
theorem Fr.setAll {w wd : World} {g : Nat} (h : Fr [] w wd) (hg : w.heap.size ≤ g) (a b c d e : Value) : Fr [] w (((((wd.setCell ⟨g, 0, none⟩ a).setCell ⟨g, 1, none⟩ b).setCell ⟨g, 2, none⟩ c).setCell ⟨g, 3, none⟩ d).setCell ⟨g, 4, none⟩ e) :=
  ((((h.setCell (p := ⟨g, 0, none⟩) (.inr hg) _).setCell (p := ⟨g, 1, none⟩) (.inr hg) _).setCell (p := ⟨g, 2, none⟩) (.inr hg) _).setCell (p := ⟨g, 3, none⟩) (.inr hg) _).setCell (p := ⟨g, 4, none⟩) (.inr hg) _
theorem call_door (w wd : World) (tmps : Array Value) (g : Nat) (c : CallA) (x : Int) (h2 : tmps[2]?.getD undef = .pointer (some ⟨g, 0, none⟩)) (h3 : tmps[3]?.getD undef = .int .i64 x) (hc : CB wd g c) (hf : Fr [] w wd) :
    bodyPost Tryd.prog Tryd.f44 (fun e w' => e = .returned (.tuple #[callAgg c, .int .i64 x]) ∧ Fr [] w w') Exit.ret { tmps := tmps, defers := [] } wd := by
  refine bodyPost_ret (v := .tuple #[callAgg c, .int .i64 x]) ?_ rfl ⟨rfl, hf⟩
  simp [results, Tryd.results44, go_sem, h2, h3, hc.c0, hc.c1, hc.c2, hc.c3, hc.c4, callAgg]

set_option maxRecDepth 20000 in
set_option maxHeartbeats 4000000 in
theorem callParse_any (s : List UInt8) (hs : s.length ≤ 1000000) (w : World) (hg : Glob w) :
    Calls Tryd.prog 44 #[.string (Str s)] w fun e w' => e = .returned (.tuple #[callAgg ((callV s).getD noCall), .int .i64 (if (callV s).isSome then 0 else 8)]) ∧ Fr [] w w' := by
  have F0 : Fr [] w (w.alloc (.cells #[.int .i64 0, .int .i64 0, .int .u64 0, .int .u64 0, .int .i64 0] 24)) := (Fr.refl _ _).alloc _
  have C0 : CB (w.alloc (.cells #[.int .i64 0, .int .i64 0, .int .u64 0, .int .u64 0, .int .i64 0] 24)) w.heap.size noCall :=
    ⟨by simp [noCall], by simp [noCall], by simp [noCall], by simp [noCall], by simp [noCall], fun j => by simp [go_sem]⟩
  have SP := split_any s hs _ (hg.keep F0)
  have hV : callV s = callR (wordsV s) 6 := rfl
  rw [hV]
  have hws := wordsV_each s
  have hwn := wordsV_len s
  have hw1 : 1 ≤ (wordsV s).length := List.length_pos_iff.2 (wordsV_ne s)
  obtain ⟨ws, hws'⟩ : ∃ ws, wordsV s = ws := ⟨_, rfl⟩
  rw [hws'] at SP hws hwn hw1 ⊢
  obtain ⟨S, hS⟩ : ∃ S, Str s = S := ⟨_, rfl⟩
  rw [hS] at SP ⊢
  obtain ⟨o, ho⟩ : ∃ o, callR ws 6 = o := ⟨_, rfl⟩
  rw [ho]
  have HSP := Lib.hid SP
  have H0 := Lib.hid (And.intro F0 (And.intro C0 (And.intro hg (And.intro hws ho))))
  clear SP F0 C0 hg hws ho hV hws' hS
  go_enter Tryd.func44, Tryd.ntmps44
  go_wp2_with fail
  rw [show (⟨#[32]⟩ : ByteArray) = Str [32] from rfl]
  refine HSP.out.mono ?_
  clear HSP
  rintro e w1 ⟨h, rfl, f1, hr⟩
  obtain ⟨g, hgg⟩ : ∃ g, w.heap.size = g := ⟨_, rfl⟩
  have C1 := H0.out.2.1.keep f1 (by simp)
  have F1 := H0.out.1.trans0 f1
  rw [hgg] at C1
  have gw : w.heap.size ≤ g := by omega
  rw [hgg]
  have HH := Lib.hid (And.intro C1 (And.intro F1 (And.intro hr (And.intro (H0.out.2.2.1.keep F1) (And.intro H0.out.2.2.2.1 H0.out.2.2.2.2)))))
  clear H0 C1 F1 hr hgg f1
  go_wp2_with fail
  go_loopw [5] (fun vi wr => ∃ k : Nat, vi = .int .i64 k ∧ 1 ≤ k ∧ k ≤ 7 ∧ Hid (callR ws (7 - k) = o) ∧ Hid (Fr [] w1 wr)) (fun vi _ => 7 - (intOf vi).toNat)
  case atStart => exact ⟨1, rfl, by omega, by omega, HH.out.2.2.2.2.2, Fr.refl _ _⟩
  case round =>
    obtain ⟨k, rfl, hk1, hk7, hR, hF⟩ := hrel
    by_cases hk : k ≤ 6
    · have OF := Lib.hid (fun W => of_k k hk1 hk W)
      have hlw : (shapeF k).length ≤ 3 := by unfold shapeF; split <;> simp
      obtain ⟨wd, hwd⟩ : ∃ wd, shapeW k = wd := ⟨_, rfl⟩
      obtain ⟨fs, hfs⟩ : ∃ fs, shapeF k = fs := ⟨_, rfl⟩
      obtain ⟨w0, hw0⟩ := at_of ws (k := 0) (by omega)
      have hr0 := HH.out.2.2.1.keep0 hF.out
      have i0 : ∀ W, Sem.run Tryd.prog (Instr.indexAt 55 (.slice (some ⟨h, 0, none⟩) ws.length ws.length) (.int .i64 0)) W = .ok (.pointer (some ⟨h, 0, none⟩)) W := idxS hr0 (k := 0) (by omega)
      have hstep : callR ws (7 - k) = if ws[0]? = some wd ∧ ws.length = 1 + fs.length then fillV ⟨(k : Int), 0, 0, 0, 0⟩ fs (ws.drop 1) else callR ws (6 - k) := by
        rw [show 7 - k = (6 - k) + 1 by omega, callR, show 6 - (6 - k) = k by omega, hwd, hfs]
      rw [hwd, hfs] at OF
      rw [hfs] at hlw
      have hfo : ∀ f ∈ fs, f = 68 ∨ f = 88 ∨ f = 72 ∨ f = 78 := by rw [← hfs]; exact shapeF_ok k
      have lw : ∀ (ty : TypeId) (W : World), Sem.run Tryd.prog (Builtin.len_ #[55] ty #[.slice (some ⟨h, 0, none⟩) ws.length ws.length]) W = .ok (.int .i64 ws.length) W := lenS hr0
      have lf := strLen fs
      obtain ⟨D, hD⟩ : ∃ D, Str wd = D := ⟨_, rfl⟩
      obtain ⟨X, hX⟩ : ∃ X, Str fs = X := ⟨_, rfl⟩
      obtain ⟨Z, hZ⟩ : ∃ Z, Str w0 = Z := ⟨_, rfl⟩
      rw [hD, hX] at OF
      rw [hX] at lf
      have HK := Lib.hid (And.intro hstep (And.intro hw0 (And.intro hD (And.intro hX (And.intro hZ (And.intro hfo hr0))))))
      clear hstep hw0 hD hX hfo hwd hfs hr0
      go_wp2_with fail
      refine (OF.out _).mono ?_
      clear OF
      rintro e w2 ⟨rfl, f2⟩
      have Fa : Fr [] w2 (w2.alloc (.cells #[.string D, .string X] 92)) := (Fr.refl _ _).alloc _
      have Ba := Box.new w2 #[.string D, .string X] 92
      have hz0 : (w2.alloc (.cells #[.string D, .string X] 92)).cell? ⟨h, 0, none⟩ = some (.string Z) := by
        rw [← hZ]
        have := cellS (HK.out.2.2.2.2.2.2.keep0 (f2.trans0 Fa)) HK.out.2.1
        simpa using this
      have HA := Lib.hid (And.intro (hF.out.trans0 (f2.trans0 Fa)) Ba)
      clear f2 Fa Ba hZ
      go_upto_region 6 with (fail)
      obtain ⟨e, he⟩ : ∃ e, w2.heap.size = e := ⟨_, rfl⟩
      obtain ⟨W, hW⟩ : ∃ W, w2.alloc (.cells #[.string D, .string X] 92) = W := ⟨_, rfl⟩
      rw [he, hW] at HA
      rw [hW] at hz0
      rw [he, hW]
      have b0 : W.cell? ⟨e, 0, none⟩ = some (.string D) := HA.out.2.cell 0
      have b1 : W.cell? ⟨e, 1, none⟩ = some (.string X) := HA.out.2.cell 1
      clear he hW
      by_cases hDZ : D = Z
      · have hwz : w0 = wd := by
          have := HK.out.2.2.1.trans (hDZ.trans HK.out.2.2.2.2.1.symm)
          have := congrArg (fun b => b.data.toList) this
          simpa [Str] using this.symm
        subst hDZ
        by_cases hl : ws.length = 1 + fs.length
        · have hl2 : ((ws.length : Int) != 1 + (fs.length : Int)) = false := by simp; omega
          have hfin : fillV ⟨(k : Int), 0, 0, 0, 0⟩ fs (ws.drop 1) = o := by
            rw [← hR.out, HK.out.1, if_pos ⟨by rw [HK.out.2.1, hwz], hl⟩]
          have HL := Lib.hid (And.intro hl hfin)
          clear hl hfin hwz
          go_quiet (fail)
          obtain ⟨V, hV⟩ : ∃ V, W.drewN nq = V := ⟨_, rfl⟩
          rw [hV]
          have FV : Fr [] W V := by rw [← hV]; exact (Fr.refl _ _).drewN _
          have bx : V.cell? ⟨e, 1, none⟩ = some (.string X) := (HA.out.2.keep0 FV).cell 1
          have HV := Lib.hid (And.intro (HA.out.1.trans0 FV) (HA.out.2.keep0 FV))
          clear hV FV HA b0 b1 hz0
          by_cases h1 : ws.length = 1
          · have hf0 : fs = [] := List.eq_nil_of_length_eq_zero (by have := HL.out.1; omega)
            have hon : o = some ⟨(k : Int), 0, 0, 0, 0⟩ := by rw [← HL.out.2, hf0]; cases ws.drop 1 <;> rfl
            subst hon
            have G1 : Fr [] V (V.alloc (.cells #[.int .i64 k, .int .i64 0, .int .u64 0, .int .u64 0, .int .i64 0] 24)) := (Fr.refl _ _).alloc _
            have K1 : CB (V.alloc (.cells #[.int .i64 k, .int .i64 0, .int .u64 0, .int .u64 0, .int .i64 0] 24)) V.heap.size ⟨(k : Int), 0, 0, 0, 0⟩ :=
              ⟨by simp, by simp, by simp, by simp, by simp, fun j => by simp [go_sem]⟩
            go_wp2_with fail
            obtain ⟨p, hp⟩ : ∃ p, V.heap.size = p := ⟨_, rfl⟩
            obtain ⟨U, hU⟩ : ∃ U, V.alloc (.cells #[.int .i64 k, .int .i64 0, .int .u64 0, .int .u64 0, .int .i64 0] 24) = U := ⟨_, rfl⟩
            rw [hU] at G1
            rw [hU, hp] at K1
            rw [hU, hp]
            have hwp : w1.heap.size ≤ p := by rw [← hp]; exact HV.out.1.size
            have HW := Lib.hid (And.intro K1 (And.intro (HV.out.1.trans0 G1) (And.intro (HV.out.2.keep0 G1) hwp)))
            clear G1 K1 hp hU hwp
            go_loopw [42] (fun vi wr2 => vi = .int .i64 0 ∧ CB wr2 p ⟨(k : Int), 0, 0, 0, 0⟩ ∧ Hid (Fr [] U wr2)) (fun vi _ => (intOf vi).toNat)
            case atStart => exact ⟨rfl, HW.out.1, Fr.refl _ _⟩
            case round =>
              obtain ⟨rfl, hcb, hfr⟩ := hrel
              have CG : CB wr g noCall := (HH.out.1.keep HW.out.2.1 (by simp)).keep hfr.out (by simp)
              have FW : Fr [] w wr := (HH.out.2.1.trans0 HW.out.2.1).trans0 hfr.out
              have HGG := Lib.hid (And.intro CG FW)
              have g0 := CG.c0
              have g1 := CG.c1
              have g2 := CG.c2
              have g3 := CG.c3
              have g4 := CG.c4
              have z0 := CG.fz 0
              have z1 := CG.fz 1
              have z2 := CG.fz 2
              have z3 := CG.fz 3
              have z4 := CG.fz 4
              have p0 := hcb.c0
              have p1 := hcb.c1
              have p2 := hcb.c2
              have p3 := hcb.c3
              have p4 := hcb.c4
              clear CG FW hcb
              go_wp2
              exact call_door w _ _ g ⟨(k : Int), 0, 0, 0, 0⟩ 0 rfl rfl (HGG.out.1.setAll ⟨(k : Int), 0, 0, 0, 0⟩) (HGG.out.2.setAll gw _ _ _ _ _)
          · have hrt : RdAt encS V (.slice (some ⟨h, 1, none⟩) (ws.length - 1) (ws.length - 1)) (ws.drop 1) h 1 := (HH.out.2.2.1.keep0 HV.out.1).tail rfl hw1
            have G1 : Fr [] V (V.alloc (.cells #[.int .i64 k, .int .i64 0, .int .u64 0, .int .u64 0, .int .i64 0] 24)) := (Fr.refl _ _).alloc _
            have K1 : CB (V.alloc (.cells #[.int .i64 k, .int .i64 0, .int .u64 0, .int .u64 0, .int .i64 0] 24)) V.heap.size ⟨(k : Int), 0, 0, 0, 0⟩ :=
              ⟨by simp, by simp, by simp, by simp, by simp, fun j => by simp [go_sem]⟩
            go_wp2_with fail
            obtain ⟨p, hp⟩ : ∃ p, V.heap.size = p := ⟨_, rfl⟩
            obtain ⟨U, hU⟩ : ∃ U, V.alloc (.cells #[.int .i64 k, .int .i64 0, .int .u64 0, .int .u64 0, .int .i64 0] 24) = U := ⟨_, rfl⟩
            rw [hU] at G1
            rw [hU, hp] at K1
            rw [hU, hp]
            have hwp : w1.heap.size ≤ p := by rw [← hp]; exact HV.out.1.size
            have HW := Lib.hid (And.intro K1 (And.intro (HV.out.1.trans0 G1) (And.intro (HV.out.2.keep0 G1) hwp)))
            have hep : e ≠ p := by have := HV.out.2.lt; omega
            clear G1 K1 hp hU hwp
            go_loopw [42] (fun vi wr2 => ∃ (n : Nat) (c : CallA), vi = .int .i64 n ∧ n ≤ fs.length ∧ CB wr2 p c ∧ Hid (fillV c (fs.drop n) ((ws.drop 1).drop n) = o) ∧ Hid (Fr [p] U wr2)) (fun vi _ => fs.length - (intOf vi).toNat)
            case atStart => exact ⟨0, _, rfl, by omega, HW.out.1, HL.out.2, Fr.refl _ _⟩
            case round =>
              obtain ⟨n, c, rfl, hn, hcb, hfl, hfr⟩ := hrel
              have hgl := HH.out.1.lt
              have hgp : g ≠ p := by have := HW.out.2.2.2; omega
              have CG : CB wr g noCall := (HH.out.1.keep HW.out.2.1 (by simp)).keep hfr.out (by simp; exact hgp)
              have FW : Fr [] w wr := by
                have f3 : Fr [] w U := HH.out.2.1.trans0 HW.out.2.1
                refine f3.trans hfr.out (fun x hx => .inr ?_)
                simp at hx; subst hx
                have := HW.out.2.2.2
                have := HH.out.2.1.size
                omega
              have HGG := Lib.hid (And.intro CG FW)
              by_cases hlt : n < fs.length
              · obtain ⟨f, hf⟩ := at_of fs hlt
                obtain ⟨x, hx⟩ := at_of (ws.drop 1) (k := n) (by have := HL.out.1; simp; omega)
                have ix := strIdx hf
                rw [HK.out.2.2.2.1] at ix
                have hrU : RdAt encS U (.slice (some ⟨h, 1, none⟩) (ws.length - 1) (ws.length - 1)) (ws.drop 1) h 1 := (HH.out.2.2.1.keep0 HW.out.2.1).tail rfl hw1
                have hhl : h < w1.heap.size := HH.out.2.2.1.lt (by rintro e; rw [e] at hw1; simp at hw1)
                have hr2 := hrU.keep hfr.out (by intro y hy; simp [sblk] at hy; subst hy; have := HW.out.2.2.2; simp; omega)
                have iw : ∀ W, Sem.run Tryd.prog (Instr.indexAt 55 (.slice (some ⟨h, 1, none⟩) (ws.length - 1) (ws.length - 1)) (.int .i64 n)) W = .ok (.pointer (some ⟨h, 1 + n, none⟩)) W := idxS hr2 (by have := HL.out.1; simp; omega)
                have cw := cellS hr2 hx
                have bx2 : wr.cell? ⟨e, 1, none⟩ = some (.string X) := (HW.out.2.2.1.keep hfr.out (by simp; exact hep)).cell 1
                have hxs : x.length ≤ 1000000 := by
                  have := HH.out.2.2.2.2.1 x (List.mem_of_mem_drop (List.mem_of_getElem? hx))
                  omega
                have SE := set_any c f (HK.out.2.2.2.2.2.1 f (List.mem_of_getElem? hf)) x hxs p wr (HH.out.2.2.2.1.keep (HW.out.2.1.trans hfr.out (fun y hy => .inr (by simp at hy; subst hy; exact HW.out.2.2.2)))) hcb
                obtain ⟨Y, hY⟩ : ∃ Y, Str x = Y := ⟨_, rfl⟩
                rw [hY] at cw SE
                have hst : fillV c (fs.drop n) ((ws.drop 1).drop n) = (setV c f x).bind fun c' => fillV c' (fs.drop (n + 1)) ((ws.drop 1).drop (n + 1)) := by
                  rw [List.drop_eq_getElem_cons hlt, (List.getElem?_eq_some_iff.1 hf).2, List.drop_eq_getElem_cons (List.getElem?_eq_some_iff.1 hx).1, (List.getElem?_eq_some_iff.1 hx).2]
                  rfl
                have HS := Lib.hid SE
                have HT := Lib.hid hst
                have hbd : n < ws.length - 1 := by have := HL.out.1; omega
                clear SE hst hr2 hrU hf hx hY hxs CG FW hcb
                go_wp2_with fail
                refine HS.out.mono ?_
                clear HS
                rintro e9 w4 ⟨rfl, f4, hc4⟩
                obtain ⟨r, hr⟩ : ∃ r, setV c f x = r := ⟨_, rfl⟩
                rw [hr] at hc4 ⊢
                have HRR := Lib.hid hr
                have CG4 : CB w4 g noCall := HGG.out.1.keep f4 (by simp; exact hgp)
                have hpw : w.heap.size ≤ p := by have := HW.out.2.2.2; have := HH.out.2.1.size; omega
                have FG4 : Fr [] w w4 := HGG.out.2.trans f4 (fun y hy => .inr (by simp at hy; subst hy; exact hpw))
                have F4 : Fr [p] U w4 := hfr.out.transS f4
                clear hr f4
                cases r with
                | some c' =>
                  have hcb4 := hc4 c' rfl
                  have HN := Lib.hid (show fillV c' (fs.drop (n + 1)) ((ws.drop 1).drop (n + 1)) = o from by
                    have := hfl.out
                    rw [HT.out, HRR.out] at this
                    exact this)
                  have HF4 := Lib.hid F4
                  clear hc4 CG4 FG4 F4
                  simp only [Option.isSome_some]
                  go_wp2
                  go_roundw
                  case rel => exact ⟨n + 1, c', by first | rfl | (congr 1; omega), by omega, hcb4, HN, HF4⟩
                  case measure => simp [intOf]; omega
                | none =>
                  have hon : o = none := by
                    have := hfl.out
                    rw [HT.out, HRR.out] at this
                    exact this.symm
                  subst hon
                  have g0 := CG4.c0
                  have g1 := CG4.c1
                  have g2 := CG4.c2
                  have g3 := CG4.c3
                  have g4 := CG4.c4
                  have z0 := CG4.fz 0
                  have z1 := CG4.fz 1
                  have z2 := CG4.fz 2
                  have z3 := CG4.fz 3
                  have z4 := CG4.fz 4
                  have HFG := Lib.hid (And.intro FG4 CG4)
                  clear hc4 CG4 FG4 F4
                  simp only [Option.isSome_none]
                  go_wp2
                  exact call_door w _ _ g noCall 8 rfl rfl (HFG.out.2.setAll noCall) (HFG.out.1.setAll gw _ _ _ _ _)
              · have hnl : n = fs.length := by omega
                have hon : o = some c := by
                  have := hfl.out
                  rw [List.drop_eq_nil_of_le (by omega : fs.length ≤ n)] at this
                  rw [← this]; cases (ws.drop 1).drop n <;> rfl
                subst hon
                have g0 := CG.c0
                have g1 := CG.c1
                have g2 := CG.c2
                have g3 := CG.c3
                have g4 := CG.c4
                have z0 := CG.fz 0
                have z1 := CG.fz 1
                have z2 := CG.fz 2
                have z3 := CG.fz 3
                have z4 := CG.fz 4
                have p0 := hcb.c0
                have p1 := hcb.c1
                have p2 := hcb.c2
                have p3 := hcb.c3
                have p4 := hcb.c4
                have hbd : ¬ n < ws.length - 1 := by have := HL.out.1; omega
                clear CG FW hcb
                go_wp2
                exact call_door w _ _ g c 0 rfl rfl (HGG.out.1.setAll c) (HGG.out.2.setAll gw _ _ _ _ _)
        · have hl2 : ((ws.length : Int) != 1 + (fs.length : Int)) = true := by simp; omega
          have hnx : callR ws (7 - (k + 1)) = o := by
            rw [show 7 - (k + 1) = 6 - k by omega, ← hR.out, HK.out.1, if_neg (fun h => hl h.2)]
          have HN := Lib.hid hnx
          clear hl hnx hwz
          go_quiet (fail)
          go_wp2
          go_roundw
          case rel => exact ⟨k + 1, by first | rfl | (congr 1; omega), by omega, by omega, HN.out, HA.out.1.drewN _⟩
          case measure => simp [intOf]; omega
      · have hq := (Lib.bytes_beq_false_iff D Z).2 hDZ
        have hnx : callR ws (7 - (k + 1)) = o := by
          rw [show 7 - (k + 1) = 6 - k by omega, ← hR.out, HK.out.1, if_neg]
          rintro ⟨h1, _⟩
          rw [HK.out.2.1] at h1
          injection h1 with h1
          exact hDZ (by rw [← HK.out.2.2.1, ← HK.out.2.2.2.2.1, h1])
        have HN := Lib.hid hnx
        clear hnx hDZ
        go_quiet (fail)
        go_wp2
        go_roundw
        case rel => exact ⟨k + 1, by first | rfl | (congr 1; omega), by omega, by omega, HN.out, HA.out.1.drewN _⟩
        case measure => simp [intOf]; omega
    · have hk : k = 7 := by omega
      subst hk
      have hon : o = none := by rw [← hR.out]; rfl
      subst hon
      have CG := HH.out.1.keep hF.out (by simp)
      have g0 := CG.c0
      have g1 := CG.c1
      have g2 := CG.c2
      have g3 := CG.c3
      have g4 := CG.c4
      have z0 := CG.fz 0
      have z1 := CG.fz 1
      have z2 := CG.fz 2
      have z3 := CG.fz 3
      have z4 := CG.fz 4
      have HFG := Lib.hid (And.intro (HH.out.2.1.trans0 hF.out) CG)
      clear CG
      go_wp2
      exact call_door w _ _ g noCall 8 rfl rfl (HFG.out.2.setAll noCall) (HFG.out.1.setAll gw _ _ _ _ _)
end Go.Proofs.YtkdmodanfcpcfaaDoor
