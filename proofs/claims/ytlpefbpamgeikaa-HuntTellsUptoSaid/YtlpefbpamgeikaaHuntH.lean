/- DERIVED. Chapter 46: from: one step of the search. -/
import Derived.Test.YtlpefbpamgeikaaHuntG
import Derived.Deep.Cut
namespace Go.Proofs.Ytlpefbpamgeikaa
open Go.RowKit
open Go.ChangeMaps (setBlock)

set_option maxRecDepth 20000 in
set_option maxHeartbeats 2000000 in
theorem from_succ (ps bb : Nat) (vl vt : Value) (x : List Rec) (A : Acts) (ts : List Int) (N : Nat) (hx : Say x A) (n : Nat) (hn : n + 1 ≤ 8) (ih : FromAt ps bb vl vt x A ts N n) : FromAt ps bb vl vt x A ts N (n + 1) := by
  intro c lv ws p bl bw f V w h hm hmap hc hsum hI hM hV0 hV hp hl hw
  have hx8 := hx.len
  have hFn := Fn_pos n
  have hFe : Fn (n + 1) = 1 + 8 * Fn n := rfl
  obtain ⟨c0, c1, c2, c3, c4, c5, c6, c7, hcc, -⟩ := eight hc
  have B0 := Box.new w (cv c) 72
  have F0 := (Fr.refl [] w).alloc (.cells (cv c) 72)
  have hgb : w.heap.size ≠ bb := Nat.ne_of_gt hmap.lt
  have hgs : w.heap.size ≠ ps := Nat.ne_of_gt h.box.lt
  have S0 := h.keep0 F0
  have M0 := hm.keep0 F0
  have D0 := hmap.keep F0 (by simp)
  have e1 : cv c = #[.int .u8 c0, .int .u8 c1, .int .u8 c2, .int .u8 c3, .int .u8 c4, .int .u8 c5, .int .u8 c6, .int .u8 c7] := by rw [hcc, cv8]
  have d0 : ((n : Int) + 1 == 0) = false := by simp; omega
  obtain ⟨res, hres⟩ : ∃ res, srch x A ts (n + 1) c lv ws = res := ⟨_, rfl⟩
  rw [hres]
  have HH := Lib.hid (And.intro F0 (And.intro B0 (And.intro S0 (And.intro M0 (And.intro D0 (And.intro e1 (And.intro hcc (And.intro hgb (And.intro hgs (And.intro hI (And.intro hM (And.intro hsum (And.intro hc (And.intro hres (And.intro hp (And.intro hl hw))))))))))))))))
  rw [e1]
  clear F0 B0 S0 M0 D0 hgb hgs hI hM hsum hc hcc hres h hm hmap hp hl hw
  push_cast
  have HE := Lib.hid e1
  clear e1
  go_enter Try.func35, Try.ntmps35
  go_wp2_with fail
  obtain ⟨F0, B0, S0, M0, D0, -, hcc, hgb, hgs, hI, hM, hsum, hc, hres, hp, hl, hw⟩ := HH.out
  obtain ⟨g, hg⟩ : ∃ g, w.heap.size = g := ⟨_, rfl⟩
  rw [hg] at B0 hgb hgs ⊢
  clear hg HH
  obtain ⟨u, hu⟩ : ∃ u, w.alloc (.cells (cv c) 72) = u := ⟨_, rfl⟩
  rw [hu] at F0 B0 S0 M0 D0
  rw [HE.out] at hu
  rw [hu]
  clear hu
  obtain ⟨es, ck, hes, E⟩ := D0
  obtain ⟨es1, ck1, st, es2, E2, r1, r2, r5, r3, r4⟩ := been_ok es ck f c hc E
  obtain ⟨v0, hv0⟩ : ∃ v0, (f c).getD 0 = v0 := ⟨_, rfl⟩
  have hv1 : 0 ≤ v0 ∧ v0 ≤ V := by
    cases hf : f c with
    | none => rw [hf] at hv0; simp at hv0; omega
    | some m => rw [hf] at hv0; simp at hv0; have := hM.at_ c m hf; omega
  rw [hv0] at r1 r2 r3 r4 r5 E2
  rw [HE.out] at r1 r2 r3 r5
  replace r1 := r1 u.drew bb hes
  have f1 := sb_fr u.drew bb (.map es1 ck1)
  have g1 := sb_same (w := u.drew) (b := bb) (Array.getElem?_eq_some_iff.1 hes).1 (.map es1 ck1)
  replace r3 := r3 u.drew bb hes
  obtain ⟨v1, hv⟩ : ∃ v, setBlock u.drew bb (.map es1 ck1) = v := ⟨_, rfl⟩
  rw [hv] at r3 f1 g1
  clear hv
  replace r2 := r2 v1 bb g1
  replace r4 := r4 v1 bb g1
  have f2 := sb_fr v1 bb (.map es2 ck1)
  have g2 := sb_same (w := v1) (b := bb) (Array.getElem?_eq_some_iff.1 g1).1 (.map es2 ck1)
  obtain ⟨v2, hv⟩ : ∃ v, setBlock v1 bb (.map es2 ck1) = v := ⟨_, rfl⟩
  rw [hv] at r4 f2 g2
  clear hv
  have F2 : Fr [bb] u v2 := ((Fr.refl [bb] u).drew.transS f1).transS f2
  have b8 := box8 (W := u.drew) B0.drew hcc
  have b3 := box3 (W := u.drew) S0.box.drew
  have b8' := box8 ((B0.drew).keep f1 (by simpa using hgb)) hcc
  have b3' := box3 ((S0.box.drew).keep f1 (by simpa using S0.np))
  have hvb : v0 + 1 ≤ 9223372036854775807 := by omega
  have hvc : -9223372036854775808 ≤ v0 + 1 := by omega
  have R5 := Lib.hid (And.intro (r5 v2 bb g2) (And.intro (r5 v2.drew bb g2) (fun m => r5 (v2.drewN m) bb g2)))
  have HK := Lib.hid (And.intro F0 (And.intro F2 (And.intro B0 (And.intro S0 (And.intro M0 (And.intro (show MapAt kvC evI CntOk v2 bb (upd f c (some (v0 + 1))) from ⟨_, _, g2, E2⟩) (And.intro hgb (And.intro hcc (And.intro hI (And.intro hM (And.intro hsum (And.intro hc (And.intro hres (And.intro hp (And.intro hl hw)))))))))))))))
  clear F0 F2 B0 S0 M0 hes E E2 g1 g2 f1 f2 hgb hgs hcc hI hM hsum hc hres hp hl hw r5
  have HV := Lib.hid hv1
  have HW := Lib.hid hv0
  have HZ := Lib.hid (And.intro hV0 (And.intro hV (And.intro hFn hFe)))
  clear hv1 hv0 hV0 hV hFn hFe
  go_region
  clear r1 r2 r3 r4 b8 b3 b8' b3'
  obtain ⟨F0, F2, B0, S0, M0, D2, hgb, hcc, hI, hM, hsum, hc, hres, hp, hl, hw⟩ := HK.out
  have b8 := box8 (B0.keep F2 (by simpa using hgb)) hcc
  have b3 := box3 (S0.box.keep F2 (by simpa using S0.np))
  obtain ⟨r6, r7, r8⟩ := R5.out
  clear R5
  clear F0 F2 B0 S0 M0 D2 hgb hcc hI hM hsum hc hres hp hl hw
  by_cases h0 : v0 = 0
  · have d1 : decide (1 < v0 + 1) = false := by simp; omega
    have H0 := Lib.hid h0
    clear h0
    obtain ⟨F0, F2, B0, S0, M0, D2, hgb, hcc, hI, hM, hsum, hc, hres, hp, hl, hw⟩ := HK.out
    obtain ⟨bx, ox, hx1⟩ := S0.recs
    have l0 := lenR hx1
    clear F0 F2 B0 S0 M0 D2 hgb hcc hI hM hsum hc hres hp hl hw
    go_wp2_with fail
    go_quiet (fail)
    go_wp2_with fail
    clear r6 r7 r8 b8 b3 d0 d1
    go_loopw [36] (fun i wr => ∃ (k : Nat) (h : Memo), k ≤ x.length ∧ i = .int .i64 k ∧ LoopAt x A ts N n c lv ws f V bb u k h wr) (fun i _ => x.length - (intOf i).toNat)
    case atStart =>
      obtain ⟨F0, F2, B0, S0, M0, D2, hgb, hcc, hI, hM, hsum, hc, hres, hp, hl, hw⟩ := HK.out
      have hfc : f c = none := by
        cases hf : f c with
        | none => rfl
        | some m => have h1 := HW.out; rw [hf] at h1; simp at h1; have h2 := hM.at_ c m hf; have := H0.out; omega
      rw [H0.out] at D2
      exact ⟨0, _, by omega, rfl, LoopAt.start hM hfc HZ.out.1 (D2.keep ((Fr.refl [] v2).drewN _) (by simp)) (F2.drewN _)⟩
    case round =>
      obtain ⟨k, h, hk, rfl, hL⟩ := hrel
      have HL := Lib.hid hL
      clear hL
      by_cases hkx : k < x.length
      · obtain ⟨q, hq⟩ := at_of x hkx
        obtain ⟨F0, F2, B0, S0, M0, D2, hgb, hcc, hI, hM, hsum, hc, hres, hp, hl, hw⟩ := HK.out
        have hFw := HL.out.fr
        have Sw := S0.keep hFw
        have i1 := idxR hx1 hkx
        have c0 := recAt (hx1.keep hFw (by simpa using S0.nl)) hq
        have F1 := (Fr.refl [] wr).alloc (.cells #[.int .i64 q.thread, .int .i64 q.call.kind, .int .i64 q.call.deadline, .int .u64 q.call.draw, .int .u64 q.call.handle, .int .i64 q.call.count, .int .i64 q.beg, .int .i64 q.fin, .bool q.done, .int .i64 q.err, .bool q.aok, .int .u64 q.ahandle, .slice q.batch.a q.batch.n q.batch.c, .slice q.acts.a q.acts.n q.acts.c] 52)
        have B1 := Box.new wr #[.int .i64 q.thread, .int .i64 q.call.kind, .int .i64 q.call.deadline, .int .u64 q.call.draw, .int .u64 q.call.handle, .int .i64 q.call.count, .int .i64 q.beg, .int .i64 q.fin, .bool q.done, .int .i64 q.err, .bool q.aok, .int .u64 q.ahandle, .slice q.batch.a q.batch.n q.batch.c, .slice q.acts.a q.acts.n q.acts.c] 52
        have b8 := box8 ((B0.keep hFw (by simpa using hgb)).keep0 F1) hcc
        have HN := Lib.hid (And.intro F1 (And.intro B1 hq))
        clear F0 F2 B0 S0 M0 D2 hgb hcc hI hM hsum hc hres hp hl hw hFw Sw F1 B1 hq
        go_wp2_with fail
        clear i1 c0 b8
        obtain ⟨F0, F2, B0, S0, M0, D2, hgb, hcc, hI, hM, hsum, hc, hres, hp, hl, hw⟩ := HK.out
        have MY := may_any ps bb vl vt x A ts c k q _ ((S0.keep HL.out.fr).keep0 HN.out.1) hc HN.out.2.2 hx.len
        rw [HE.out] at MY
        refine MY.mono ?_
        clear MY
        rintro e w3 ⟨bm, rfl, hbm, f3⟩
        cases bm
        · have hno : ∀ r a, ¬ StepOk x A ts c lv ws k r a := by
            intro r a hs
            have h1 := hs.rcd
            rw [HN.out.2.2] at h1
            injection h1 with h1
            subst h1
            have := hbm.2 hs.may
            cases this
          have HQ := Lib.hid (HL.out.skip (HN.out.1.trans0 f3) hno)
          clear F0 F2 B0 S0 M0 D2 hgb hcc hI hM hsum hc hres hp hl hw hno hbm f3 HL HN
          go_wp2
          go_roundw
          case rel => exact ⟨k + 1, h, by omega, by go_num, HQ.out⟩
          case measure => simp [intOf]; omega
        · have hmay := hbm.1 rfl
          have B1 := HN.out.2.1.keep0 f3
          have f4 := HN.out.1.trans0 f3
          have FF := HL.out.fr.trans0 f4
          have M3 := M0.keep FF (by simpa using hp) (by simpa using hl) (by simpa using hw)
          have HP := Lib.hid (And.intro hmay (And.intro HN.out.2.2 (And.intro f4 B1)))
          have CP := copy_any p bl bw lv ws w3 M3
          replace CP := Lib.hid CP
          clear F0 F2 B0 S0 M0 D2 hgb hcc hI hM hsum hc hres hp hl hw hmay hbm f3 f4 B1 HN M3 FF
          obtain ⟨eb, heb⟩ : ∃ eb, wr.heap.size = eb := ⟨_, rfl⟩
          rw [heb] at HP ⊢
          clear heb
          go_wp2_with fail
          refine CP.out.mono ?_
          clear CP
          rintro e w5 ⟨p', bl', bw', rfl, f5, M5, z1, z2, z3⟩
          obtain ⟨F0, F2, B0, S0, M0, D2, hgb, hcc, hI, hM, hsum, hc, hres, hp, hl, hw⟩ := HK.out
          obtain ⟨hmay, hq, f4, B1⟩ := HP.out
          have hk8 : k < c.length := by rw [hc.len]; omega
          have FF := HL.out.fr.trans0 (f4.trans0 f5)
          have S5 := S0.keep FF
          obtain ⟨n0, hn0⟩ : ∃ n0, c.getD k 0 = n0 := ⟨_, rfl⟩
          have hn8 := hx.acts q (List.mem_of_getElem? hq)
          have hlt : n0 < q.acts.n := by rw [← hn0]; exact hmay.1
          obtain ⟨ba, oa, ha0⟩ := S0.acts q (List.mem_of_getElem? hq)
          have ha := ha0.keep FF (by simpa using S0.na q (List.mem_of_getElem? hq))
          have hal := acts_len ⟨_, _, ha⟩
          obtain ⟨a, hat⟩ := at_of (A q) (k := n0) (by omega)
          have i1 := idxA8 ha (k := n0) (by omega)
          have Ba := B1.keep0 f5
          have Bg := B0.keep FF (by simpa using hgb)
          have hcell := Bg.cell k
          rw [cv_at hk8, hn0] at hcell
          have hk7 : (k : Int) < 8 := by omega
          have hbal : ba < u.heap.size := ha0.lt (by intro e; rw [e] at hat; simp at hat)
          have hu3 : u.heap.size ≤ w3.heap.size := Nat.le_trans HL.out.fr.size f4.size
          have hbe := B1.lt
          have hbg := B0.lt
          have hbp := S0.box.lt
          have hbaw := Nat.lt_of_lt_of_le hbal FF.size
          have facts : ∀ W, Fr [bl', bw'] w5 W → (W.cell? ⟨eb, 0, none⟩ = some (.int .i64 q.thread) ∧ W.cell? ⟨eb, 1, none⟩ = some (.int .i64 q.call.kind) ∧ W.cell? ⟨eb, 2, none⟩ = some (.int .i64 q.call.deadline) ∧ W.cell? ⟨eb, 3, none⟩ = some (.int .u64 q.call.draw) ∧ W.cell? ⟨eb, 4, none⟩ = some (.int .u64 q.call.handle) ∧ W.cell? ⟨eb, 5, none⟩ = some (.int .i64 q.call.count) ∧ W.cell? ⟨eb, 6, none⟩ = some (.int .i64 q.beg) ∧ W.cell? ⟨eb, 7, none⟩ = some (.int .i64 q.fin) ∧ W.cell? ⟨eb, 8, none⟩ = some (.bool q.done) ∧ W.cell? ⟨eb, 9, none⟩ = some (.int .i64 q.err) ∧ W.cell? ⟨eb, 10, none⟩ = some (.bool q.aok) ∧ W.cell? ⟨eb, 11, none⟩ = some (.int .u64 q.ahandle) ∧ W.cell? ⟨eb, 12, none⟩ = some (.slice q.batch.a q.batch.n q.batch.c) ∧ W.cell? ⟨eb, 13, none⟩ = some (.slice q.acts.a q.acts.n q.acts.c)) ∧ W.cell? ⟨g, k, none⟩ = some (.int .u8 n0) ∧ (W.cell? ⟨ba, oa + n0 * 4, none⟩ = some (.int .i64 a.kind) ∧ W.cell? ⟨ba, oa + n0 * 4 + 1, none⟩ = some (.int .u64 a.handle) ∧ W.cell? ⟨ba, oa + n0 * 4 + 2, none⟩ = some (.int .i64 a.deadline) ∧ W.cell? ⟨ba, oa + n0 * 4 + 3, none⟩ = some (.int .i64 a.step)) ∧ W.cell? ⟨ps, 1, none⟩ = some vt := by
            intro W hW
            have a4 := actAt ha hat
            refine ⟨box14 (Ba.keep hW (by simp; omega)), ?_, ?_, (box3 (S5.box.keep hW (by simp; omega))).2.1⟩
            · rw [hW.cell Bg.lt (by simp; omega)]; exact hcell
            · rw [hW.cell hbaw (by simp; omega), hW.cell hbaw (by simp; omega), hW.cell hbaw (by simp; omega), hW.cell hbaw (by simp; omega)]; exact a4
          have HX := Lib.hid (And.intro FF (And.intro S5 (And.intro hn0 (And.intro hlt (And.intro hat (And.intro Bg hq))))))
          have TM : ∀ W, Fr [] w5 W → Calls Try.prog 23 #[.agg #[.int .i64 q.thread, .int .i64 q.call.kind, .int .i64 q.call.deadline, .int .u64 q.call.draw, .int .u64 q.call.handle, .int .i64 q.call.count, .int .i64 q.beg, .int .i64 q.fin, .bool q.done, .int .i64 q.err, .bool q.aok, .int .u64 q.ahandle, .slice q.batch.a q.batch.n q.batch.c, .slice q.acts.a q.acts.n q.acts.c], vt] W fun e w' => e = .returned (.int .i64 (timeV q ts)) ∧ Fr [] W w' :=
            fun W hW => time_any vt ts q W ((S5.keep0 hW).times) (hx.fin q (List.mem_of_getElem? hq))
          have DO : ∀ W, Fr [] w5 W → Calls Try.prog 42 #[.pointer (some ⟨p', 0, none⟩), .agg #[.int .i64 a.kind, .int .u64 a.handle, .int .i64 a.deadline, .int .i64 a.step], .int .i64 (timeV q ts)] W fun e w' =>
              e = .returned (.bool (legalB lv ws a.kind a.handle a.deadline (timeV q ts))) ∧ Fr [bl', bw'] W w' ∧ (legalB lv ws a.kind a.handle a.deadline (timeV q ts) = true → ModAt w' p' bl' bw' (doM lv ws a.kind a.handle a.deadline).1 (doM lv ws a.kind a.handle a.deadline).2) :=
            fun W hW => do_any p' bl' bw' lv ws a.kind a.handle a.deadline a.step (timeV q ts) W (M5.keep0 hW) (hx.uok q (List.mem_of_getElem? hq) a (List.mem_of_getElem? hat))
          have FA := Lib.hid facts
          replace TM := Lib.hid TM
          replace DO := Lib.hid DO
          have hfr0 : Fr [] w5 w5.drew := (Fr.refl _ _).drew
          clear F0 F2 B0 S0 M0 D2 hgb hcc hI hM hsum hc hres hp hl hw hmay f4 B1 hk8 FF S5 hn0 ha hal hat Ba Bg hcell facts hq ha0 hbal hu3 hbe hbg hbp hbaw
          go_wp2_with fail
          go_region_held3 (fun W => (W.cell? ⟨eb, 0, none⟩ = some (.int .i64 q.thread) ∧ W.cell? ⟨eb, 1, none⟩ = some (.int .i64 q.call.kind) ∧ W.cell? ⟨eb, 2, none⟩ = some (.int .i64 q.call.deadline) ∧ W.cell? ⟨eb, 3, none⟩ = some (.int .u64 q.call.draw) ∧ W.cell? ⟨eb, 4, none⟩ = some (.int .u64 q.call.handle) ∧ W.cell? ⟨eb, 5, none⟩ = some (.int .i64 q.call.count) ∧ W.cell? ⟨eb, 6, none⟩ = some (.int .i64 q.beg) ∧ W.cell? ⟨eb, 7, none⟩ = some (.int .i64 q.fin) ∧ W.cell? ⟨eb, 8, none⟩ = some (.bool q.done) ∧ W.cell? ⟨eb, 9, none⟩ = some (.int .i64 q.err) ∧ W.cell? ⟨eb, 10, none⟩ = some (.bool q.aok) ∧ W.cell? ⟨eb, 11, none⟩ = some (.int .u64 q.ahandle) ∧ W.cell? ⟨eb, 12, none⟩ = some (.slice q.batch.a q.batch.n q.batch.c) ∧ W.cell? ⟨eb, 13, none⟩ = some (.slice q.acts.a q.acts.n q.acts.c)) ∧ W.cell? ⟨g, k, none⟩ = some (.int .u8 n0) ∧ (W.cell? ⟨ba, oa + n0 * 4, none⟩ = some (.int .i64 a.kind) ∧ W.cell? ⟨ba, oa + n0 * 4 + 1, none⟩ = some (.int .u64 a.handle) ∧ W.cell? ⟨ba, oa + n0 * 4 + 2, none⟩ = some (.int .i64 a.deadline) ∧ W.cell? ⟨ba, oa + n0 * 4 + 3, none⟩ = some (.int .i64 a.step)) ∧ W.cell? ⟨ps, 1, none⟩ = some vt)
            (first
              | exact FA.out _ (hfr0.mono (by simp))
              | exact FA.out _ ((hfr0.trans0 f6).mono (by simp))
              | exact FA.out _ (((hfr0.trans0 f6).mono (by simp)).transS f7))
            (first
              | (go_at_call 23; refine (TM.out _ hfr0).mono ?_; rintro e w6 ⟨rfl, f6⟩)
              | (go_at_call 42; refine (DO.out _ (hfr0.trans0 f6)).mono ?_; rintro e w7 ⟨rfl, f7, M7⟩))
          rename_i hHeld
          clear hHeld TM DO FA i1
          obtain ⟨b, hb⟩ : ∃ b, legalB lv ws a.kind a.handle a.deadline (timeV q ts) = b := ⟨_, rfl⟩
          rw [hb] at M7 ⊢
          have f8 : Fr [] w3 w6 := (f5.trans0 hfr0).trans0 f6
          have z4 : wr.heap.size ≤ w3.heap.size := HP.out.2.2.1.size
          have F7 : Fr [] wr w7 := by
            refine (HP.out.2.2.1.trans0 f8).trans f7 ?_
            simp only [List.mem_cons, List.not_mem_nil, or_false]
            rintro x (rfl | rfl) <;> exact .inr (by omega)
          clear f5 hfr0 f6 f7 f8 M5
          have hat : StepOk x A ts c lv ws k q a ↔ b = true := by
            obtain ⟨hmay, hq, _, _⟩ := HP.out
            obtain ⟨_, _, hn0, _, hat, _, _⟩ := HX.out
            constructor
            · intro hs; rw [← hb]; exact hs.legal
            · intro h; exact ⟨hq, hmay, by rw [hn0]; exact hat, by rw [hb]; exact h⟩
          have hone : ∀ r a', StepOk x A ts c lv ws k r a' → r = q ∧ a' = a := by
            intro r a' hs
            obtain ⟨hmay, hq, _, _⟩ := HP.out
            obtain ⟨_, _, hn0, _, hat, _, _⟩ := HX.out
            have h1 := hs.rcd
            rw [hq] at h1
            injection h1 with h1
            subst h1
            have h2 := hs.act
            rw [hn0, hat] at h2
            injection h2 with h2
            exact ⟨rfl, h2.symm⟩
          cases b
          · have hno : ∀ r a, ¬ StepOk x A ts c lv ws k r a := by
              intro r a' hs
              obtain ⟨rfl, rfl⟩ := hone r a' hs
              have := hat.1 hs
              cases this
            have HQ := Lib.hid (HL.out.skip F7 hno)
            clear hno hat hone F7 M7 HL HP HX hb
            go_wp2
            go_roundw
            case rel => exact ⟨k + 1, h, by omega, by go_num, HQ.out⟩
            case measure => simp [intOf]; omega
          · have hstep := hat.2 rfl
            have M8 := M7 rfl
            have hL := HL.out
            obtain ⟨F0, F2, B0, S0, M0, D2, hgb, hcc, hI, hM, hsum, hc, hres, hp, hl, hw⟩ := HK.out
            have FF := hL.fr.trans0 F7
            have B7 := B0.keep FF (by simpa using hgb)
            have b8 := box8 B7 hcc
            have HJ := Lib.hid (And.intro hstep (And.intro M8 (And.intro F7 hone)))
            clear F0 F2 B0 S0 M0 D2 hgb hcc hI hM hsum hc hres hp hl hw hat hone F7 M7 hb hstep M8 hL FF B7
            go_upto_region 13 with (fail)
            clear b8
            have F8 := (Fr.refl [] w7).alloc (.cells #[.int .u8 c0, .int .u8 c1, .int .u8 c2, .int .u8 c3, .int .u8 c4, .int .u8 c5, .int .u8 c6, .int .u8 c7] 72)
            have B8 := Box.new w7 #[.int .u8 c0, .int .u8 c1, .int .u8 c2, .int .u8 c3, .int .u8 c4, .int .u8 c5, .int .u8 c6, .int .u8 c7] 72
            have fz := World.frozen?_alloc_new w7 #[.int .u8 c0, .int .u8 c1, .int .u8 c2, .int .u8 c3, .int .u8 c4, .int .u8 c5, .int .u8 c6, .int .u8 c7] 72 k
            have zd : w7.heap.size ≤ w7.heap.size := Nat.le_refl _
            obtain ⟨dq, hdq⟩ : ∃ dq, w7.heap.size = dq := ⟨_, rfl⟩
            rw [hdq] at B8 fz ⊢
            obtain ⟨w8, hw8⟩ : ∃ w8, w7.alloc (.cells #[.int .u8 c0, .int .u8 c1, .int .u8 c2, .int .u8 c3, .int .u8 c4, .int .u8 c5, .int .u8 c6, .int .u8 c7] 72) = w8 := ⟨_, rfl⟩
            rw [hw8] at F8 B8 fz ⊢
            clear hw8 zd
            rw [← HE.out] at B8
            obtain ⟨F0, F2, B0, S0, M0, D2, hgb, hcc, hI, hM, hsum, hc, hres, hp, hl, hw⟩ := HK.out
            obtain ⟨hstep, M8, F7, hone⟩ := HJ.out
            have hk8 : k < c.length := by rw [hc.len]; omega
            have hn0 : c.getD k 0 = n0 := HX.out.2.2.1
            have hn07 : n0 < 8 := by omega
            have cell8 := B8.cell k
            rw [cv_at hk8, hn0] at cell8
            have B9 : Box (w8.setCell ⟨dq, k, none⟩ (.int .u8 ((n0 : Int) + 1))) dq (cv (bump c k)) := by
              refine ⟨fun j => ?_, by simpa using B8.lt⟩
              by_cases hjk : j = k
              · subst hjk
                rw [World.cell?_setCell_same _ _ _ cell8, cv_at (by rw [bump_len]; exact hk8), bump_at hk8, if_pos rfl, hn0]
                rfl
              · rw [World.cell?_setCell_other _ _ _ _ (by intro e; injection e with _ e; exact hjk e.symm), B8.cell]
                by_cases hj8 : j < c.length
                · rw [cv_at hj8, cv_at (by rw [bump_len]; exact hj8), bump_at hk8, if_neg hjk]
                · rw [Array.getElem?_eq_none (by simp [cv]; omega), Array.getElem?_eq_none (by simp [cv, bump_len]; omega)]
            have F9 : Fr [] w7 (w8.setCell ⟨dq, k, none⟩ (.int .u8 ((n0 : Int) + 1))) := F8.setCell (.inr (by simp [hdq])) _
            have HJ2 := Lib.hid (And.intro B9 (And.intro F9 hn0))
            clear F0 F2 B0 S0 M0 D2 hgb hcc hI hM hsum hc hres hp hl hw hstep M8 F7 hone hk8 hn0 B8 B9 F8 F9 hdq
            go_upto_region 14 with (fail)
            clear cell8 fz
            obtain ⟨w9, hw9⟩ : ∃ w9, w8.setCell ⟨dq, k, none⟩ (.int .u8 ((n0 : Int) + 1)) = w9 := ⟨_, rfl⟩
            rw [hw9] at HJ2 ⊢
            clear hw9
            obtain ⟨F0, F2, B0, S0, M0, D2, hgb, hcc, hI, hM, hsum, hc, hres, hp, hl, hw⟩ := HK.out
            obtain ⟨hstep, M8, F7, hone⟩ := HJ.out
            obtain ⟨B9, F9, hn0⟩ := HJ2.out
            have hk8 : k < c.length := by rw [hc.len]; omega
            have F79 := F7.trans0 F9
            have FF := HL.out.fr.trans0 F79
            have hbo : CntOk (bump c k) := bump_ok hc (by omega)
            obtain ⟨d0', d1', d2', d3', d4', d5', d6', d7', hdd, -⟩ := eight hbo
            have b8 := box8 B9 hdd
            have e9 : cv (bump c k) = #[.int .u8 d0', .int .u8 d1', .int .u8 d2', .int .u8 d3', .int .u8 d4', .int .u8 d5', .int .u8 d6', .int .u8 d7'] := by rw [hdd, cv8]
            obtain ⟨v1', v2'⟩ := LoopAt.room (n := n) (V := V) (k := k) (by omega) HZ.out.2.1 HZ.out.1
            have bbw : bb < wr.heap.size := HL.out.mem.lt
            have CH := ih (bump c k) (doM lv ws a.kind a.handle a.deadline).1 (doM lv ws a.kind a.handle a.deadline).2 p' bl' bw' h (V + 1 + k * Fn n) w9 (S0.keep FF) (M8.keep0 F9) (HL.out.mem.keep F79 (by simp)) hbo (by rw [bump_sum hk8]; omega) (hI.step hk8 hstep) (HL.out.child hM hk8) v1' v2' (by omega) (by omega) (by omega)
            rw [e9] at CH
            obtain ⟨b, hb⟩ : ∃ b, srch x A ts n (bump c k) (doM lv ws a.kind a.handle a.deadline).1 (doM lv ws a.kind a.handle a.deadline).2 = b := ⟨_, rfl⟩
            rw [hb] at CH
            have HC := Lib.hid CH
            have HB := Lib.hid hb
            have H79 := Lib.hid F79
            clear F0 F2 B0 S0 M0 D2 hgb hcc hI hM hsum hc hres hp hl hw hstep M8 F7 hone B9 F9 hn0 hk8 F79 FF hbo hdd e9 v1' v2' bbw CH hb
            go_wp2_with fail
            with_reducible refine HC.out.mono ?_
            clear HC b8
            rintro e w10 ⟨rfl, fA, hA⟩
            cases b
            · obtain ⟨g', hm', hg'⟩ := hA rfl
              have HQ : LoopAt x A ts N n c lv ws f V bb u (k + 1) g' w10 := by
                refine HL.out.next ((H79.out.mono (by simp)).transS fA) hm' hg' ?_
                intro r a' hs
                obtain ⟨rfl, rfl⟩ := HJ.out.2.2.2 r a' hs
                exact HB.out
              replace HQ := Lib.hid HQ
              clear hA hm' hg' fA HL HP HX HJ HJ2 HB H79
              go_wp2
              go_roundw
              case rel => exact ⟨k + 1, g', by omega, by go_num, HQ.out⟩
              case measure => simp [intOf]; omega
            · obtain ⟨F0, F2, B0, S0, M0, D2, hgb, hcc, hI, hM, hsum, hc, hres, hp, hl, hw⟩ := HK.out
              have h1 := srch_yes HJ.out.1 HB.out
              rw [h1] at hres
              subst hres
              have HQ := Lib.hid (((F0.mono (S' := [bb]) (by simp)).transS HL.out.fr).transS ((H79.out.mono (S' := [bb]) (by simp)).transS fA))
              clear F0 F2 B0 S0 M0 D2 hgb hcc hI hM hsum hc hp hl hw h1 hA fA HL HP HX HJ HJ2 HB H79
              go_wp2
              go_ret
              exact ⟨rfl, HQ.out, by simp⟩
      · obtain ⟨F0, F2, B0, S0, M0, D2, hgb, hcc, hI, hM, hsum, hc, hres, hp, hl, hw⟩ := HK.out
        obtain ⟨h1, h2⟩ := HL.out.stop (by omega) (by have := hx.len; omega) hI hsum
        rw [h1] at hres
        subst hres
        have HQ := Lib.hid (And.intro (F0.mono (S' := [bb]) (by simp)) h2)
        clear F0 F2 B0 S0 M0 D2 hgb hcc hI hM hsum hc hp hl hw h1 h2
        go_wp2
        go_ret
        exact ⟨by simp, HQ.out.1.transS HL.out.fr, _, HL.out.mem, HQ.out.2⟩
  · have d1 : decide (1 < v0 + 1) = true := by simp; have := HV.out; omega
    obtain ⟨m, hfc⟩ : ∃ m, f c = some m := by
      cases hf : f c with
      | none => have := HW.out; rw [hf] at this; simp at this; omega
      | some m => exact ⟨m, rfl⟩
    have hmv : m = v0 := by have := HW.out; rw [hfc] at this; simpa using this
    subst hmv
    have HQ := Lib.hid hfc
    clear hfc h0
    go_wp2_with fail
    go_quiet (fail)
    go_wp2
    go_ret
    obtain ⟨F0, F2, B0, S0, M0, D2, hgb, hcc, hI, hM, hsum, hc, hres, hp, hl, hw⟩ := HK.out
    have hdead := seen_dead hI hsum hM HQ.out
    rw [hdead] at hres
    subst hres
    obtain ⟨_, _, hFn, hFe⟩ := HZ.out
    refine ⟨by simp, ((F0.mono (by simp)).transS F2).drewN _, fun _ => ⟨_, D2.keep ((Fr.refl [] v2).drewN _) (by simp), seen_grew hM HQ.out (by omega)⟩⟩
end Go.Proofs.Ytlpefbpamgeikaa
