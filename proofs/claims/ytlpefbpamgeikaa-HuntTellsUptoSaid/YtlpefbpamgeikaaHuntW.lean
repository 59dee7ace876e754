/- DERIVED. Chapter 46, the reference: search. -/
import Derived.Test.YtlpefbpamgeikaaHuntV
namespace Go.Proofs.Ytlpefbpamgeikaa
open Go.RowKit

theorem Own.setI {e : TypeId} {w : World} {v : Value} {xs : List Int} (h : Own encI e w v xs) (hne : xs ≠ []) : ∃ g, RdAt encI w v xs g 0 ∧ (∀ j, w.frozen? ⟨g, j, none⟩ = false) ∧ sblk v = [g] ∧ ∀ k y, Own encI e (w.setCell ⟨g, k, none⟩ (.int .i64 y)) v (xs.set k y) := by
  obtain ⟨g, h1, h2, h3⟩ := h.rd' hne
  refine ⟨g, h1, h2, h3, fun k y => ?_⟩
  obtain ⟨va, vn, vc, rfl⟩ := h.isSlice
  have : va = some ⟨g, 0, none⟩ := by
    obtain ⟨ao, cap, hv, ha, _⟩ := h1.val
    injection hv with e1 _ _
    rw [e1]; exact ha hne
  subst this
  exact h.set1 rfl k y _ rfl
theorem Cnt.bump {x : List Rec} {c : List Nat} {cd : List Int} (h : Cnt x c cd) {k : Nat} (hk : k < x.length) (hc : x.length ≤ c.length) : Cnt x (bump c k) (cd.set k ((c.getD k 0 : Nat) + 1 : Int)) := by
  refine ⟨by rw [List.length_set]; exact h.len, fun i hi => ?_⟩
  rw [bump_at (by omega)]
  by_cases hik : i = k
  · subst hik
    rw [if_pos rfl, List.getElem?_set_self (by rw [h.len]; exact hi)]
    push_cast; rfl
  · rw [if_neg hik, List.getElem?_set_ne (Ne.symm hik)]
    exact h.at_ i hi

def SearchAt (x : List Rec) (A : Acts) (ts : List Int) (n : Nat) : Prop :=
  ∀ (c : List Nat) (cd : List Int) (lv ws : Timers) (tl : List Tm) (vl vt vd vm : Value) (w : World), RefAt w vl vt x A ts → Rd encI w vd cd → Cnt x c cd → x.length ≤ c.length → Rd encTm w vm tl → tl.length + n ≤ 100 → RefM tl lv ws →
    Calls Try.prog 38 #[vl, vt, vd, .int .i64 n, vm] w fun e w' => e = .returned (.bool (srch x A ts n c lv ws)) ∧ Fr [] w w'

theorem search_zero (x : List Rec) (A : Acts) (ts : List Int) : SearchAt x A ts 0 := by
  intro c cd lv ws tl vl vt vd vm w h hd hcd hc hm htl hR
  clear h hd hcd hm hR
  go_enter Try.func38, Try.ntmps38
  go_wp2
  go_ret
  exact ⟨rfl, Fr.refl _ _⟩

/-- none found among the first k -/
def Nope (x : List Rec) (A : Acts) (ts : List Int) (n : Nat) (c : List Nat) (lv ws : Timers) (k : Nat) : Prop :=
  ∀ i r a, i < k → StepOk x A ts c lv ws i r a → srch x A ts n (bump c i) (doM lv ws a.kind a.handle a.deadline).1 (doM lv ws a.kind a.handle a.deadline).2 = false
theorem Nope.step {x : List Rec} {A : Acts} {ts : List Int} {n : Nat} {c : List Nat} {lv ws : Timers} {k : Nat} (h : Nope x A ts n c lv ws k)
    (hk : ∀ r a, StepOk x A ts c lv ws k r a → srch x A ts n (bump c k) (doM lv ws a.kind a.handle a.deadline).1 (doM lv ws a.kind a.handle a.deadline).2 = false) : Nope x A ts n c lv ws (k + 1) := by
  intro i r a hi hs
  by_cases hik : i < k
  · exact h i r a hik hs
  · obtain rfl : i = k := by omega
    exact hk r a hs

set_option maxRecDepth 20000 in
set_option maxHeartbeats 2000000 in
theorem search_succ (x : List Rec) (A : Acts) (ts : List Int) (hx : x.length ≤ 100) (h8 : ∀ r ∈ x, r.acts.n ≤ 8) (hfin : ∀ r ∈ x, okInt .i64 r.fin) (n : Nat) (hn : n + 1 ≤ 50) (ih : SearchAt x A ts n) : SearchAt x A ts (n + 1) := by
  intro c cd lv ws tl vl vt vd vm w h hd hcd hc hm htl hR
  obtain ⟨res, hres⟩ : ∃ res, srch x A ts (n + 1) c lv ws = res := ⟨_, rfl⟩
  rw [hres]
  have d0 : ((n : Int) + 1 == 0) = false := by simp; omega
  obtain ⟨bx, ox, hx1⟩ := h.recs
  have l0 := lenR hx1
  have HH := Lib.hid (And.intro h (And.intro hx1 (And.intro hd (And.intro hcd (And.intro hc (And.intro hm (And.intro hR (And.intro htl hres))))))))
  clear h hx1 hd hcd hc hm hR hres htl
  push_cast
  go_enter Try.func38, Try.ntmps38
  go_wp2_with fail
  clear d0
  go_loopw [11] (fun i wr => ∃ k : Nat, k ≤ x.length ∧ i = .int .i64 k ∧ Nope x A ts n c lv ws k ∧ Fr [] w wr) (fun i _ => x.length - (intOf i).toNat)
  case atStart => exact ⟨0, by omega, rfl, fun _ _ _ h => by omega, Fr.refl _ _⟩
  case round =>
    obtain ⟨k, hk, rfl, hN, hF⟩ := hrel
    have HN := Lib.hid (And.intro hN hF)
    clear hN hF
    by_cases hkx : k < x.length
    · obtain ⟨q, hq⟩ := at_of x hkx
      obtain ⟨h, hx1, hd, hcd, hc, hm, hR, htl, hres⟩ := HH.out
      have MY := refMay_any vl vt vd x A ts c cd k q wr (h.keep0 HN.out.2) (hd.keep0 HN.out.2) hcd hq hx
      have HM := Lib.hid MY
      have HQ := Lib.hid hq
      clear h hx1 hd hcd hc hm hR htl hres MY hq
      go_wp2_with fail
      refine HM.out.mono ?_
      clear HM
      rintro e w1 ⟨bm, rfl, hbm, f1⟩
      cases bm
      · have hno : ∀ r a, StepOk x A ts c lv ws k r a → srch x A ts n (bump c k) (doM lv ws a.kind a.handle a.deadline).1 (doM lv ws a.kind a.handle a.deadline).2 = false := by
          intro r a hs
          have h1 := hs.rcd
          rw [HQ.out] at h1
          injection h1 with h1
          subst h1
          have := hbm.2 hs.may
          cases this
        have HP := Lib.hid (And.intro (HN.out.1.step hno) (HN.out.2.trans0 f1))
        clear hno hbm f1 HN
        go_wp2
        go_roundw
        case rel => exact ⟨k + 1, by omega, by go_num, HP.out⟩
        case measure => simp [intOf]; omega
      · have hmay := hbm.1 rfl
        obtain ⟨h, hx1, hd, hcd, hc, hm, hR, htl, hres⟩ := HH.out
        have hq := HQ.out
        have F1 := HN.out.2.trans0 f1
        obtain ⟨n0, hn0⟩ : ∃ n0, c.getD k 0 = n0 := ⟨_, rfl⟩
        have hlt : n0 < q.acts.n := by rw [← hn0]; exact hmay.1
        have hq8 := h8 q (List.mem_of_getElem? hq)
        obtain ⟨bd, od, hd1⟩ := hd
        obtain ⟨ba, oa, ha⟩ := h.acts q (List.mem_of_getElem? hq)
        have hal := acts_len ⟨_, _, ha⟩
        obtain ⟨a, hat⟩ := at_of (A q) (k := n0) (by omega)
        have i1 := idxR hx1 hkx
        have i2 := idxI hd1 (k := k) (by rw [hcd.len]; exact hkx)
        have i3 := idxA ha (k := n0) (by omega)
        have facts : ∀ W, Fr [] w1 W → (W.cell? ⟨bx, ox + k * 14 + 13, none⟩ = some (.slice q.acts.a q.acts.n q.acts.c) ∧ W.cell? ⟨bd, od + k, none⟩ = some (.int .i64 n0) ∧ (W.cell? ⟨ba, oa + n0 * 4, none⟩ = some (.int .i64 a.kind) ∧ W.cell? ⟨ba, oa + n0 * 4 + 1, none⟩ = some (.int .u64 a.handle) ∧ W.cell? ⟨ba, oa + n0 * 4 + 2, none⟩ = some (.int .i64 a.deadline) ∧ W.cell? ⟨ba, oa + n0 * 4 + 3, none⟩ = some (.int .i64 a.step))) := by
          intro W hW
          have F2 := F1.trans0 hW
          exact ⟨(recAt (hx1.keep0 F2) hq).2.2.2.2.2.2.2.2.2.2.2.2.2, cellI (hd1.keep0 F2) (k := k) (x := (n0 : Int)) (by rw [hcd.at_ k hkx, hn0]), actAt (ha.keep0 F2) hat⟩
        have hfr0 : Fr [] w1 w1.drew := (Fr.refl _ _).drew
        have FA := Lib.hid facts
        have HP := Lib.hid (And.intro hmay (And.intro hn0 (And.intro hat (And.intro F1 (And.intro hlt hq8)))))
        have HN2 := Lib.hid HN.out.1
        clear hbm hmay h hx1 hd1 hcd hc hm hR htl hres hq f1 F1 hn0 ha hal hat facts hlt hq8 HN
        go_wp2_with fail
        go_region_held3 (fun W => (W.cell? ⟨bx, ox + k * 14 + 13, none⟩ = some (.slice q.acts.a q.acts.n q.acts.c) ∧ W.cell? ⟨bd, od + k, none⟩ = some (.int .i64 n0) ∧ (W.cell? ⟨ba, oa + n0 * 4, none⟩ = some (.int .i64 a.kind) ∧ W.cell? ⟨ba, oa + n0 * 4 + 1, none⟩ = some (.int .u64 a.handle) ∧ W.cell? ⟨ba, oa + n0 * 4 + 2, none⟩ = some (.int .i64 a.deadline) ∧ W.cell? ⟨ba, oa + n0 * 4 + 3, none⟩ = some (.int .i64 a.step))))
          (first
            | exact FA.out _ hfr0
            | exact FA.out _ (hfr0.alloc _)
            | exact FA.out _ ((hfr0.alloc _).setCell (.inr (by simp)) _))
          (fail)
        rename_i hHeld
        clear hHeld FA i2 i3 hfr0
        obtain ⟨hmay, hn0, hat, F1, hlt, hq8⟩ := HP.out
        obtain ⟨h, hx1, hd, hcd, hc, hm, hR, htl, hres⟩ := HH.out
        have F2 : Fr [] w1 (w1.alloc (.cells #[.int .i64 a.kind, .int .u64 a.handle, .int .i64 a.deadline, .int .i64 a.step] 65)).drew := ((Fr.refl _ _).alloc _).drew
        have B2 := (Box.new w1 #[.int .i64 a.kind, .int .u64 a.handle, .int .i64 a.deadline, .int .i64 a.step] 65).drew
        obtain ⟨ab, hab⟩ : ∃ ab, w1.heap.size = ab := ⟨_, rfl⟩
        rw [hab] at B2 ⊢
        obtain ⟨w2, hw2⟩ : ∃ w2, (w1.alloc (.cells #[.int .i64 a.kind, .int .u64 a.handle, .int .i64 a.deadline, .int .i64 a.step] 65)).drew = w2 := ⟨_, rfl⟩
        rw [hw2] at F2 B2 ⊢
        clear hw2 hab
        have F12 := F1.trans0 F2
        have c0 := recAt (hx1.keep0 F12) HQ.out
        have TM := refTime_any vt ts q w2 ((h.keep0 F12).times) (hfin q (List.mem_of_getElem? HQ.out))
        have HT := Lib.hid TM
        have HB := Lib.hid (And.intro B2 F12)
        clear hmay hn0 hat F1 hlt hq8 h hx1 hd hcd hc hm hR htl hres F2 B2 F12 TM
        go_wp2_with fail
        refine HT.out.mono ?_
        clear HT
        rintro e w3 ⟨rfl, f3⟩
        obtain ⟨tv, htv⟩ : ∃ tv, timeV q ts = tv := ⟨_, rfl⟩
        rw [htv]
        obtain ⟨h, hx1, hd, hcd, hc, hm, hR, htl, hres⟩ := HH.out
        have F13 := HB.out.2.trans0 f3
        have b3 := (HB.out.1.keep0 f3).cell
        have LG := legal_ref hR vm a.kind a.handle a.deadline a.step tv w3 (hm.keep0 F13)
        obtain ⟨b, hb⟩ : ∃ b, legalB lv ws a.kind a.handle a.deadline tv = b := ⟨_, rfl⟩
        rw [hb] at LG
        have HL := Lib.hid LG
        have HB2 := Lib.hid (And.intro (HB.out.1.keep0 f3) (And.intro F13 (And.intro htv hb)))
        clear h hx1 hd hcd hc hm hR htl hres LG F13 f3 htv hb c0 i1
        go_wp2_with fail
        refine HL.out.mono ?_
        clear HL
        rintro e w4 ⟨rfl, f4⟩
        have hat : StepOk x A ts c lv ws k q a ↔ b = true := by
          obtain ⟨hmay, hn0, hat, F1, hlt, hq8⟩ := HP.out
          obtain ⟨_, _, htv, hb⟩ := HB2.out
          constructor
          · intro hs; rw [← hb, ← htv]; exact hs.legal
          · intro h; exact ⟨HQ.out, hmay, by rw [hn0]; exact hat, by rw [htv, hb]; exact h⟩
        have hone : ∀ r a', StepOk x A ts c lv ws k r a' → r = q ∧ a' = a := by
          intro r a' hs
          obtain ⟨hmay, hn0, hat, F1, hlt, hq8⟩ := HP.out
          have h1 := hs.rcd
          rw [HQ.out] at h1
          injection h1 with h1
          subst h1
          have h2 := hs.act
          rw [hn0, hat] at h2
          injection h2 with h2
          exact ⟨rfl, h2.symm⟩
        cases b
        · have hno : ∀ r a, StepOk x A ts c lv ws k r a → srch x A ts n (bump c k) (doM lv ws a.kind a.handle a.deadline).1 (doM lv ws a.kind a.handle a.deadline).2 = false := by
            intro r a' hs
            obtain ⟨rfl, rfl⟩ := hone r a' hs
            have := hat.1 hs
            cases this
          have HE := Lib.hid (And.intro (HN2.out.step hno) (HB2.out.2.1.trans0 f4))
          clear hno hone hat f4 HB HB2 HP b3
          go_wp2
          go_roundw
          case rel => exact ⟨k + 1, by omega, by go_num, HE.out⟩
          case measure => simp [intOf]; omega
        · obtain ⟨h, hx1, hd, hcd, hc, hm, hR, htl, hres⟩ := HH.out
          have hstep := hat.2 rfl
          have F4 := HB2.out.2.1.trans0 f4
          have B4 := HB2.out.1.keep0 f4
          have b4 := B4.cell
          have G1 : Fr [] w4 (w4.alloc (.cells #[] 3)) := (Fr.refl _ _).alloc _
          have hown : Own encI 3 (w4.alloc (.cells #[] 3)) (.slice (some ⟨w4.heap.size, 0, none⟩) 0 0) [] := Own.lit (xs := []) (heap_alloc_new w4 _) rfl (by simp [maxLen])
          have F5 := F4.trans0 G1
          have hd5 := hd.keep0 F5
          have nab : ab ∉ sblk (.slice (some ⟨w4.heap.size, 0, none⟩) 0 0) := by have := B4.lt; simp [sblk]; omega
          have hww : w.heap.size ≤ w4.heap.size := F4.size
          have hcl : cd.length ≤ 100 := by rw [hcd.len]; exact hx
          have B5 := B4.keep0 G1
          have HO := Lib.hid (And.intro hown (And.intro hd5 (And.intro F5 (And.intro B5 (And.intro nab (And.intro hww (And.intro hcl (And.intro hstep hone))))))))
          clear h hx1 hd hcd hc hm hR htl hres hstep F4 B4 b4 G1 hown F5 hd5 nab hww hcl B5 hat hone f4 HB b3
          go_upto_region 11 with (first
            | (at_builtin; refine wpList_apps encI slI rfl _ _ rfl HO.out.1 HO.out.2.1 rfl rfl (by have := HO.out.2.2.2.2.2.2.1; simp; omega) ?_; intro v6 w6 hown6 f6 hw6; have HA := Lib.hid (And.intro hown6 (And.intro f6 hw6)); clear hown6 f6 hw6))
          obtain ⟨hown6, f6, hw6⟩ := HA.out
          rw [List.nil_append] at hown6
          obtain ⟨h, hx1, hd, hcd, hc, hm, hR, htl, hres⟩ := HH.out
          obtain ⟨hown, hd5, F5, B5, nab, hww, hcl, hstep, hone⟩ := HO.out
          obtain ⟨hmay, hn0, hat, F1, hlt, hq8⟩ := HP.out
          have hkc : k < cd.length := by rw [hcd.len]; exact hkx
          obtain ⟨g6, hr6, hfz, hsb, hset⟩ := hown6.setI (by rintro rfl; simp at hkc)
          have i6 := idxI hr6 hkc
          have c6 := cellI hr6 (k := k) (x := (n0 : Int)) (by rw [hcd.at_ k hkx, hn0])
          rw [Nat.zero_add] at i6 c6
          have z6 := hfz k
          have hg6 : w.heap.size ≤ g6 ∧ g6 ≠ ab := by
            have hab := B5.lt
            have hab2 : ab < w4.heap.size := by simp [sblk] at nab; simp at hab; omega
            rcases hw6 with hw6 | ⟨g', hw6, hg'⟩
            · rw [hsb] at hw6; simp [sblk] at hw6; omega
            · rw [hsb] at hw6; simp at hw6 hg'; omega
          have F6 : Fr [] w w6 := F5.trans f6 (by simp [sblk]; omega)
          have B6 := B5.keep f6 nab
          have hnb : (0 : Int) ≤ (n0 : Int) ∧ (n0 : Int) + 1 ≤ 255 := by omega
          have hcd7 := hcd.bump hkx hc
          rw [hn0] at hcd7
          have hown7 := hset k ((n0 : Int) + 1)
          have F7 : Fr [] w (w6.setCell ⟨g6, k, none⟩ (.int .i64 ((n0 : Int) + 1))) := F6.setCell (.inr hg6.1) _
          have B7 := B6.keep (S := [g6]) ((Fr.refl _ _).setCell (p := ⟨g6, k, none⟩) (.inl (by simp)) (.int .i64 ((n0 : Int) + 1))) (by simp; exact Ne.symm hg6.2)
          obtain ⟨w7, hw7⟩ : ∃ w7, w6.setCell ⟨g6, k, none⟩ (.int .i64 ((n0 : Int) + 1)) = w7 := ⟨_, rfl⟩
          rw [hw7] at hown7 F7 B7
          have b7 := B7.cell
          have DO := do_ref hR vm a.kind a.handle a.deadline a.step tv w7 (hm.keep0 F7) (by omega) (HB2.out.2.2.2)
          have HD := Lib.hid DO
          have HJ := Lib.hid (And.intro hown7 (And.intro F7 (And.intro hcd7 (And.intro hstep hone))))
          have H7 := Lib.hid hw7
          have HB7 := Lib.hid B7
          clear hown6 f6 hw6 h hx1 hd hcd hc hm hR htl hres hown hd5 F5 B5 nab hww hcl hstep hone hmay hn0 hat F1 hlt hq8 hkc hr6 hfz hsb hset hg6 F6 B6 hcd7 hown7 F7 B7 DO hw7 HA HO HB2 b7
          go_upto_region 12 with (fail)
          rw [H7.out]
          have b7 := HB7.out.cell
          clear H7 c6 z6 i6
          go_wp2_with fail
          refine HD.out.mono ?_
          clear HD b7
          rintro e w8 ⟨vm', tl', rfl, f8, hm8, htl8, hR8⟩
          obtain ⟨h, hx1, hd, hcd, hc, hm, hR, htl, hres⟩ := HH.out
          obtain ⟨hown7, F7, hcd7, hstep, hone⟩ := HJ.out
          have F8 := F7.trans0 f8
          obtain ⟨g7, hr7⟩ := hown7.rd
          have CH := ih (bump c k) (cd.set k ((n0 : Int) + 1)) (doM lv ws a.kind a.handle a.deadline).1 (doM lv ws a.kind a.handle a.deadline).2 tl' vl vt v6 vm' w8 (h.keep0 F8) ⟨g7, 0, hr7.keep0 f8⟩ hcd7 (by rw [bump_len]; exact hc) hm8 (by omega) hR8
          obtain ⟨b, hb⟩ : ∃ b, srch x A ts n (bump c k) (doM lv ws a.kind a.handle a.deadline).1 (doM lv ws a.kind a.handle a.deadline).2 = b := ⟨_, rfl⟩
          rw [hb] at CH
          have HC := Lib.hid CH
          have HE := Lib.hid (And.intro hb F8)
          clear h hx1 hd hcd hc hm hR htl hres hown7 F7 hcd7 hstep hone F8 hr7 CH hb f8 hm8 htl8 hR8
          go_wp2_with fail
          with_reducible refine HC.out.mono ?_
          clear HC
          rintro e w9 ⟨rfl, f9⟩
          cases b
          · have hno : ∀ r a, StepOk x A ts c lv ws k r a → srch x A ts n (bump c k) (doM lv ws a.kind a.handle a.deadline).1 (doM lv ws a.kind a.handle a.deadline).2 = false := by
              intro r a' hs
              obtain ⟨rfl, rfl⟩ := HJ.out.2.2.2.2 r a' hs
              exact HE.out.1
            have HZ := Lib.hid (And.intro (HN2.out.step hno) (HE.out.2.trans0 f9))
            clear hno f9 HE HJ HP HN2
            go_wp2
            go_roundw
            case rel => exact ⟨k + 1, by omega, by go_num, HZ.out⟩
            case measure => simp [intOf]; omega
          · obtain ⟨h, hx1, hd, hcd, hc, hm, hR, htl, hres⟩ := HH.out
            rw [srch_yes HJ.out.2.2.2.1 HE.out.1] at hres
            subst hres
            have HZ := Lib.hid (HE.out.2.trans0 f9)
            clear h hx1 hd hcd hc hm hR htl f9 HE HJ HP HN2
            go_wp2
            go_ret
            exact ⟨rfl, HZ.out⟩
    · obtain ⟨h, hx1, hd, hcd, hc, hm, hR, htl, hres⟩ := HH.out
      have h1 : srch x A ts (n + 1) c lv ws = false := srch_no fun i r a hs => HN.out.1 i r a (by have := (List.getElem?_eq_some_iff.1 hs.rcd).1; omega) hs
      rw [h1] at hres
      subst hres
      clear h hx1 hd hcd hc hm hR htl h1
      go_wp2
      go_ret
      exact ⟨rfl, HN.out.2⟩
theorem search_all (x : List Rec) (A : Acts) (ts : List Int) (hx : x.length ≤ 100) (h8 : ∀ r ∈ x, r.acts.n ≤ 8) (hfin : ∀ r ∈ x, okInt .i64 r.fin) : ∀ n, n ≤ 50 → SearchAt x A ts n
  | 0, _ => search_zero x A ts
  | n + 1, h => search_succ x A ts hx h8 hfin n h (search_all x A ts hx h8 hfin n (by omega))
end Go.Proofs.Ytlpefbpamgeikaa
