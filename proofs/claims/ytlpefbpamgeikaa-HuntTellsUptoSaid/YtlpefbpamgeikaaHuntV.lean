/- DERIVED. Chapter 46, the reference: may, some. -/
import Derived.Test.YtlpefbpamgeikaaHuntU
namespace Go.Proofs.Ytlpefbpamgeikaa
open Go.RowKit

/-- what the reference's search reads -/
structure RefAt (w : World) (vl vt : Value) (x : List Rec) (A : Acts) (ts : List Int) : Prop where
  recs : Rd encRec w vl x
  times : Rd encI w vt ts
  acts : ∀ r ∈ x, Rd encAct w (.slice r.acts.a r.acts.n r.acts.c) (A r)
theorem RefAt.keep0 {w w' : World} {vl vt : Value} {x : List Rec} {A : Acts} {ts : List Int} (h : RefAt w vl vt x A ts) (hf : Fr [] w w') : RefAt w' vl vt x A ts :=
  ⟨h.recs.keep0 hf, h.times.keep0 hf, fun r hr => (h.acts r hr).keep0 hf⟩
/-- the reference's counts -/
structure Cnt (x : List Rec) (c : List Nat) (cd : List Int) : Prop where
  len : cd.length = x.length
  at_ : ∀ i, i < x.length → cd[i]? = some ((c.getD i 0 : Nat) : Int)

set_option maxRecDepth 20000 in
set_option maxHeartbeats 1000000 in
theorem refMay_any (vl vt vd : Value) (x : List Rec) (A : Acts) (ts : List Int) (c : List Nat) (cd : List Int) (k : Nat) (r : Rec) (w : World) (h : RefAt w vl vt x A ts) (hd : Rd encI w vd cd) (hcd : Cnt x c cd) (hr : x[k]? = some r) (hx : x.length ≤ 100) :
    Calls Try.prog 43 #[vl, vd, .int .i64 k] w fun e w' => ∃ b, e = .returned (.bool b) ∧ (b = true ↔ mayP x c k r) ∧ Fr [] w w' := by
  have hkx : k < x.length := (List.getElem?_eq_some_iff.1 hr).1
  obtain ⟨n, hn⟩ : ∃ n, c.getD k 0 = n := ⟨_, rfl⟩
  obtain ⟨bx, ox, hx1⟩ := h.recs
  obtain ⟨bd, od, hd1⟩ := hd
  have i1 := idxR hx1 hkx
  have l0 := lenR hx1
  have c1 := recAt hx1 hr
  have i2 := idxI hd1 (k := k) (by rw [hcd.len]; exact hkx)
  have c2 := cellI hd1 (k := k) (x := (n : Int)) (by rw [hcd.at_ k hkx, hn])
  obtain ⟨ba, oa, ha⟩ := h.acts r (List.mem_of_getElem? hr)
  have l1 := lenA ha
  rw [acts_len ⟨_, _, ha⟩] at l1
  have HC := Lib.hid (And.intro h (And.intro hx1 (And.intro hd1 (And.intro hcd (And.intro hr hn)))))
  clear h hx1 hd1 hcd ha hr hn
  by_cases hlt : n < r.acts.n
  · have d1 : decide ((r.acts.n : Int) ≤ (n : Int)) = false := by simp; omega
    have d2 : decide (r.acts.n ≤ n) = false := by simp; omega
    have HLT := Lib.hid hlt
    clear hlt
    go_enter Try.func43, Try.ntmps43
    go_wp2_with fail
    go_quiet (fail)
    go_wp2_with fail
    clear c1 c2 i1 i2 l1 d1 d2
    go_loopw [7] (fun i wr => ∃ j : Nat, j ≤ x.length ∧ i = .int .i64 j ∧ (∀ i q, i < j → x[i]? = some q → ¬ (i ≠ k ∧ q.done = true ∧ q.fin < r.beg ∧ c.getD i 0 < q.acts.n)) ∧ Fr [] w wr) (fun i _ => x.length - (intOf i).toNat)
    case atStart => exact ⟨0, by omega, rfl, by omega, (Fr.refl _ _).drewN _⟩
    case round =>
      obtain ⟨j, hj, rfl, hall, hF⟩ := hrel
      have HA := Lib.hid hall
      clear hall
      by_cases hjx : j < x.length
      · obtain ⟨q, hq⟩ := at_of x hjx
        obtain ⟨h, hx1, hd1, hcd, hr, hn⟩ := HC.out
        obtain ⟨m, hm⟩ : ∃ m, c.getD j 0 = m := ⟨_, rfl⟩
        have i1 := idxR hx1 hjx
        have i2 := idxR hx1 hkx
        have i3 := idxI hd1 (k := j) (by rw [hcd.len]; exact hjx)
        have c0 := recAt (hx1.keep0 hF) hq
        have c3 := (recAt (hx1.keep0 hF) hr).2.2.2.2.2.2.1
        have c4 := cellI (hd1.keep0 hF) (k := j) (x := (m : Int)) (by rw [hcd.at_ j hjx, hm])
        obtain ⟨ba, oa, ha⟩ := h.acts q (List.mem_of_getElem? hq)
        have l1 := lenA ha
        rw [acts_len ⟨_, _, ha⟩] at l1
        have key : (¬ (j ≠ k ∧ q.done = true ∧ q.fin < r.beg ∧ m < q.acts.n)) → ∀ i q', i < j + 1 → x[i]? = some q' → ¬ (i ≠ k ∧ q'.done = true ∧ q'.fin < r.beg ∧ c.getD i 0 < q'.acts.n) := by
          intro h0 i q' hi hq'
          by_cases hij : i < j
          · exact HA.out i q' hij hq'
          · obtain rfl : i = j := by omega
            rw [hq] at hq'; injection hq' with hq'; subst hq'
            rw [hm]; exact h0
        have hno' : (j ≠ k ∧ q.done = true ∧ q.fin < r.beg ∧ m < q.acts.n) → ¬ mayP x c k r := by
          rintro ⟨a1, a2, a3, a4⟩ ⟨_, h1⟩
          exact h1 j q hq ⟨a1, a2, a3, by omega⟩
        have KEY := Lib.hid key
        have NOP := Lib.hid hno'
        have HF := Lib.hid hF
        clear key hno' h hx1 hd1 hcd hr hn ha hq hm hF
        by_cases g1 : j = k
        · have d1 : ((j : Int) == (k : Int)) = true := by simp [g1]
          have d2 : ((j : Int) != (k : Int)) = false := by simp [g1]
          have KK := Lib.hid (KEY.out (by simp [g1]))
          clear KEY NOP HA HC g1
          go_wp2_with fail
          go_quiet (fail)
          go_wp2
          go_roundw
          case rel => exact ⟨j + 1, by omega, by go_num, KK.out, HF.out.drewN _⟩
          case measure => simp [intOf]; omega
        · have d1 : ((j : Int) == (k : Int)) = false := by simp; omega
          have d2 : ((j : Int) != (k : Int)) = true := by simp; omega
          cases g2 : q.done
          · rw [g2] at c0
            have KK := Lib.hid (KEY.out (by simp [g2]))
            clear KEY NOP HA HC g1 g2
            go_wp2_with fail
            go_quiet (fail)
            go_wp2
            go_roundw
            case rel => exact ⟨j + 1, by omega, by go_num, KK.out, HF.out.drewN _⟩
            case measure => simp [intOf]; omega
          · rw [g2] at c0
            by_cases g3 : q.fin < r.beg
            · by_cases g4 : m < q.acts.n
              · have KK := Lib.hid (NOP.out ⟨g1, g2, g3, g4⟩)
                have d3 : decide (q.fin < r.beg) = true := by simpa using g3
                have d4 : decide (m < q.acts.n) = true := by simpa using g4
                clear KEY NOP HA HC g1 g2 g3 g4
                go_wp2_with fail
                go_quiet (fail)
                go_wp2
                go_ret
                exact ⟨false, rfl, by simpa using KK.out, HF.out.drewN _⟩
              · have KK := Lib.hid (KEY.out (by omega))
                have d3 : decide (q.fin < r.beg) = true := by simpa using g3
                have d4 : decide (m < q.acts.n) = false := by simpa using g4
                clear KEY NOP HA HC g1 g2 g3 g4
                go_wp2_with fail
                go_quiet (fail)
                go_wp2
                go_roundw
                case rel => exact ⟨j + 1, by omega, by go_num, KK.out, HF.out.drewN _⟩
                case measure => simp [intOf]; omega
            · have KK := Lib.hid (KEY.out (by omega))
              have d3 : decide (q.fin < r.beg) = false := by simpa using g3
              clear KEY NOP HA HC g1 g2 g3
              go_wp2_with fail
              go_quiet (fail)
              go_wp2
              go_roundw
              case rel => exact ⟨j + 1, by omega, by go_num, KK.out, HF.out.drewN _⟩
              case measure => simp [intOf]; omega
      · have hy : mayP x c k r := by
          refine ⟨by rw [HC.out.2.2.2.2.2]; exact HLT.out, fun i q hq => HA.out i q ?_ hq⟩
          have := (List.getElem?_eq_some_iff.1 hq).1
          omega
        have KK := Lib.hid (And.intro hy hF)
        clear hy HA hF
        go_wp2
        go_ret
        exact ⟨true, rfl, by simpa using KK.out.1, KK.out.2⟩
  · have hno : ¬ mayP x c k r := by
      rintro ⟨h1, _⟩
      rw [HC.out.2.2.2.2.2] at h1
      exact hlt h1
    have KK := Lib.hid hno
    have d1 : decide ((r.acts.n : Int) ≤ (n : Int)) = true := by simp; omega
    have d2 : decide (r.acts.n ≤ n) = true := by simp; omega
    clear hno hlt
    go_enter Try.func43, Try.ntmps43
    go_wp2_with fail
    go_quiet (fail)
    go_wp2
    go_ret
    exact ⟨false, rfl, by simpa using KK.out, (Fr.refl _ _).drewN _⟩

set_option maxRecDepth 20000 in
set_option maxHeartbeats 1000000 in
theorem refSome_any (v : Value) (l : List Rec) (A : Acts) (w : World) (hl : Rd encRec w v l) (hlen : l.length ≤ 100) (ha : ∀ r ∈ l, Rd encAct w (.slice r.acts.a r.acts.n r.acts.c) (A r)) :
    Calls Try.prog 37 #[v] w fun e w' => ∃ v', e = .returned v' ∧ Fr [] w w' ∧ Rd encRec w' v' (pos l) := by
  obtain ⟨b, o, hl⟩ := hl
  have l1 := lenR hl
  have HH := Lib.hid (And.intro hl ha)
  clear hl ha
  go_enter Try.func37, Try.ntmps37
  go_wp2
  go_loopw [3, 4] (fun q i wr => ∃ k : Nat, k ≤ l.length ∧ i = .int .i64 k ∧ Own encRec 52 wr q (pos (l.take k)) ∧ New w.heap.size q ∧ Fr [] w wr) (fun _ i _ => l.length - (intOf i).toNat)
  case atStart => exact ⟨0, by omega, rfl, Own.nil _ _ _, New.nil _, Fr.refl _ _⟩
  case round =>
    rename_i v0 i
    obtain ⟨k, hk, rfl, ho, hnw, hf⟩ := hrel
    by_cases hlt : k < l.length
    · obtain ⟨q, hq⟩ := at_of l hlt
      have i1 := idxR HH.out.1 hlt
      have c1 := recAt (HH.out.1.keep0 hf) hq
      obtain ⟨bb, oo, hxs⟩ := HH.out.2 q (List.mem_of_getElem? hq)
      have l2 := lenA hxs
      rw [acts_len ⟨_, _, hxs⟩] at l2
      have hpl := pos_take l k
      have HO := Lib.hid (And.intro ho (And.intro hnw (And.intro hf (And.intro hq hpl))))
      clear ho hnw hf hq hxs hpl
      by_cases hpos : 0 < q.acts.n
      · have d1 : decide ((0 : Int) < q.acts.n) = true := by simp; omega
        go_wp2_with (at_builtin; refine wpList_app encRec slRec rfl _ _ rfl HO.out.1 q rfl rfl (by have := HO.out.2.2.2.2; omega) ?_ rfl; intro v' w1 hown' hf1 hw1 _)
        go_roundw
        case rel =>
          obtain ⟨ho, hnw, hf, hq, hpl⟩ := HO.out
          exact ⟨k + 1, by omega, by go_num, by rw [pos_yes l hq hpos]; exact hown', hnw.step hf.size hw1, hf.new hf1 hnw⟩
        case measure => simp [intOf]; omega
      · have d1 : decide ((0 : Int) < q.acts.n) = false := by simp; omega
        have d2 : decide (0 < q.acts.n) = false := by simp; omega
        have HP := Lib.hid hpos
        clear hpos
        go_wp2
        go_roundw
        case rel =>
          obtain ⟨ho, hnw, hf, hq, hpl⟩ := HO.out
          exact ⟨k + 1, by omega, by go_num, by rw [pos_no l hq HP.out]; exact ho, hnw, hf⟩
        case measure => simp [intOf]; omega
    · have hkl : k = l.length := by omega
      subst hkl
      rw [List.take_length] at ho
      obtain ⟨gv, hgv⟩ := ho.rd
      have HO := Lib.hid (And.intro hgv hf)
      clear ho hnw hf hgv
      go_wp2
      go_ret
      exact ⟨_, rfl, HO.out.2, gv, 0, HO.out.1⟩
end Go.Proofs.Ytlpefbpamgeikaa
