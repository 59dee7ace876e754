/- DERIVED. Chapter 46: may. -/
import Derived.Test.YtlpefbpamgeikaaHuntP
import Derived.Test.YtlpefbpamgeikaaApp
namespace Go.Proofs.Ytlpefbpamgeikaa
open Go.RowKit
open Go.ChangeMaps (setBlock)

def cv (c : List Nat) : Array Value := (c.map fun (n : Nat) => Value.int .u8 n).toArray
def kvC (c : List Nat) : Value := .agg (cv c)
structure CntOk (c : List Nat) : Prop where
  len : c.length = 8
  le : ∀ n ∈ c, n ≤ 8
theorem cv_at {c : List Nat} {k : Nat} (hk : k < c.length) : (cv c)[k]? = some (.int .u8 (c.getD k 0)) := by
  simp [cv, hk, List.getD_eq_getElem?_getD]

/-- the search in memory -/
structure SrchAt (w : World) (ps bb : Nat) (vl vt : Value) (x : List Rec) (A : Acts) (ts : List Int) : Prop where
  box : Box w ps #[vl, vt, .map (some bb)]
  recs : Rd encRec w vl x
  times : Rd encI w vt ts
  acts : ∀ r ∈ x, Rd encAct w (.slice r.acts.a r.acts.n r.acts.c) (A r)
  np : ps ≠ bb
  nl : ∀ y ∈ sblk vl, y ≠ bb
  nt : ts ≠ [] → ∀ y ∈ sblk vt, y ≠ bb
  na : ∀ r ∈ x, ∀ y ∈ sblk (.slice r.acts.a r.acts.n r.acts.c), y ≠ bb
theorem SrchAt.keep {w w' : World} {ps bb : Nat} {vl vt : Value} {x : List Rec} {A : Acts} {ts : List Int} (h : SrchAt w ps bb vl vt x A ts) (hf : Fr [bb] w w') : SrchAt w' ps bb vl vt x A ts :=
  ⟨h.box.keep hf (by simpa using h.np), h.recs.keep hf (by simpa using h.nl), h.times.keepN hf (by simpa using h.nt), fun r hr => (h.acts r hr).keep hf (by simpa using h.na r hr), h.np, h.nl, h.nt, h.na⟩
theorem SrchAt.keep0 {w w' : World} {ps bb : Nat} {vl vt : Value} {x : List Rec} {A : Acts} {ts : List Int} (h : SrchAt w ps bb vl vt x A ts) (hf : Fr [] w w') : SrchAt w' ps bb vl vt x A ts := h.keep (hf.mono (by simp))
theorem acts_len {w : World} {A : Acts} {r : Rec} (h : Rd encAct w (.slice r.acts.a r.acts.n r.acts.c) (A r)) : (A r).length = r.acts.n := by
  obtain ⟨b, o, h⟩ := h
  obtain ⟨ao, cap, e1, _⟩ := h.val; injection e1 with _ e2 _; exact e2.symm

set_option maxRecDepth 20000 in
set_option maxHeartbeats 1000000 in
theorem may_any (ps bb : Nat) (vl vt : Value) (x : List Rec) (A : Acts) (ts : List Int) (c : List Nat) (k : Nat) (r : Rec) (w : World) (h : SrchAt w ps bb vl vt x A ts) (hc : CntOk c) (hr : x[k]? = some r) (hx : x.length ≤ 8) :
    Calls Try.prog 40 #[.pointer (some ⟨ps, 0, none⟩), .agg (cv c), .int .i64 k] w fun e w' => ∃ b, e = .returned (.bool b) ∧ (b = true ↔ mayP x c k r) ∧ Fr [] w w' := by
  have hkx : k < x.length := (List.getElem?_eq_some_iff.1 hr).1
  have hk8 : k < c.length := by rw [hc.len]; omega
  have B0 := Box.new w (cv c) 72
  have F0 := (Fr.refl [] w).alloc (.cells (cv c) 72)
  have S0 := h.keep0 F0
  obtain ⟨n, hn⟩ : ∃ n, c.getD k 0 = n := ⟨_, rfl⟩
  have hn8 : n ≤ 8 := by
    rw [← hn, List.getD_eq_getElem?_getD, List.getElem?_eq_getElem hk8]
    exact hc.le _ (List.getElem_mem hk8)
  have C1 := B0.cell k
  rw [cv_at hk8, hn] at C1
  obtain ⟨bx, ox, hx1⟩ := S0.recs
  have i1 := idxR hx1 hkx
  have l0 := lenR hx1
  have c1 := recAt hx1 hr
  have b1 := S0.box.cell
  obtain ⟨ba, oa, ha⟩ := S0.acts r (List.mem_of_getElem? hr)
  have l1 := lenA ha
  rw [acts_len ⟨_, _, ha⟩] at l1
  have hk7 : (k : Int) < 8 := by omega
  have HC := Lib.hid (And.intro B0 (And.intro F0 (And.intro S0 (And.intro hr (And.intro hk8 (And.intro hn (And.intro hc (And.intro hx (And.intro hkx hx1)))))))))
  obtain ⟨cs, hcs⟩ : ∃ cs, cv c = cs := ⟨_, rfl⟩
  rw [hcs] at b1 c1 C1 ⊢
  have HS := Lib.hid hcs
  clear B0 F0 S0 hr hk8 hn hc hx1 ha hcs h hkx
  by_cases hlt : n < r.acts.n
  · go_enter Try.func40, Try.ntmps40
    go_wp2_with fail
    obtain ⟨g, hg⟩ : ∃ g, w.heap.size = g := ⟨_, rfl⟩
    rw [hg] at C1 HC ⊢
    clear hg
    go_quiet (fail)
    go_wp2_with fail
    clear c1 b1 C1 i1 l1
    obtain ⟨u, hu⟩ : ∃ u, (w.alloc (.cells cs 72)) = u := ⟨_, rfl⟩
    rw [HS.out, hu] at HC
    rw [hu]
    clear hu
    go_loopw [28] (fun i wr => ∃ j : Nat, j ≤ x.length ∧ i = .int .i64 j ∧ (∀ i q, i < j → x[i]? = some q → ¬ (i ≠ k ∧ q.done = true ∧ q.fin < r.beg ∧ c.getD i 0 < q.acts.n)) ∧ Fr [] u wr) (fun i _ => x.length - (intOf i).toNat)
    case atStart => exact ⟨0, by omega, rfl, by omega, (Fr.refl _ _).drewN _⟩
    case round =>
      obtain ⟨j, hj, rfl, hall, hF⟩ := hrel
      have HA := Lib.hid hall
      clear hall
      by_cases hjx : j < x.length
      · obtain ⟨q, hq⟩ := at_of x hjx
        obtain ⟨B0, F0, S0, hr, hk8, hn, hc, hx, hkx, hx1⟩ := HC.out
        have hj8 : j < c.length := by rw [hc.len]; omega
        obtain ⟨m, hm⟩ : ∃ m, c.getD j 0 = m := ⟨_, rfl⟩
        have hm8 : m ≤ 8 := by
          rw [← hm, List.getD_eq_getElem?_getD, List.getElem?_eq_getElem hj8]
          exact hc.le _ (List.getElem_mem hj8)
        have i1 := idxR hx1 hjx
        have i2 := idxR hx1 hkx
        have c0 := recAt (hx1.keep0 hF) hq
        have F1 := (Fr.refl [] wr).alloc (.cells #[.int .i64 q.thread, .int .i64 q.call.kind, .int .i64 q.call.deadline, .int .u64 q.call.draw, .int .u64 q.call.handle, .int .i64 q.call.count, .int .i64 q.beg, .int .i64 q.fin, .bool q.done, .int .i64 q.err, .bool q.aok, .int .u64 q.ahandle, .slice q.batch.a q.batch.n q.batch.c, .slice q.acts.a q.acts.n q.acts.c] 52)
        have B1 := Box.new wr #[.int .i64 q.thread, .int .i64 q.call.kind, .int .i64 q.call.deadline, .int .u64 q.call.draw, .int .u64 q.call.handle, .int .i64 q.call.count, .int .i64 q.beg, .int .i64 q.fin, .bool q.done, .int .i64 q.err, .bool q.aok, .int .u64 q.ahandle, .slice q.batch.a q.batch.n q.batch.c, .slice q.acts.a q.acts.n q.acts.c] 52
        have F2 := hF.trans0 F1
        have c1 := (recAt (hx1.keep0 F2) hr).2.2.2.2.2.2.1
        have b1 := (S0.box.keep0 F2).cell
        have b2 := (B0.keep0 F2).cell j
        rw [← HS.out, cv_at hj8, hm] at b2
        obtain ⟨ba, oa, ha⟩ := S0.acts q (List.mem_of_getElem? hq)
        have l1 := lenA ha
        rw [acts_len ⟨_, _, ha⟩] at l1
        have hj7 : (j : Int) < 8 := by omega
        have HN := Lib.hid (And.intro hF (And.intro F1 (And.intro hq (And.intro hm hr))))
        clear hF B0 F0 S0 hr hk8 hn hc hkx hx1 hj8 F2 hq hm ha
        clear hx
        go_wp2_with fail
        clear c0 i1
        obtain ⟨e, he⟩ : ∃ e, wr.heap.size = e := ⟨_, rfl⟩
        rw [he] at B1 ⊢
        clear he
        obtain ⟨u2, hu⟩ : ∃ u2, (wr.alloc (.cells #[.int .i64 q.thread, .int .i64 q.call.kind, .int .i64 q.call.deadline, .int .u64 q.call.draw, .int .u64 q.call.handle, .int .i64 q.call.count, .int .i64 q.beg, .int .i64 q.fin, .bool q.done, .int .i64 q.err, .bool q.aok, .int .u64 q.ahandle, .slice q.batch.a q.batch.n q.batch.c, .slice q.acts.a q.acts.n q.acts.c] 52)) = u2 := ⟨_, rfl⟩
        rw [hu] at B1 c1 b1 b2 HN ⊢
        clear hu
        have c2 := B1.cell
        clear B1
        have key : (¬ (j ≠ k ∧ q.done = true ∧ q.fin < r.beg ∧ m < q.acts.n)) → ∀ i q', i < j + 1 → x[i]? = some q' → ¬ (i ≠ k ∧ q'.done = true ∧ q'.fin < r.beg ∧ c.getD i 0 < q'.acts.n) := by
          intro h0 i q' hi hq'
          by_cases hij : i < j
          · exact HA.out i q' hij hq'
          · obtain rfl : i = j := by omega
            obtain ⟨_, _, hq, hm, _⟩ := HN.out
            rw [hq] at hq'; injection hq' with hq'; subst hq'
            rw [hm]; exact h0
        have KEY := Lib.hid key
        clear key
        by_cases g1 : j = k
        · have d1 : ((j : Int) == (k : Int)) = true := by simp [g1]
          have d2 : ((j : Int) != (k : Int)) = false := by simp [g1]
          have K := KEY.out (by simp [g1])
          have KK := Lib.hid K
          clear K KEY HA HC g1
          go_quiet (fail)
          go_wp2
          go_roundw
          case rel => obtain ⟨h1, h2, _⟩ := HN.out; exact ⟨j + 1, by omega, by go_num, KK.out, (h1.trans0 h2).drewN _⟩
          case measure => simp [intOf]; omega
        · have d1 : ((j : Int) == (k : Int)) = false := by simp; omega
          have d2 : ((j : Int) != (k : Int)) = true := by simp; omega
          cases g2 : q.done
          · rw [g2] at c2
            have K := KEY.out (by simp [g2])
            have KK := Lib.hid K
            clear K KEY HA HC g1 g2
            go_quiet (fail)
            go_wp2
            go_roundw
            case rel => obtain ⟨h1, h2, _⟩ := HN.out; exact ⟨j + 1, by omega, by go_num, KK.out, (h1.trans0 h2).drewN _⟩
            case measure => simp [intOf]; omega
          · rw [g2] at c2
            by_cases g3 : q.fin < r.beg
            · by_cases g4 : m < q.acts.n
              · have hno : ¬ mayP x c k r := by
                  rintro ⟨_, h1⟩
                  obtain ⟨_, _, hq, hm, _⟩ := HN.out
                  exact h1 j q hq ⟨g1, g2, g3, by omega⟩
                have KK := Lib.hid hno
                have d3 : decide (q.fin < r.beg) = true := by simpa using g3
                have d4 : decide (m < q.acts.n) = true := by simpa using g4
                clear hno KEY HA g1 g2 g3 g4
                go_quiet (fail)
                go_wp2
                go_ret
                obtain ⟨h1, h2, _⟩ := HN.out
                exact ⟨false, rfl, by simpa using KK.out, ((HC.out.2.1.trans0 h1).trans0 h2).drewN _⟩
              · have K := KEY.out (by omega)
                have KK := Lib.hid K
                have d3 : decide (q.fin < r.beg) = true := by simpa using g3
                have d4 : decide (m < q.acts.n) = false := by simpa using g4
                clear K KEY HA HC g1 g2 g3 g4
                go_quiet (fail)
                go_wp2
                go_roundw
                case rel => obtain ⟨h1, h2, _⟩ := HN.out; exact ⟨j + 1, by omega, by go_num, KK.out, (h1.trans0 h2).drewN _⟩
                case measure => simp [intOf]; omega
            · have K := KEY.out (by omega)
              have KK := Lib.hid K
              have d3 : decide (q.fin < r.beg) = false := by simpa using g3
              clear K KEY HA HC g1 g2 g3
              go_quiet (fail)
              go_wp2
              go_roundw
              case rel => obtain ⟨h1, h2, _⟩ := HN.out; exact ⟨j + 1, by omega, by go_num, KK.out, (h1.trans0 h2).drewN _⟩
              case measure => simp [intOf]; omega
      · have hy : mayP x c k r := by
          refine ⟨by rw [HC.out.2.2.2.2.2.1]; exact hlt, fun i q hq => HA.out i q ?_ hq⟩
          have := (List.getElem?_eq_some_iff.1 hq).1
          omega
        have KK := Lib.hid (And.intro hy hF)
        clear hy HA hF
        go_wp2
        go_ret
        exact ⟨true, rfl, by simpa using KK.out.1, HC.out.2.1.trans0 KK.out.2⟩
  · have hno : ¬ mayP x c k r := by
      rintro ⟨h1, _⟩
      rw [HC.out.2.2.2.2.2.1] at h1
      exact hlt h1
    have KK := Lib.hid hno
    clear hno
    go_enter Try.func40, Try.ntmps40
    go_wp2_with fail
    obtain ⟨g, hg⟩ : ∃ g, w.heap.size = g := ⟨_, rfl⟩
    rw [hg] at C1 ⊢
    clear hg
    go_quiet (fail)
    go_wp2
    go_ret
    have F0 := HC.out.2.1
    rw [HS.out] at F0
    exact ⟨false, rfl, by simpa using KK.out, F0.drewN _⟩
end Go.Proofs.Ytlpefbpamgeikaa
