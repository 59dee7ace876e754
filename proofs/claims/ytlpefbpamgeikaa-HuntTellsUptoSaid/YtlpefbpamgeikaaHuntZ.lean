/- DERIVED. Chapter 46: the law's walk. -/
import Derived.Test.YtlpefbpamgeikaaHuntY
namespace Go.Proofs.Ytlpefbpamgeikaa
open Go.RowKit

set_option maxHeartbeats 1000000 in
theorem hunt_long (v vt : Value) (l : List Rec) (w : World) (hl : Rd encRec w v l) (h : 100 < l.length) :
    Calls Try.prog 6 #[v, vt] w fun e w' => e = .returned (.bool true) ∧ Fr [] w w' := by
  have hlen := hl.len_le
  obtain ⟨b, o, hl⟩ := hl
  have l0 := lenR hl
  clear hl
  go_enter Try.func6, Try.ntmps6
  go_wp2_with fail
  refine (awake46 w).mono ?_
  rintro e w1 ⟨rfl, f1⟩
  go_wp2
  go_ret
  exact ⟨rfl, f1⟩

set_option maxRecDepth 20000 in
set_option maxHeartbeats 2000000 in
theorem hunt_core (v vt : Value) (l : List Rec) (A : Acts) (ts : List Int) (w : World) (hl : Rd encRec w v l) (ht : Rd encI w vt ts) (ha : ∀ r ∈ l, Rd encAct w (.slice r.acts.a r.acts.n r.acts.c) (A r)) (hlen : l.length ≤ 100)
    (hfin : ∀ r ∈ l, okInt .i64 r.fin) (hu : ∀ r ∈ l, ∀ a ∈ A r, uok a.handle) (hs : lens l ≤ 9223372036854775807) :
    Calls Try.prog 6 #[v, vt] w fun e w' => e = .returned (.bool true) ∧ Fr [] w w' := by
  obtain ⟨bx, ox, hx1⟩ := hl
  have l0 := lenR hx1
  have HH := Lib.hid (And.intro hx1 (And.intro ht (And.intro ha (And.intro hfin (And.intro hu hs)))))
  clear hx1 ht ha hfin hu hs
  go_enter Try.func6, Try.ntmps6
  go_wp2_with fail
  go_loopw [5] (fun i wr => ∃ k : Nat, k ≤ l.length ∧ i = .int .i64 k ∧ Fr [] w wr) (fun i _ => l.length - (intOf i).toNat)
  case atStart => exact ⟨0, by omega, rfl, Fr.refl _ _⟩
  case round =>
    obtain ⟨k, hk, rfl, hF⟩ := hrel
    by_cases hkx : k < l.length
    · obtain ⟨q, hq⟩ := at_of l hkx
      obtain ⟨hx1, ht, ha, hfin, hu, hs⟩ := HH.out
      have i1 := idxR hx1 hkx
      have facts : ∀ W, Fr [] wr W → (W.cell? ⟨bx, ox + k * 14, none⟩ = some (.int .i64 q.thread) ∧ W.cell? ⟨bx, ox + k * 14 + 1, none⟩ = some (.int .i64 q.call.kind) ∧ W.cell? ⟨bx, ox + k * 14 + 2, none⟩ = some (.int .i64 q.call.deadline) ∧
    W.cell? ⟨bx, ox + k * 14 + 3, none⟩ = some (.int .u64 q.call.draw) ∧ W.cell? ⟨bx, ox + k * 14 + 4, none⟩ = some (.int .u64 q.call.handle) ∧ W.cell? ⟨bx, ox + k * 14 + 5, none⟩ = some (.int .i64 q.call.count) ∧
    W.cell? ⟨bx, ox + k * 14 + 6, none⟩ = some (.int .i64 q.beg) ∧ W.cell? ⟨bx, ox + k * 14 + 7, none⟩ = some (.int .i64 q.fin) ∧ W.cell? ⟨bx, ox + k * 14 + 8, none⟩ = some (.bool q.done) ∧
    W.cell? ⟨bx, ox + k * 14 + 9, none⟩ = some (.int .i64 q.err) ∧ W.cell? ⟨bx, ox + k * 14 + 10, none⟩ = some (.bool q.aok) ∧ W.cell? ⟨bx, ox + k * 14 + 11, none⟩ = some (.int .u64 q.ahandle) ∧
    W.cell? ⟨bx, ox + k * 14 + 12, none⟩ = some (.slice q.batch.a q.batch.n q.batch.c) ∧ W.cell? ⟨bx, ox + k * 14 + 13, none⟩ = some (.slice q.acts.a q.acts.n q.acts.c)) := fun W hW => recAt (hx1.keep0 (hF.trans0 hW)) hq
      have T1 : ∀ W, Fr [] wr W → Calls Try.prog 23 #[.agg #[.int .i64 q.thread, .int .i64 q.call.kind, .int .i64 q.call.deadline, .int .u64 q.call.draw, .int .u64 q.call.handle, .int .i64 q.call.count, .int .i64 q.beg, .int .i64 q.fin, .bool q.done, .int .i64 q.err, .bool q.aok, .int .u64 q.ahandle, .slice q.batch.a q.batch.n q.batch.c, .slice q.acts.a q.acts.n q.acts.c], vt] W fun e w' => e = .returned (.int .i64 (timeV q ts)) ∧ Fr [] W w' :=
        fun W hW => time_any vt ts q W (ht.keep0 (hF.trans0 hW)) (hfin q (List.mem_of_getElem? hq))
      have T2 : ∀ W, Fr [] wr W → Calls Try.prog 24 #[.agg #[.int .i64 q.thread, .int .i64 q.call.kind, .int .i64 q.call.deadline, .int .u64 q.call.draw, .int .u64 q.call.handle, .int .i64 q.call.count, .int .i64 q.beg, .int .i64 q.fin, .bool q.done, .int .i64 q.err, .bool q.aok, .int .u64 q.ahandle, .slice q.batch.a q.batch.n q.batch.c, .slice q.acts.a q.acts.n q.acts.c], vt] W fun e w' => e = .returned (.int .i64 (timeV q ts)) ∧ Fr [] W w' :=
        fun W hW => refTime_any vt ts q W (ht.keep0 (hF.trans0 hW)) (hfin q (List.mem_of_getElem? hq))
      obtain ⟨tv, htv⟩ : ∃ tv, timeV q ts = tv := ⟨_, rfl⟩
      rw [htv] at T1 T2
      have FA := Lib.hid facts
      replace T1 := Lib.hid T1
      replace T2 := Lib.hid T2
      have hfr0 : Fr [] wr wr.drew := (Fr.refl _ _).drew
      have HF := Lib.hid hF
      clear facts hx1 ht ha hfin hu hs htv hF hq
      go_wp2_with fail
      go_region_held3 (fun W => (W.cell? ⟨bx, ox + k * 14, none⟩ = some (.int .i64 q.thread) ∧ W.cell? ⟨bx, ox + k * 14 + 1, none⟩ = some (.int .i64 q.call.kind) ∧ W.cell? ⟨bx, ox + k * 14 + 2, none⟩ = some (.int .i64 q.call.deadline) ∧
    W.cell? ⟨bx, ox + k * 14 + 3, none⟩ = some (.int .u64 q.call.draw) ∧ W.cell? ⟨bx, ox + k * 14 + 4, none⟩ = some (.int .u64 q.call.handle) ∧ W.cell? ⟨bx, ox + k * 14 + 5, none⟩ = some (.int .i64 q.call.count) ∧
    W.cell? ⟨bx, ox + k * 14 + 6, none⟩ = some (.int .i64 q.beg) ∧ W.cell? ⟨bx, ox + k * 14 + 7, none⟩ = some (.int .i64 q.fin) ∧ W.cell? ⟨bx, ox + k * 14 + 8, none⟩ = some (.bool q.done) ∧
    W.cell? ⟨bx, ox + k * 14 + 9, none⟩ = some (.int .i64 q.err) ∧ W.cell? ⟨bx, ox + k * 14 + 10, none⟩ = some (.bool q.aok) ∧ W.cell? ⟨bx, ox + k * 14 + 11, none⟩ = some (.int .u64 q.ahandle) ∧
    W.cell? ⟨bx, ox + k * 14 + 12, none⟩ = some (.slice q.batch.a q.batch.n q.batch.c) ∧ W.cell? ⟨bx, ox + k * 14 + 13, none⟩ = some (.slice q.acts.a q.acts.n q.acts.c)))
        (first
          | exact FA.out _ hfr0
          | exact FA.out _ (hfr0.trans0 f6)
          | exact FA.out _ (hfr0.trans0 f7)
          | exact FA.out _ ((hfr0.trans0 f6).trans0 f7)
          | exact FA.out _ ((hfr0.trans0 f7).trans0 f6))
        (first
          | (go_at_call 23; refine (T1.out _ (by first | exact hfr0 | exact hfr0.trans0 f7)).mono ?_; rintro e w6 ⟨rfl, f6⟩)
          | (go_at_call 24; refine (T2.out _ (by first | exact hfr0 | exact hfr0.trans0 f6)).mono ?_; rintro e w7 ⟨rfl, f7⟩))
      · have HE := Lib.hid (((HF.out.trans0 hfr0).trans0 f6).trans0 f7)
        clear T1 T2 FA hfr0 f6 f7 i1 HF
        go_wp2
        go_roundw
        case rel => exact ⟨k + 1, by omega, by go_num, HE.out⟩
        case measure => simp [intOf]; omega
    · obtain ⟨hx1, ht, ha, hfin, hu, hs⟩ := HH.out
      have F0 := hF
      have hA : ∀ W, Fr [] w W → Calls Try.prog 27 #[v] W fun e w' => e = .returned (.int .i64 (lens l)) ∧ Fr [] W w' :=
        fun W hW => acts_any v l W ⟨bx, ox, hx1.keep0 hW⟩ hs hlen (fun r hr => ⟨_, (ha r hr).keep0 hW⟩)
      have hB : ∀ W, Fr [] w W → Calls Try.prog 28 #[v] W fun e w' => e = .returned (.int .i64 (lens l)) ∧ Fr [] W w' :=
        fun W hW => refActs_any v l W ⟨bx, ox, hx1.keep0 hW⟩ hs hlen (fun r hr => ⟨_, (ha r hr).keep0 hW⟩)
      by_cases h8 : lens l ≤ 8
      · have L1 := fun W (hW : Fr [] w W) => linear_any v vt l A ts W ⟨bx, ox, hx1.keep0 hW⟩ (ht.keep0 hW) (fun r hr => (ha r hr).keep0 hW) hlen hfin hu h8
        have L2 := fun W (hW : Fr [] w W) => refLinear_any v vt l A ts W ⟨bx, ox, hx1.keep0 hW⟩ (ht.keep0 hW) (fun r hr => (ha r hr).keep0 hW) hlen hfin h8
        obtain ⟨res, hres⟩ : ∃ res, srch (pos l) A ts (lens l) (List.replicate 8 0) (fun _ => none) (fun _ => none) = res := ⟨_, rfl⟩
        rw [hres] at L1 L2
        obtain ⟨N, hN⟩ : ∃ N, lens l = N := ⟨_, rfl⟩
        rw [hN] at hA hB
        have HL := Lib.hid (And.intro L1 (And.intro L2 (And.intro hA hB)))
        have HF := Lib.hid hF
        clear hx1 ht ha hfin hu hs hA hB L1 L2 hres hN h8 hF F0 HH
        go_wp2_with fail
        refine (HL.out.1 _ HF.out).mono ?_
        rintro e w1 ⟨rfl, f1⟩
        have H1 := Lib.hid (HF.out.trans0 f1)
        clear f1 HF
        go_wp2_with fail
        refine (HL.out.2.1 _ H1.out).mono ?_
        rintro e w2 ⟨rfl, f2⟩
        have H2 := Lib.hid (H1.out.trans0 f2)
        clear f2 H1
        go_wp2_with fail
        refine (HL.out.2.2.1 _ H2.out).mono ?_
        rintro e w3 ⟨rfl, f3⟩
        have H3 := Lib.hid (H2.out.trans0 f3)
        clear f3 H2
        go_wp2_with fail
        refine (HL.out.2.2.2 _ H3.out).mono ?_
        rintro e w4 ⟨rfl, f4⟩
        have H4 := Lib.hid (H3.out.trans0 f4)
        clear f4 H3 HL
        cases res
        all_goals
          go_wp2_with fail
          refine (awake46 _).mono ?_
          rintro e w5 ⟨rfl, f5⟩
          have H5 := Lib.hid (H4.out.trans0 f5)
          clear f5 H4
          go_wp2
          go_ret
          exact ⟨rfl, H5.out⟩
      · have L1 := fun W (hW : Fr [] w W) => linear_long v vt l W ⟨bx, ox, hx1.keep0 hW⟩ hs hlen (fun r hr => ⟨_, (ha r hr).keep0 hW⟩) (by omega)
        have L2 := fun W (hW : Fr [] w W) => refLinear_long v vt l W ⟨bx, ox, hx1.keep0 hW⟩ hs hlen (fun r hr => ⟨_, (ha r hr).keep0 hW⟩) (by omega)
        obtain ⟨N, hN⟩ : ∃ N, lens l = N := ⟨_, rfl⟩
        rw [hN] at hA hB
        have HL := Lib.hid (And.intro L1 (And.intro L2 (And.intro hA hB)))
        have HF := Lib.hid hF
        clear hx1 ht ha hfin hu hs hA hB L1 L2 hN h8 hF F0 HH
        go_wp2_with fail
        refine (HL.out.1 _ HF.out).mono ?_
        rintro e w1 ⟨rfl, f1⟩
        have H1 := Lib.hid (HF.out.trans0 f1)
        clear f1 HF
        go_wp2_with fail
        refine (HL.out.2.1 _ H1.out).mono ?_
        rintro e w2 ⟨rfl, f2⟩
        have H2 := Lib.hid (H1.out.trans0 f2)
        clear f2 H1
        go_wp2_with fail
        refine (HL.out.2.2.1 _ H2.out).mono ?_
        rintro e w3 ⟨rfl, f3⟩
        have H3 := Lib.hid (H2.out.trans0 f3)
        clear f3 H2
        go_wp2_with fail
        refine (HL.out.2.2.2 _ H3.out).mono ?_
        rintro e w4 ⟨rfl, f4⟩
        have H4 := Lib.hid (H3.out.trans0 f4)
        clear f4 H3 HL
        go_wp2_with fail
        refine (awake46 _).mono ?_
        rintro e w5 ⟨rfl, f5⟩
        have H5 := Lib.hid (H4.out.trans0 f5)
        clear f5 H4
        go_wp2
        go_ret
        exact ⟨rfl, H5.out⟩
end Go.Proofs.Ytlpefbpamgeikaa
