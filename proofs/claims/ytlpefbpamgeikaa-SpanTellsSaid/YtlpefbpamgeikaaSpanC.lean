/- DERIVED. Chapter 50: Longest. -/
import Derived.Test.YtlpefbpamgeikaaSpanB
namespace Go.Proofs.Ytlpefbpamgeikaa
open Go.RowKit

def stepL (l : List Rec) (q : Int × Int × Int) (s : Stp) : Int × Int × Int :=
  let n1 := if endsOut l q.2.2 s.event then 0 else q.2.1
  let n2 := if cnt l s then n1 + 1 else n1
  (max q.1 n2, if endsAt l s.event then 0 else n2, s.event)
def longS (l : List Rec) (log : List Stp) : Int × Int × Int := log.foldl (stepL l) (0, 0, 0)
def longF (l : List Rec) (log : List Stp) : Int := (longS l log).1
theorem longS_snoc (l : List Rec) (log : List Stp) (s : Stp) : longS l (log ++ [s]) = stepL l (longS l log) s := by simp [longS]
def okStp (s : Stp) : Prop := -9223372036854775808 ≤ s.event ∧ s.event ≤ 9223372036854775807

theorem endsIn_out (l : List Rec) (a e : Int) (_ : a < e) : endsIn l (a + 1) (e - 1) = endsOut l a e := by
  unfold endsIn endsOut
  congr 1; funext r
  rw [show decide (a + 1 ≤ r.fin) = decide (a < r.fin) by apply decide_eq_decide.2; omega, show decide (r.fin ≤ e - 1) = decide (r.fin < e) by apply decide_eq_decide.2; omega]
theorem endsOut_none (l : List Rec) (a e : Int) (h : e ≤ a) : endsOut l a e = false := by
  unfold endsOut
  rw [List.any_eq_false]
  intro r _
  simp; intro _ _; omega
theorem endsIn_at (l : List Rec) (e : Int) : endsIn l e e = endsAt l e := by
  unfold endsIn endsAt
  congr 1; funext r
  cases r.done <;> simp
  rw [Bool.eq_iff_iff]; simp; omega

theorem rd_two (W : World) (a b : Int) : Rd encI (W.alloc (.cells #[.int .i64 a, .int .i64 b] 3)) (.slice (some ⟨W.heap.size, 0, none⟩) 2 2) [a, b] := by
  have h : Own encI 3 (W.alloc (.cells #[.int .i64 a, .int .i64 b] 3)) (.slice (some ⟨W.heap.size, 0, none⟩) 2 2) [a, b] :=
    Own.lit (xs := [a, b]) (heap_alloc_new W _) rfl (by simp [maxLen])
  obtain ⟨g, h⟩ := h.rd
  exact ⟨g, 0, h⟩
theorem maxF_two (a b : Int) (h : 0 ≤ a) : maxF [a, b] = max a b := by simp [maxF, Int.max_eq_right h]

/-- what the loop knows behind k steps -/
theorem long_bd (l : List Rec) (log : List Stp) : ∀ k, k ≤ log.length → 0 ≤ (longS l (log.take k)).2.1 ∧ (longS l (log.take k)).2.1 ≤ k ∧ 0 ≤ (longS l (log.take k)).1 ∧ (longS l (log.take k)).1 ≤ k := by
  intro k
  induction k with
  | zero => intro _; simp [longS]
  | succ k ih =>
    intro hk
    obtain ⟨s, hs⟩ := at_of log (show k < log.length by omega)
    rw [take_at hs, longS_snoc]
    have := ih (by omega)
    generalize longS l (log.take k) = q at this ⊢
    obtain ⟨a, b, c⟩ := q
    unfold stepL
    simp only at this ⊢
    cases endsOut l c s.event <;> cases cnt l s <;> cases endsAt l s.event <;> simp <;> omega
theorem long_ahead (l : List Rec) (log : List Stp) (hok : ∀ s ∈ log, okStp s) : ∀ k, k ≤ log.length → -9223372036854775808 ≤ (longS l (log.take k)).2.2 ∧ (longS l (log.take k)).2.2 ≤ 9223372036854775807 := by
  intro k hk
  cases k with
  | zero => simp [longS]
  | succ k =>
    obtain ⟨s, hs⟩ := at_of log (show k < log.length by omega)
    rw [take_at hs, longS_snoc]
    exact hok s (List.mem_of_getElem? hs)

set_option maxHeartbeats 4000000 in
theorem longest_any (v vs : Value) (l : List Rec) (log : List Stp) (w : World) (hl : Rd encRec w v l) (hlen : l.length ≤ 100) (hs : Rd encStp w vs log) (hlog : log.length ≤ 300) (hok : ∀ s ∈ log, okStp s) :
    Calls Try.prog 20 #[v, vs] w fun e w' => e = .returned (.int .i64 (longF l log)) ∧ Fr [] w w' := by
  obtain ⟨b1, o1, hs⟩ := hs
  have l1 := lenS hs
  go_enter Try.func20, Try.ntmps20
  go_wp2
  go_loopw [5, 6, 7, 12] (fun best n ahead i wr => ∃ k : Nat, k ≤ log.length ∧ i = .int .i64 k ∧ best = .int .i64 (longS l (log.take k)).1 ∧ n = .int .i64 (longS l (log.take k)).2.1 ∧ ahead = .int .i64 (longS l (log.take k)).2.2 ∧ Fr [] w wr) (fun _ _ _ i _ => log.length - (intOf i).toNat)
  case atStart => exact ⟨0, by omega, rfl, rfl, rfl, rfl, Fr.refl _ _⟩
  case round =>
    obtain ⟨k, hk, rfl, rfl, rfl, rfl, hf⟩ := hrel
    have bd1 := long_bd l log k hk
    have bd2 := long_ahead l log hok k hk
    have hst : ∀ s, log[k]? = some s → longS l (log.take (k + 1)) = stepL l (longS l (log.take k)) s := fun s h => by rw [take_at h, longS_snoc]
    have HST := Lib.hid hst
    clear hst
    have hfin : Hid (k = log.length → longF l log = (longS l (log.take k)).1) := by
      unfold Hid; rintro rfl; rw [List.take_length]; rfl
    generalize longS l (log.take k) = q at bd1 bd2 HST hfin ⊢
    obtain ⟨B, n, a⟩ := q
    simp only at bd1 bd2 hfin ⊢
    by_cases hlt : k < log.length
    · obtain ⟨s, hsk⟩ := at_of log hlt
      have i1 := idxS hs hlt
      have c1 := stpAt (hs.keep0 hf) hsk
      have hsk2 := hok s (List.mem_of_getElem? hsk)
      unfold okStp at hsk2
      have hstep := Lib.hid (HST.out s hsk)
      clear HST hsk hfin
      obtain ⟨C1, hC1⟩ : ∃ c, endsOut l a s.event = c := ⟨_, rfl⟩
      obtain ⟨C2, hC2⟩ : ∃ c, cnt l s = c := ⟨_, rfl⟩
      obtain ⟨C3, hC3⟩ : ∃ c, endsAt l s.event = c := ⟨_, rfl⟩
      have H1 := Lib.hid hC1
      have H2 := Lib.hid hC2
      have H3 := Lib.hid hC3
      clear hC1 hC2 hC3
      have B0 := Box.new wr #[.int .i64 s.event, .int .i64 s.thread, .int .i64 s.kind, .int .i64 s.at_, .int .u64 s.a, .int .u64 s.b, .int .u64 s.by_, .int .u64 s.found, .int .u64 s.gen, .bool s.parked] 39
      by_cases ha : a < s.event
      · have HA : Hid (endsIn l (a + 1) (s.event - 1) = C1) := by unfold Hid; rw [endsIn_out l a s.event ha]; exact H1.out
        cases C1 <;> cases C2 <;> cases C3
        all_goals
          go_wp2_with fail
          refine (ends_any v l _ _ _ (hl.keep0 (hf.alloc _)) hlen).mono ?_
          rintro e w1 ⟨rfl, f1⟩
          rw [HA.out]
          have F1 := (hf.alloc _).trans0 f1
          have B1 := B0.keep0 f1
          obtain ⟨x1, y1⟩ := B1
          clear c1
          go_wp2_with fail
          refine (counts_any v l s _ (hl.keep0 F1) hlen).mono ?_
          rintro e w2 ⟨rfl, f2⟩
          rw [H2.out]
          have F2 := F1.trans0 f2
          have B2 := (Box.mk x1 y1).keep0 f2
          obtain ⟨x2, y2⟩ := B2
          clear x1 y1
          go_wp2_with fail
          refine (most_any _ _ _ (rd_two w2 _ _)).mono ?_
          rintro e w3 ⟨rfl, f3⟩
          rw [maxF_two _ _ bd1.2.2.1]
          have F3 := (F2.alloc _).trans0 f3
          have B3 := (Box.mk x2 y2).keep0 (((Fr.refl [] w2).alloc _).trans0 f3)
          obtain ⟨x3, y3⟩ := B3
          clear x2 y2
          go_wp2_with fail
          refine (ends_any v l _ _ _ (hl.keep0 F3) hlen).mono ?_
          rintro e w4 ⟨rfl, f4⟩
          rw [endsIn_at, H3.out]
          have F4 := F3.trans0 f4
          have B4 := (Box.mk x3 y3).keep0 f4
          obtain ⟨x4, y4⟩ := B4
          clear x3 y3
          go_wp2
          go_roundw
          case rel =>
            refine ⟨k + 1, by omega, by go_num, ?_, ?_, ?_, F4⟩ <;> rw [hstep.out] <;> simp [stepL, H1.out, H2.out, H3.out]
          case measure => simp [intOf]; omega
      · have hc : C1 = false := by rw [← H1.out]; exact endsOut_none _ _ _ (by omega)
        subst hc
        cases C2 <;> cases C3
        all_goals
          go_wp2_with fail
          refine (counts_any v l s _ (hl.keep0 (hf.alloc _)) hlen).mono ?_
          rintro e w2 ⟨rfl, f2⟩
          rw [H2.out]
          have F2 := (hf.alloc _).trans0 f2
          have B2 := B0.keep0 f2
          obtain ⟨x2, y2⟩ := B2
          clear c1
          go_wp2_with fail
          refine (most_any _ _ _ (rd_two w2 _ _)).mono ?_
          rintro e w3 ⟨rfl, f3⟩
          rw [maxF_two _ _ bd1.2.2.1]
          have F3 := (F2.alloc _).trans0 f3
          have B3 := (Box.mk x2 y2).keep0 (((Fr.refl [] w2).alloc _).trans0 f3)
          obtain ⟨x3, y3⟩ := B3
          clear x2 y2
          go_wp2_with fail
          refine (ends_any v l _ _ _ (hl.keep0 F3) hlen).mono ?_
          rintro e w4 ⟨rfl, f4⟩
          rw [endsIn_at, H3.out]
          have F4 := F3.trans0 f4
          have B4 := (Box.mk x3 y3).keep0 f4
          obtain ⟨x4, y4⟩ := B4
          clear x3 y3
          go_wp2
          go_roundw
          case rel =>
            refine ⟨k + 1, by omega, by go_num, ?_, ?_, ?_, F4⟩ <;> rw [hstep.out] <;> simp [stepL, H1.out, H2.out, H3.out]
          case measure => simp [intOf]; omega
    · have hke : Hid (k = log.length) := by unfold Hid; omega
      go_wp2
      go_ret
      exact ⟨ret_i64 (hfin.out hke.out).symm, hf⟩
end Go.Proofs.Ytlpefbpamgeikaa
