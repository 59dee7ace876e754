/- DERIVED. Chapter 50: the reference's Longest. -/
import Derived.Test.YtlpefbpamgeikaaSpanC
namespace Go.Proofs.Ytlpefbpamgeikaa
open Go.RowKit

set_option maxHeartbeats 4000000 in
theorem refLongest_any (v vs : Value) (l : List Rec) (log : List Stp) (w : World) (hl : Rd encRec w v l) (hlen : l.length ≤ 100) (hs : Rd encStp w vs log) (hlog : log.length ≤ 300) :
    Calls Try.prog 21 #[v, vs] w fun e w' => e = .returned (.int .i64 (longF l log)) ∧ Fr [] w w' := by
  obtain ⟨b1, o1, hs⟩ := hs
  have l1 := lenS hs
  go_enter Try.func21, Try.ntmps21
  go_wp2
  go_loopw [5, 6, 7, 8] (fun best n ahead i wr => ∃ k : Nat, k ≤ log.length ∧ i = .int .i64 k ∧ best = .int .i64 (longS l (log.take k)).1 ∧ n = .int .i64 (longS l (log.take k)).2.1 ∧ ahead = .int .i64 (longS l (log.take k)).2.2 ∧ Fr [] w wr) (fun _ _ _ i _ => log.length - (intOf i).toNat)
  case atStart => exact ⟨0, by omega, rfl, rfl, rfl, rfl, Fr.refl _ _⟩
  case round =>
    obtain ⟨k, hk, rfl, rfl, rfl, rfl, hf⟩ := hrel
    have bd1 := long_bd l log k hk
    have hst : ∀ s, log[k]? = some s → longS l (log.take (k + 1)) = stepL l (longS l (log.take k)) s := fun s h => by rw [take_at h, longS_snoc]
    have HST := Lib.hid hst
    clear hst
    have hfin : Hid (k = log.length → longF l log = (longS l (log.take k)).1) := by
      unfold Hid; rintro rfl; rw [List.take_length]; rfl
    generalize longS l (log.take k) = q at bd1 HST hfin ⊢
    obtain ⟨B, n, a⟩ := q
    simp only at bd1 hfin ⊢
    by_cases hlt : k < log.length
    · obtain ⟨s, hsk⟩ := at_of log hlt
      have i1 := idxS hs hlt
      have HS := Lib.hid hsk
      have c1 := stpAt (hs.keep0 hf) hsk
      have hstep := Lib.hid (HST.out s hsk)
      clear HST hsk hfin
      obtain ⟨C1, hC1⟩ : ∃ c, endsOut l a s.event = c := ⟨_, rfl⟩
      obtain ⟨C2, hC2⟩ : ∃ c, cnt l s = c := ⟨_, rfl⟩
      obtain ⟨C3, hC3⟩ : ∃ c, endsAt l s.event = c := ⟨_, rfl⟩
      have H1 := Lib.hid hC1
      have H2 := Lib.hid hC2
      have H3 := Lib.hid hC3
      clear hC1 hC2 hC3
      cases C1 <;> cases C2 <;> cases C3
      all_goals
        go_wp2_with fail
        refine (refEnds_any v l _ _ _ (hl.keep0 hf) hlen).mono ?_
        rintro e w1 ⟨rfl, f1⟩
        rw [H1.out]
        have F1 := hf.trans0 f1
        have c2 := stpAt (hs.keep0 F1) HS.out
        clear c1
        go_wp2_with fail
        refine (refCounts_any v l s _ (hl.keep0 F1) hlen).mono ?_
        rintro e w2 ⟨rfl, f2⟩
        rw [H2.out]
        have F2 := F1.trans0 f2
        have c3 := stpAt (hs.keep0 F2) HS.out
        clear c2
        go_wp2_with fail
        all_goals
          refine (refAt_any v l _ _ (hl.keep0 F2) hlen).mono ?_
          rintro e w3 ⟨rfl, f3⟩
          rw [H3.out]
          have F3 := F2.trans0 f3
          have c4 := stpAt (hs.keep0 F3) HS.out
          clear c3
          go_wp2
          go_roundw
          case rel =>
            refine ⟨k + 1, by omega, by go_num, ?_, ?_, ?_, F3⟩ <;> rw [hstep.out] <;> simp [stepL, H1.out, H2.out, H3.out] <;> omega
          case measure => simp [intOf]; omega
    · have hke : Hid (k = log.length) := by unfold Hid; omega
      go_wp2
      go_ret
      exact ⟨ret_i64 (hfin.out hke.out).symm, hf⟩
end Go.Proofs.Ytlpefbpamgeikaa
