/- DERIVED. Chapter 44, the reference: Legal. -/
import Derived.Test.YtlpefbpamgeikaaHuntS
namespace Go.Proofs.Ytlpefbpamgeikaa
open Go.RowKit

set_option maxRecDepth 20000 in
set_option maxHeartbeats 1000000 in
theorem legal_no (v : Value) (l : List Tm) (k h d s now : Int) (hn : ∀ t ∈ l, t.handle ≠ h) (w : World) (hl : Rd encTm w v l) :
    Calls Try.prog 44 #[v, .agg #[.int .i64 k, .int .u64 h, .int .i64 d, .int .i64 s], .int .i64 now] w fun e w' => e = .returned (.bool (if k = 1 then true else if k = 2 then false else if k = 3 then false else if k = 4 then true else k == 5)) ∧ Fr [] w w' := by
  have F0 : Fr [] w (w.alloc (.cells #[.int .i64 k, .int .u64 h, .int .i64 d, .int .i64 s] 65)) := (Fr.refl _ _).alloc _
  have B0 := Box.new w #[.int .i64 k, .int .u64 h, .int .i64 d, .int .i64 s] 65
  have FC := find_no v l h _ (hl.keep0 F0) hn
  have FH := Lib.hid FC
  clear FC
  obtain ⟨g, hg⟩ : ∃ g, w.heap.size = g := ⟨_, rfl⟩
  rw [hg] at B0
  have HG := Lib.hid hg
  clear hg
  have b1 := B0.cell
  have HF := Lib.hid F0
  clear F0 hl hn B0
  obtain ⟨res, hr⟩ : ∃ res, (if k = 1 then true else if k = 2 then false else if k = 3 then false else if k = 4 then true else k == 5) = res := ⟨_, rfl⟩
  rw [hr]
  have HR := Lib.hid hr
  clear hr
  by_cases k1 : k = 1
  · subst k1
    go_enter Try.func44, Try.ntmps44
    go_wp2_with fail
    rw [HG.out]
    refine FH.out.mono ?_
    rintro e w1 ⟨rfl, rfl⟩
    clear FH
    go_wp2
    go_ret
    have hr := HR.out
    exact ⟨by simp at hr; simp [hr], HF.out⟩
  · by_cases k2 : k = 2
    · subst k2
      go_enter Try.func44, Try.ntmps44
      go_wp2_with fail
      rw [HG.out]
      refine FH.out.mono ?_
      rintro e w1 ⟨rfl, rfl⟩
      clear FH
      go_wp2_with fail
      go_quiet (fail)
      go_wp2
      go_ret
      have hr := HR.out
      exact ⟨by simp at hr; simp [hr], HF.out.drewN _⟩
    · by_cases k3 : k = 3
      · subst k3
        go_enter Try.func44, Try.ntmps44
        go_wp2_with fail
        rw [HG.out]
        refine FH.out.mono ?_
        rintro e w1 ⟨rfl, rfl⟩
        clear FH
        go_wp2
        go_ret
        have hr := HR.out
        exact ⟨by simp at hr; simp [hr], HF.out⟩
      · by_cases k4 : k = 4
        · subst k4
          go_enter Try.func44, Try.ntmps44
          go_wp2_with fail
          rw [HG.out]
          refine FH.out.mono ?_
          rintro e w1 ⟨rfl, rfl⟩
          clear FH
          go_wp2
          go_ret
          have hr := HR.out
          exact ⟨by simp at hr; simp [hr], HF.out⟩
        · have q1 : (k == 1) = false := by simpa using k1
          have q2 : (k == 2) = false := by simpa using k2
          have q3 : (k == 3) = false := by simpa using k3
          have q4 : (k == 4) = false := by simpa using k4
          have HK := Lib.hid (And.intro k1 (And.intro k2 (And.intro k3 k4)))
          clear k1 k2 k3 k4
          go_enter Try.func44, Try.ntmps44
          go_wp2_with fail
          rw [HG.out]
          refine FH.out.mono ?_
          rintro e w1 ⟨rfl, rfl⟩
          clear FH
          go_wp2
          go_ret
          have hr := HR.out
          exact ⟨by simp [HK.out.1, HK.out.2.1, HK.out.2.2.1, HK.out.2.2.2] at hr; simp [hr], HF.out⟩

set_option maxRecDepth 20000 in
set_option maxHeartbeats 1000000 in
theorem legal_yes (v : Value) (l : List Tm) (k h d s now : Int) (j : Nat) (t : Tm) (hn : First l h j t) (w : World) (hl : Rd encTm w v l) :
    Calls Try.prog 44 #[v, .agg #[.int .i64 k, .int .u64 h, .int .i64 d, .int .i64 s], .int .i64 now] w fun e w' => e = .returned (.bool (if k = 1 then false else if k = 2 then t.live && (t.deadline == d && decide (d ≤ now)) else if k = 3 then t.live else if k = 4 then !t.live else k == 5)) ∧ Fr [] w w' := by
  have F0 : Fr [] w (w.alloc (.cells #[.int .i64 k, .int .u64 h, .int .i64 d, .int .i64 s] 65)) := (Fr.refl _ _).alloc _
  have B0 := Box.new w #[.int .i64 k, .int .u64 h, .int .i64 d, .int .i64 s] 65
  have FC := find_yes v l h j t _ (hl.keep0 F0) hn
  have FH := Lib.hid FC
  clear FC
  obtain ⟨b, o, ha⟩ := hl.keep0 F0
  have hj := (List.getElem?_eq_some_iff.1 hn.at_).1
  have i1 := idxT ha hj
  have c1 := (tmAt ha hn.at_).2
  have p0 : (0 : Int) ≤ (j : Int) := Int.natCast_nonneg j
  have p1 : decide ((j : Int) < 0) = false := by simp
  have p2 : decide ((0 : Int) ≤ (j : Int)) = true := by simp
  clear ha hj
  obtain ⟨g, hg⟩ : ∃ g, w.heap.size = g := ⟨_, rfl⟩
  rw [hg] at B0
  have HG := Lib.hid hg
  clear hg
  have b1 := B0.cell
  have HF := Lib.hid F0
  clear F0 hl hn B0
  obtain ⟨res, hr⟩ : ∃ res, (if k = 1 then false else if k = 2 then t.live && (t.deadline == d && decide (d ≤ now)) else if k = 3 then t.live else if k = 4 then !t.live else k == 5) = res := ⟨_, rfl⟩
  rw [hr]
  have HR := Lib.hid hr
  clear hr
  cases hv : t.live
  · rw [hv] at c1
    have HV := Lib.hid hv
    clear hv
    by_cases k1 : k = 1
    · subst k1
      go_enter Try.func44, Try.ntmps44
      go_wp2_with fail
      rw [HG.out]
      refine FH.out.mono ?_
      rintro e w1 ⟨rfl, rfl⟩
      clear FH
      go_wp2
      go_ret
      have hr := HR.out
      exact ⟨by simp [HV.out] at hr; simp [hr], HF.out⟩
    · by_cases k2 : k = 2
      · subst k2
        go_enter Try.func44, Try.ntmps44
        go_wp2_with fail
        rw [HG.out]
        refine FH.out.mono ?_
        rintro e w1 ⟨rfl, rfl⟩
        clear FH
        go_wp2_with fail
        go_quiet (fail)
        go_wp2
        go_ret
        have hr := HR.out
        exact ⟨by simp [HV.out] at hr; simp [hr], HF.out.drewN _⟩
      · by_cases k3 : k = 3
        · subst k3
          go_enter Try.func44, Try.ntmps44
          go_wp2_with fail
          rw [HG.out]
          refine FH.out.mono ?_
          rintro e w1 ⟨rfl, rfl⟩
          clear FH
          go_wp2
          go_ret
          have hr := HR.out
          exact ⟨by simp [HV.out] at hr; simp [hr], HF.out⟩
        · by_cases k4 : k = 4
          · subst k4
            go_enter Try.func44, Try.ntmps44
            go_wp2_with fail
            rw [HG.out]
            refine FH.out.mono ?_
            rintro e w1 ⟨rfl, rfl⟩
            clear FH
            go_wp2
            go_ret
            have hr := HR.out
            exact ⟨by simp [HV.out] at hr; simp [hr], HF.out⟩
          · have q1 : (k == 1) = false := by simpa using k1
            have q2 : (k == 2) = false := by simpa using k2
            have q3 : (k == 3) = false := by simpa using k3
            have q4 : (k == 4) = false := by simpa using k4
            have HK := Lib.hid (And.intro k1 (And.intro k2 (And.intro k3 k4)))
            clear k1 k2 k3 k4
            go_enter Try.func44, Try.ntmps44
            go_wp2_with fail
            rw [HG.out]
            refine FH.out.mono ?_
            rintro e w1 ⟨rfl, rfl⟩
            clear FH
            go_wp2
            go_ret
            have hr := HR.out
            exact ⟨by simp [HK.out.1, HK.out.2.1, HK.out.2.2.1, HK.out.2.2.2] at hr; simp [hr], HF.out⟩
  · rw [hv] at c1
    have HV := Lib.hid hv
    clear hv
    by_cases k1 : k = 1
    · subst k1
      go_enter Try.func44, Try.ntmps44
      go_wp2_with fail
      rw [HG.out]
      refine FH.out.mono ?_
      rintro e w1 ⟨rfl, rfl⟩
      clear FH
      go_wp2
      go_ret
      have hr := HR.out
      exact ⟨by simp [HV.out] at hr; simp [hr], HF.out⟩
    · by_cases k2 : k = 2
      · subst k2
        by_cases q1 : t.deadline = d
        · have q2 : (t.deadline == d) = true := by simpa using q1
          have HQ := Lib.hid q1
          clear q1
          by_cases q3 : d ≤ now
          · have q4 : decide (d ≤ now) = true := by simpa using q3
            clear q3
            go_enter Try.func44, Try.ntmps44
            go_wp2_with fail
            rw [HG.out]
            refine FH.out.mono ?_
            rintro e w1 ⟨rfl, rfl⟩
            clear FH
            go_wp2_with fail
            go_quiet (fail)
            go_wp2
            go_ret
            have hr := HR.out
            exact ⟨by simp [HV.out, HQ.out, q4] at hr; simp [hr], HF.out.drewN _⟩
          · have q4 : decide (d ≤ now) = false := by simpa using q3
            clear q3
            go_enter Try.func44, Try.ntmps44
            go_wp2_with fail
            rw [HG.out]
            refine FH.out.mono ?_
            rintro e w1 ⟨rfl, rfl⟩
            clear FH
            go_wp2_with fail
            go_quiet (fail)
            go_wp2
            go_ret
            have hr := HR.out
            exact ⟨by simp [HV.out, HQ.out, q4] at hr; simp [hr], HF.out.drewN _⟩
        · have q2 : (t.deadline == d) = false := by simpa using q1
          clear q1
          go_enter Try.func44, Try.ntmps44
          go_wp2_with fail
          rw [HG.out]
          refine FH.out.mono ?_
          rintro e w1 ⟨rfl, rfl⟩
          clear FH
          go_wp2_with fail
          go_quiet (fail)
          go_wp2
          go_ret
          have hr := HR.out
          exact ⟨by simp [HV.out, q2] at hr; simp [hr], HF.out.drewN _⟩
      · by_cases k3 : k = 3
        · subst k3
          go_enter Try.func44, Try.ntmps44
          go_wp2_with fail
          rw [HG.out]
          refine FH.out.mono ?_
          rintro e w1 ⟨rfl, rfl⟩
          clear FH
          go_wp2
          go_ret
          have hr := HR.out
          exact ⟨by simp [HV.out] at hr; simp [hr], HF.out⟩
        · by_cases k4 : k = 4
          · subst k4
            go_enter Try.func44, Try.ntmps44
            go_wp2_with fail
            rw [HG.out]
            refine FH.out.mono ?_
            rintro e w1 ⟨rfl, rfl⟩
            clear FH
            go_wp2
            go_ret
            have hr := HR.out
            exact ⟨by simp [HV.out] at hr; simp [hr], HF.out⟩
          · have q1 : (k == 1) = false := by simpa using k1
            have q2 : (k == 2) = false := by simpa using k2
            have q3 : (k == 3) = false := by simpa using k3
            have q4 : (k == 4) = false := by simpa using k4
            have HK := Lib.hid (And.intro k1 (And.intro k2 (And.intro k3 k4)))
            clear k1 k2 k3 k4
            go_enter Try.func44, Try.ntmps44
            go_wp2_with fail
            rw [HG.out]
            refine FH.out.mono ?_
            rintro e w1 ⟨rfl, rfl⟩
            clear FH
            go_wp2
            go_ret
            have hr := HR.out
            exact ⟨by simp [HK.out.1, HK.out.2.1, HK.out.2.2.1, HK.out.2.2.2] at hr; simp [hr], HF.out⟩

theorem legal_ref {l : List Tm} {lv wr : Timers} (hR : RefM l lv wr) (v : Value) (k h d s now : Int) (w : World) (hl : Rd encTm w v l) :
    Calls Try.prog 44 #[v, .agg #[.int .i64 k, .int .u64 h, .int .i64 d, .int .i64 s], .int .i64 now] w fun e w' => e = .returned (.bool (legalB lv wr k h d now)) ∧ Fr [] w w' := by
  rcases first_or l h with hn | ⟨j, t, hn⟩
  · refine (legal_no v l k h d s now hn w hl).mono ?_
    rintro e w' ⟨rfl, hf⟩
    refine ⟨?_, hf⟩
    obtain ⟨h1, h2⟩ := (hR h).1 hn
    simp [legalB, h1, h2]
  · refine (legal_yes v l k h d s now j t hn w hl).mono ?_
    rintro e w' ⟨rfl, hf⟩
    refine ⟨?_, hf⟩
    obtain ⟨h1, h2⟩ := (hR h).2 j t hn
    cases hv : t.live
    · rw [hv] at h2; simp [legalB, h1, h2]
    · rw [hv] at h2
      simp [legalB, h1, h2]
      by_cases hd : t.deadline = d
      · rw [hd]
      · have e : (t.deadline == d) = false := by simpa using hd
        rw [e]; rfl
end Go.Proofs.Ytlpefbpamgeikaa
