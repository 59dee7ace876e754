/- DERIVED. Chapter 42: Line, of the document's answer: step and tick. -/
import Derived.Test.YtkdmodanfcpcfaaDoorLine3
import Derived.Test.YtkdmodanfcpcfaaDoorRCallP
namespace Go.Proofs.YtkdmodanfcpcfaaDoor
open Go.RowKit

set_option maxRecDepth 20000 in
set_option maxHeartbeats 4000000 in
theorem rline_step (th tk : Int) (c : CallA) (he : EventA.ok ⟨2, th, c, tk⟩) (w : World) :
    Calls Tryd.prog 21 #[eventAgg ⟨2, th, c, tk⟩] w fun x w' => LineR ⟨2, th, c, tk⟩ x ∧ Fr [] w w' := by
  unfold eventAgg
  have CT := fun W => number_any th he.thread.1 he.thread.2 W
  have CK := fun W => number_any tk he.ticks.1 he.ticks.2 W
  simp only [Str.lit] at CT CK
  have B0 := bf2 w #[.int .i64 2, .int .i64 th, .int .i64 c.kind, .int .i64 c.deadline, .int .u64 c.draw, .int .u64 c.handle, .int .i64 c.count, .int .i64 tk] #[.int .i64 2, .int .i64 0, .int .i64 0, .int .i64 0, .int .u64 0, .int .u64 0, .int .i64 0, .int .i64 0] 49 49
  have L1 : (Str (Lib.itoa th)).size ≤ 21 := itoa_len th he.thread.1 he.thread.2
  have L2 : (Str (Lib.itoa tk)).size ≤ 21 := itoa_len tk he.ticks.1 he.ticks.2
  have hR : lineV ⟨2, th, c, tk⟩ = if c = noCall ∧ tk = 0 ∧ 0 ≤ th then some (wStep ++ 32 :: Lib.itoa th ++ [10]) else none := by unfold lineV; rfl
  have hcat : Str (wStep ++ 32 :: Lib.itoa th ++ [10]) = ⟨#[115, 116, 101, 112, 32]⟩ ++ Str (Lib.itoa th) ++ ⟨#[10]⟩ := by
    apply ByteArray.ext
    simp [Str, wStep, ByteArray.data_append]
  obtain ⟨A, hA⟩ : ∃ A, Str (Lib.itoa th) = A := ⟨_, rfl⟩
  rw [hA] at hcat
  have HG := Lib.hid (And.intro B0.1 (And.intro B0.2.1 (And.intro B0.2.2 (And.intro hR hcat))))
  have HCT := Lib.hid CT
  have HCK := Lib.hid CK
  clear B0 CT CK hR hcat he
  go_enter Tryd.func21, Tryd.ntmps21
  go_wp2_with fail
  obtain ⟨g1, h1⟩ : ∃ g, w.heap.size = g := ⟨_, rfl⟩
  obtain ⟨g5, h5⟩ : ∃ g, g1 + 1 = g := ⟨_, rfl⟩
  have n15 : g1 ≠ g5 := by omega
  have n51 : g5 ≠ g1 := by omega
  have gw : w.heap.size ≤ g5 := by omega
  refine (HCT.out _).mono ?_
  rintro e w1 ⟨rfl, f1⟩
  have b1 := HG.out.1.keep0 f1
  have b5 := HG.out.2.1.keep0 f1
  have f0 := HG.out.2.2.1.trans0 f1
  rw [h1] at b1 b5 ⊢
  rw [h5] at b5 ⊢
  clear f1 h1 h5
  have e0 := b1.cell 0
  have e1 := b1.cell 1
  have e2 := b1.cell 2
  have e3 := b1.cell 3
  have e4 := b1.cell 4
  have e5 := b1.cell 5
  have e6 := b1.cell 6
  have e7 := b1.cell 7
  have d0 := b5.cell 0
  have d1 := b5.cell 1
  have d2 := b5.cell 2
  have d3 := b5.cell 3
  have d4 := b5.cell 4
  have d5 := b5.cell 5
  have d6 := b5.cell 6
  have d7 := b5.cell 7
  have z1 := b5.fz 1
  rw [hA] at L1 ⊢
  have H7 := Lib.hid (show ∀ v, Fr [] w (w1.setCell ⟨g5, 1, none⟩ v) from fun v => f0.trans ((Fr.refl [g5] w1).setCell (p := ⟨g5, 1, none⟩) (.inl (by simp)) v) (fun x hx => .inr (by simp at hx; subst hx; exact gw)))
  clear b1 b5 f0 gw
  by_cases hcc : noCall = c
  · subst hcc
    dsimp only [noCall] at e2 e3 e4 e5 e6
    by_cases htk : tk = 0
    · subst htk
      by_cases hth : 0 ≤ th
      · have HY := Lib.hid (show lineV ⟨2, th, noCall, 0⟩ = some (wStep ++ 32 :: Lib.itoa th ++ [10]) by rw [HG.out.2.2.2.1, if_pos ⟨rfl, rfl, hth⟩])
        go_wp2
        go_ret2
        exact ⟨lineR_yes HY.out HG.out.2.2.2.2, H7.out _⟩
      · have HN := Lib.hid (show lineV ⟨2, th, noCall, 0⟩ = none by rw [HG.out.2.2.2.1, if_neg (fun h => hth h.2.2)])
        go_wp2
        go_ret2
        exact ⟨lineR_no HN.out, H7.out _⟩
    · have HN := Lib.hid (show lineV ⟨2, th, noCall, tk⟩ = none by rw [HG.out.2.2.2.1, if_neg (fun h => htk h.2.1)])
      have htk2 : ¬ (0 = tk) := fun h => htk h.symm
      go_wp2
      go_ret2
      exact ⟨lineR_no HN.out, H7.out _⟩
  · have HN := Lib.hid (show lineV ⟨2, th, c, tk⟩ = none by rw [HG.out.2.2.2.1, if_neg (fun h => hcc h.1.symm)])
    have hx := ne5 hcc
    clear hcc
    by_cases htk : tk = 0
    · subst htk
      obtain ⟨k', d', x', h', n'⟩ := c
      dsimp only [noCall] at hx e1 e2 e3 e4 e5 e6
      rcases hx with h1 | ⟨rfl, h1⟩ | ⟨rfl, rfl, h1⟩ | ⟨rfl, rfl, rfl, h1⟩ | ⟨rfl, rfl, rfl, rfl, h1⟩
      all_goals
        go_wp2
        go_ret2
        exact ⟨lineR_no HN.out, H7.out _⟩
    · have htk2 : ¬ (0 = tk) := fun h => htk h.symm
      obtain ⟨k', d', x', h', n'⟩ := c
      dsimp only [noCall] at hx e1 e2 e3 e4 e5 e6
      rcases hx with h1 | ⟨rfl, h1⟩ | ⟨rfl, rfl, h1⟩ | ⟨rfl, rfl, rfl, h1⟩ | ⟨rfl, rfl, rfl, rfl, h1⟩
      all_goals
        go_wp2
        go_ret2
        exact ⟨lineR_no HN.out, H7.out _⟩

set_option maxRecDepth 20000 in
set_option maxHeartbeats 4000000 in
theorem rline_tick (th tk : Int) (c : CallA) (he : EventA.ok ⟨3, th, c, tk⟩) (w : World) :
    Calls Tryd.prog 21 #[eventAgg ⟨3, th, c, tk⟩] w fun x w' => LineR ⟨3, th, c, tk⟩ x ∧ Fr [] w w' := by
  unfold eventAgg
  have CT := fun W => number_any th he.thread.1 he.thread.2 W
  have CK := fun W => number_any tk he.ticks.1 he.ticks.2 W
  simp only [Str.lit] at CT CK
  have B0 := bf2 w #[.int .i64 3, .int .i64 th, .int .i64 c.kind, .int .i64 c.deadline, .int .u64 c.draw, .int .u64 c.handle, .int .i64 c.count, .int .i64 tk] #[.int .i64 3, .int .i64 0, .int .i64 0, .int .i64 0, .int .u64 0, .int .u64 0, .int .i64 0, .int .i64 0] 49 49
  have L1 : (Str (Lib.itoa th)).size ≤ 21 := itoa_len th he.thread.1 he.thread.2
  have L2 : (Str (Lib.itoa tk)).size ≤ 21 := itoa_len tk he.ticks.1 he.ticks.2
  have hR : lineV ⟨3, th, c, tk⟩ = if c = noCall ∧ th = 0 ∧ 0 ≤ tk then some (wTick ++ 32 :: Lib.itoa tk ++ [10]) else none := by unfold lineV; rfl
  have hcat : Str (wTick ++ 32 :: Lib.itoa tk ++ [10]) = ⟨#[116, 105, 99, 107, 32]⟩ ++ Str (Lib.itoa tk) ++ ⟨#[10]⟩ := by
    apply ByteArray.ext
    simp [Str, wTick, ByteArray.data_append]
  obtain ⟨A, hA⟩ : ∃ A, Str (Lib.itoa tk) = A := ⟨_, rfl⟩
  rw [hA] at hcat
  have HG := Lib.hid (And.intro B0.1 (And.intro B0.2.1 (And.intro B0.2.2 (And.intro hR hcat))))
  have HCT := Lib.hid CT
  have HCK := Lib.hid CK
  clear B0 CT CK hR hcat he
  go_enter Tryd.func21, Tryd.ntmps21
  go_wp2_with fail
  obtain ⟨g1, h1⟩ : ∃ g, w.heap.size = g := ⟨_, rfl⟩
  obtain ⟨g5, h5⟩ : ∃ g, g1 + 1 = g := ⟨_, rfl⟩
  have n15 : g1 ≠ g5 := by omega
  have n51 : g5 ≠ g1 := by omega
  have gw : w.heap.size ≤ g5 := by omega
  refine (HCT.out _).mono ?_
  rintro e w1 ⟨rfl, f1⟩
  have b1 := HG.out.1.keep0 f1
  have b5 := HG.out.2.1.keep0 f1
  have f0 := HG.out.2.2.1.trans0 f1
  rw [h1] at b1 b5 ⊢
  rw [h5] at b5 ⊢
  clear f1 h1 h5
  have e0 := b1.cell 0
  have e1 := b1.cell 1
  have e2 := b1.cell 2
  have e3 := b1.cell 3
  have e4 := b1.cell 4
  have e5 := b1.cell 5
  have e6 := b1.cell 6
  have e7 := b1.cell 7
  have d0 := b5.cell 0
  have d1 := b5.cell 1
  have d2 := b5.cell 2
  have d3 := b5.cell 3
  have d4 := b5.cell 4
  have d5 := b5.cell 5
  have d6 := b5.cell 6
  have d7 := b5.cell 7
  have z7 := b5.fz 7
  go_wp2_with fail
  have fV : Fr [g5] w1 (w1.setCell ⟨g5, 7, none⟩ (.int .i64 tk)) := (Fr.refl [g5] w1).setCell (p := ⟨g5, 7, none⟩) (.inl (by simp)) _
  have b5' : BF (w1.setCell ⟨g5, 7, none⟩ (.int .i64 tk)) g5 (⟨3, 0, noCall, tk⟩ : EventA).cs := b5.set 7 (by simp) (.int .i64 tk)
  have b1' := b1.keep fV (by simp; exact n15)
  have F := f0.trans fV (fun x hx => .inr (by simp at hx; subst hx; exact gw))
  clear e0 e1 e2 e3 e4 e5 e6 e7 d0 d1 d2 d3 d4 d5 d6 d7 z7 b1 b5 fV f0
  refine (HCK.out _).mono ?_
  rintro e w2 ⟨rfl, f2⟩
  have b1 := b1'.keep0 f2
  have b5 := b5'.keep0 f2
  have H7 := Lib.hid (F.trans0 f2)
  clear b1' b5' f2 F gw
  rw [hA] at L2 ⊢
  obtain ⟨⟨d0, d1, d2, d3, d4, d5, d6, d7⟩, _⟩ := b5.ev
  dsimp only [noCall] at d0 d1 d2 d3 d4 d5 d6 d7
  have e0 := b1.cell 0
  have e1 := b1.cell 1
  have e2 := b1.cell 2
  have e3 := b1.cell 3
  have e4 := b1.cell 4
  have e5 := b1.cell 5
  have e6 := b1.cell 6
  have e7 := b1.cell 7
  clear b1 b5
  by_cases hcc : noCall = c
  · subst hcc
    dsimp only [noCall] at e2 e3 e4 e5 e6
    by_cases htk : th = 0
    · subst htk
      by_cases hth : 0 ≤ tk
      · have HY := Lib.hid (show lineV ⟨3, 0, noCall, tk⟩ = some (wTick ++ 32 :: Lib.itoa tk ++ [10]) by rw [HG.out.2.2.2.1, if_pos ⟨rfl, rfl, hth⟩])
        go_wp2
        go_ret2
        exact ⟨lineR_yes HY.out HG.out.2.2.2.2, H7.out⟩
      · have HN := Lib.hid (show lineV ⟨3, 0, noCall, tk⟩ = none by rw [HG.out.2.2.2.1, if_neg (fun h => hth h.2.2)])
        go_wp2
        go_ret2
        exact ⟨lineR_no HN.out, H7.out⟩
    · have HN := Lib.hid (show lineV ⟨3, th, noCall, tk⟩ = none by rw [HG.out.2.2.2.1, if_neg (fun h => htk h.2.1)])
      have htk2 : ¬ (0 = th) := fun h => htk h.symm
      go_wp2
      go_ret2
      exact ⟨lineR_no HN.out, H7.out⟩
  · have HN := Lib.hid (show lineV ⟨3, th, c, tk⟩ = none by rw [HG.out.2.2.2.1, if_neg (fun h => hcc h.1.symm)])
    have hx := ne5 hcc
    clear hcc
    by_cases htk : th = 0
    · subst htk
      obtain ⟨k', d', x', h', n'⟩ := c
      dsimp only [noCall] at hx e1 e2 e3 e4 e5 e6
      rcases hx with h1 | ⟨rfl, h1⟩ | ⟨rfl, rfl, h1⟩ | ⟨rfl, rfl, rfl, h1⟩ | ⟨rfl, rfl, rfl, rfl, h1⟩
      all_goals
        go_wp2
        go_ret2
        exact ⟨lineR_no HN.out, H7.out⟩
    · have htk2 : ¬ (0 = th) := fun h => htk h.symm
      obtain ⟨k', d', x', h', n'⟩ := c
      dsimp only [noCall] at hx e1 e2 e3 e4 e5 e6
      rcases hx with h1 | ⟨rfl, h1⟩ | ⟨rfl, rfl, h1⟩ | ⟨rfl, rfl, rfl, h1⟩ | ⟨rfl, rfl, rfl, rfl, h1⟩
      all_goals
        go_wp2
        go_ret2
        exact ⟨lineR_no HN.out, H7.out⟩

end Go.Proofs.YtkdmodanfcpcfaaDoor

/- DERIVED. Chapter 42: Line, of the document's answer: call, and any event. -/
namespace Go.Proofs.YtkdmodanfcpcfaaDoor
open Go.RowKit

set_option maxRecDepth 20000 in
set_option maxHeartbeats 4000000 in
theorem rline_call (th tk : Int) (c : CallA) (he : EventA.ok ⟨1, th, c, tk⟩) (w : World) :
    Calls Tryd.prog 21 #[eventAgg ⟨1, th, c, tk⟩] w fun x w' => LineR ⟨1, th, c, tk⟩ x ∧ Fr [] w w' := by
  unfold eventAgg
  have CT := fun W => number_any th he.thread.1 he.thread.2 W
  simp only [Str.lit] at CT
  have L1 : (Str (Lib.itoa th)).size ≤ 21 := itoa_len th he.thread.1 he.thread.2
  have L3 : (Str (callT c)).size ≤ 136 := callT_len he.call
  have L4 : (callT c).length ≤ 136 := by rwa [Str.size] at L3
  have CC := fun W => refCall_any c he.call W
  have CP := fun W => refCallParse_any (callT c) (by omega) W
  have hR : lineV ⟨1, th, c, tk⟩ = if backV c ∧ tk = 0 ∧ 0 ≤ th then some (wCall ++ 32 :: Lib.itoa th ++ 32 :: callT c ++ [10]) else none := by unfold lineV; rw [if_pos rfl]
  have hb : backV c ↔ callV (callT c) = some c := Iff.rfl
  have B0 := bf2 w #[.int .i64 1, .int .i64 th, .int .i64 c.kind, .int .i64 c.deadline, .int .u64 c.draw, .int .u64 c.handle, .int .i64 c.count, .int .i64 tk] #[.int .i64 1, .int .i64 0, .int .i64 0, .int .i64 0, .int .u64 0, .int .u64 0, .int .i64 0, .int .i64 0] 49 49
  obtain ⟨o, ho⟩ : ∃ o, callV (callT c) = o := ⟨_, rfl⟩
  rw [ho] at hb
  simp only [ho] at CP
  have hcat : Str (wCall ++ 32 :: Lib.itoa th ++ 32 :: callT c ++ [10]) = ⟨#[99, 97, 108, 108, 32]⟩ ++ Str (Lib.itoa th) ++ ⟨#[32]⟩ ++ Str (callT c) ++ ⟨#[10]⟩ := by
    apply ByteArray.ext
    simp [Str, wCall, ByteArray.data_append]
  obtain ⟨A, hA⟩ : ∃ A, Str (Lib.itoa th) = A := ⟨_, rfl⟩
  obtain ⟨C, hC⟩ : ∃ A, Str (callT c) = A := ⟨_, rfl⟩
  rw [hA] at CT L1 hcat
  rw [hC] at L3 hcat
  simp only [hC] at CC CP
  have HG := Lib.hid (And.intro B0.1 (And.intro B0.2.1 (And.intro B0.2.2 (And.intro hR (And.intro hb hcat)))))
  have HCT := Lib.hid CT
  have HCC := Lib.hid CC
  have HCP := Lib.hid CP
  clear hR hb CT CC CP he hA hC ho hcat B0
  go_enter Tryd.func21, Tryd.ntmps21
  go_wp2_with fail
  obtain ⟨g1, h1⟩ : ∃ g, w.heap.size = g := ⟨_, rfl⟩
  obtain ⟨g5, h5⟩ : ∃ g, g1 + 1 = g := ⟨_, rfl⟩
  have n15 : g1 ≠ g5 := by omega
  have n51 : g5 ≠ g1 := by omega
  have gw : w.heap.size ≤ g5 := by omega
  refine (HCT.out _).mono ?_
  rintro e w1 ⟨rfl, f1⟩
  have b1 := HG.out.1.keep0 f1
  have b5 := HG.out.2.1.keep0 f1
  have f0 := HG.out.2.2.1.trans0 f1
  rw [h1] at b1 b5 ⊢
  rw [h5] at b5 ⊢
  clear f1 h1 h5
  have e0 := b1.cell 0
  have e1 := b1.cell 1
  have e2 := b1.cell 2
  have e3 := b1.cell 3
  have e4 := b1.cell 4
  have e5 := b1.cell 5
  have e6 := b1.cell 6
  have e7 := b1.cell 7
  have d0 := b5.cell 0
  have d1 := b5.cell 1
  have d2 := b5.cell 2
  have d3 := b5.cell 3
  have d4 := b5.cell 4
  have d5 := b5.cell 5
  have d6 := b5.cell 6
  have d7 := b5.cell 7
  have z1 := b5.fz 1
  have z2 := b5.fz 2
  have z3 := b5.fz 3
  have z4 := b5.fz 4
  have z5 := b5.fz 5
  have z6 := b5.fz 6
  go_wp2_with fail
  have fV : Fr [g5] w1 ((((((w1.setCell ⟨g5, 1, none⟩ (.int .i64 th)).setCell ⟨g5, 2, none⟩ (.int .i64 c.kind)).setCell ⟨g5, 3, none⟩ (.int .i64 c.deadline)).setCell ⟨g5, 4, none⟩ (.int .u64 c.draw)).setCell ⟨g5, 5, none⟩ (.int .u64 c.handle)).setCell ⟨g5, 6, none⟩ (.int .i64 c.count)) :=
    ((((((Fr.refl [g5] w1).setCell (p := ⟨g5, 1, none⟩) (.inl (by simp)) _).setCell (p := ⟨g5, 2, none⟩) (.inl (by simp)) _).setCell (p := ⟨g5, 3, none⟩) (.inl (by simp)) _).setCell (p := ⟨g5, 4, none⟩) (.inl (by simp)) _).setCell (p := ⟨g5, 5, none⟩) (.inl (by simp)) _).setCell (p := ⟨g5, 6, none⟩) (.inl (by simp)) _
  have b5' : BF ((((((w1.setCell ⟨g5, 1, none⟩ (.int .i64 th)).setCell ⟨g5, 2, none⟩ (.int .i64 c.kind)).setCell ⟨g5, 3, none⟩ (.int .i64 c.deadline)).setCell ⟨g5, 4, none⟩ (.int .u64 c.draw)).setCell ⟨g5, 5, none⟩ (.int .u64 c.handle)).setCell ⟨g5, 6, none⟩ (.int .i64 c.count)) g5 (⟨1, th, c, 0⟩ : EventA).cs :=
    (((((b5.set 1 (by simp) (.int .i64 th)).set 2 (by simp) (.int .i64 c.kind)).set 3 (by simp) (.int .i64 c.deadline)).set 4 (by simp) (.int .u64 c.draw)).set 5 (by simp) (.int .u64 c.handle)).set 6 (by simp) (.int .i64 c.count)
  have b1' := b1.keep fV (by simp; exact n15)
  have F := f0.trans fV (fun x hx => .inr (by simp at hx; subst hx; exact gw))
  clear e0 e1 e2 e3 e4 e5 e6 e7 d0 d1 d2 d3 d4 d5 d6 d7 z1 z2 z3 z4 z5 z6 b1 b5 fV f0 gw
  refine (HCC.out _).mono ?_
  rintro e w2 ⟨rfl, f2⟩
  have F2 := Lib.hid (And.intro (b1'.keep0 f2) (And.intro (b5'.keep0 f2) (F.trans0 f2)))
  clear b1' b5' F f2
  go_wp2_with fail
  refine (HCP.out _).mono ?_
  rintro e w3 ⟨rfl, f3⟩
  have HB0 := Lib.hid (And.intro (F2.out.1.keep0 f3) (And.intro (F2.out.2.1.keep0 f3) (F2.out.2.2.trans0 f3)))
  clear F2 f3
  cases o with
  | none =>
    have HN := Lib.hid (show lineV ⟨1, th, c, tk⟩ = none by rw [HG.out.2.2.2.1, if_neg (fun h => by have := HG.out.2.2.2.2.1.1 h.1; cases this)])
    simp only [Option.getD_none, Option.isSome_none, callAgg, noCall]
    go_wp2
    go_ret2
    exact ⟨lineR_no HN.out, HB0.out.2.2.trans0 ((Fr.refl _ _).alloc _)⟩
  | some c' =>
    have FA : Fr [] w3 (w3.alloc (.cells #[.int .i64 c'.kind, .int .i64 c'.deadline, .int .u64 c'.draw, .int .u64 c'.handle, .int .i64 c'.count] 24)) := (Fr.refl _ _).alloc _
    have HB := Lib.hid (And.intro (HB0.out.1.keep0 FA) (And.intro (HB0.out.2.1.keep0 FA) (HB0.out.2.2.trans0 FA)))
    have i2 := HB0.out.1.cell 2
    clear FA HB0
    have b1 := HB.out.1
    have e2 := b1.cell 2
    have e3 := b1.cell 3
    have e4 := b1.cell 4
    have e5 := b1.cell 5
    have e6 := b1.cell 6
    clear b1
    simp only [Option.getD_some, Option.isSome_some, callAgg]
    by_cases hcc : c' = c
    · subst hcc
      go_wp2_with fail
      clear e2 e3 e4 e5 e6 i2
      refine (HCC.out _).mono ?_
      rintro e w4 ⟨rfl, f4⟩
      have y1 : ¬ (9223372036854775807 < 5 + A.size) := by omega
      have y2 : ¬ (9223372036854775807 < 5 + A.size + 1) := by omega
      have y3 : ¬ (9223372036854775807 < 5 + A.size + 1 + C.size) := by omega
      have y4 : ¬ (9223372036854775807 < 5 + A.size + 1 + C.size + 1) := by omega
      have b1 := HB.out.1.keep0 f4
      obtain ⟨⟨d0, d1, d2, d3, d4, d5, d6, d7⟩, _⟩ := (HB.out.2.1.keep0 f4).ev
      dsimp only at d0 d1 d2 d3 d4 d5 d6 d7
      have e0 := b1.cell 0
      have e1 := b1.cell 1
      have e2 := b1.cell 2
      have e3 := b1.cell 3
      have e4 := b1.cell 4
      have e5 := b1.cell 5
      have e6 := b1.cell 6
      have e7 := b1.cell 7
      have H7 := Lib.hid (HB.out.2.2.trans0 f4)
      clear b1 f4
      by_cases htk : tk = 0
      · subst htk
        by_cases hth : 0 ≤ th
        · have HY := Lib.hid (show lineV ⟨1, th, c', 0⟩ = some (wCall ++ 32 :: Lib.itoa th ++ 32 :: callT c' ++ [10]) by rw [HG.out.2.2.2.1, if_pos ⟨HG.out.2.2.2.2.1.2 (by first | rfl | trivial), rfl, hth⟩])
          go_wp2
          go_ret2
          exact ⟨lineR_yes HY.out HG.out.2.2.2.2.2, H7.out⟩
        · have HN := Lib.hid (show lineV ⟨1, th, c', 0⟩ = none by rw [HG.out.2.2.2.1, if_neg (fun h => hth h.2.2)])
          go_wp2
          go_ret2
          exact ⟨lineR_no HN.out, H7.out⟩
      · have HN := Lib.hid (show lineV ⟨1, th, c', tk⟩ = none by rw [HG.out.2.2.2.1, if_neg (fun h => htk h.2.1)])
        have htk2 : ¬ (0 = tk) := fun h => htk h.symm
        go_wp2
        go_ret2
        exact ⟨lineR_no HN.out, H7.out⟩
    · have HN := Lib.hid (show lineV ⟨1, th, c, tk⟩ = none by rw [HG.out.2.2.2.1, if_neg (fun h => by have := HG.out.2.2.2.2.1.1 h.1; injection this with this; exact hcc this)])
      have hx := ne5 hcc
      clear hcc
      obtain ⟨k', d', x', h', n'⟩ := c'
      dsimp only at hx HB e2 e3 e4 e5 e6 ⊢
      rcases hx with h1 | ⟨rfl, h1⟩ | ⟨rfl, rfl, h1⟩ | ⟨rfl, rfl, rfl, h1⟩ | ⟨rfl, rfl, rfl, rfl, h1⟩
      all_goals
        go_wp2
        go_ret2
        exact ⟨lineR_no HN.out, HB.out.2.2⟩

set_option maxRecDepth 20000 in
theorem rline_else (k th tk : Int) (c : CallA) (ht : -9223372036854775808 ≤ th ∧ th ≤ 9223372036854775807) (h1 : k ≠ 1) (h2 : k ≠ 2) (h3 : k ≠ 3) (w : World) :
    Calls Tryd.prog 21 #[eventAgg ⟨k, th, c, tk⟩] w fun x w' => LineR ⟨k, th, c, tk⟩ x ∧ Fr [] w w' := by
  unfold eventAgg
  have hR : lineV ⟨k, th, c, tk⟩ = none := by unfold lineV; simp only; rw [if_neg h1, if_neg h2, if_neg h3]
  have CT := fun W => number_any th ht.1 ht.2 W
  simp only [Str.lit] at CT
  have L1 : (Str (Lib.itoa th)).size ≤ 21 := itoa_len th ht.1 ht.2
  have B0 := bf2 w #[.int .i64 k, .int .i64 th, .int .i64 c.kind, .int .i64 c.deadline, .int .u64 c.draw, .int .u64 c.handle, .int .i64 c.count, .int .i64 tk] #[.int .i64 k, .int .i64 0, .int .i64 0, .int .i64 0, .int .u64 0, .int .u64 0, .int .i64 0, .int .i64 0] 49 49
  have HG := Lib.hid (And.intro hR B0)
  have HCT := Lib.hid CT
  clear hR B0 CT
  go_enter Tryd.func21, Tryd.ntmps21
  go_wp2_with fail
  obtain ⟨g1, hg1⟩ : ∃ g, w.heap.size = g := ⟨_, rfl⟩
  refine (HCT.out _).mono ?_
  rintro e w1 ⟨rfl, f1⟩
  have b1 := HG.out.2.1.keep0 f1
  have f0 := Lib.hid (HG.out.2.2.2.trans0 f1)
  rw [hg1] at b1 ⊢
  have e0 := b1.cell 0
  clear b1 f1 hg1
  go_wp2
  go_ret2
  exact ⟨lineR_no HG.out.1, f0.out⟩
theorem rline_any (e : EventA) (he : e.ok) (w : World) :
    Calls Tryd.prog 21 #[eventAgg e] w fun x w' => LineR e x ∧ Fr [] w w' := by
  obtain ⟨k, th, c, tk⟩ := e
  by_cases h1 : k = 1
  · subst h1; exact rline_call th tk c he w
  by_cases h2 : k = 2
  · subst h2; exact rline_step th tk c he w
  by_cases h3 : k = 3
  · subst h3; exact rline_tick th tk c he w
  exact rline_else k th tk c he.thread h1 h2 h3 w
end Go.Proofs.YtkdmodanfcpcfaaDoor
