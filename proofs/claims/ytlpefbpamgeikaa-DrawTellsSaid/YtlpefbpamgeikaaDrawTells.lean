/- 'DrawTells' of law 5 returns true for every input: heights, rows of heights and counts of heights are the document's. No condition. -/
import Derived.Test.YtlpefbpamgeikaaDrawCount
import Derived.Test.YtlpefbpamgeikaaOpen
import Derived.Below
namespace Go.Proofs.Ytlpefbpamgeikaa.drawTells
open Go.ChangeShapes Go.WideShapes Go.ChangeAt Go.RowKit
open Go.ChangeMaps (open_string shut_string)
set_option linter.unusedVariables false

theorem own : ownKnob Try.prog.godebug = none := by kernel_rfl
theorem laidOut : laidOutB Try.prog = true := by kernel_rfl

set_option maxHeartbeats 1000000 in
theorem core (v : Value) (l : List Int) (n lv : Int) (w : World) (hl : Rd encW w v l) (hok : okW l) (hlen : l.length ≤ 500) (h0 : 0 ≤ n) (h1 : n ≤ 18446744073709551615) (hlv : lv ≤ 9223372036854775807) :
    Calls Try.prog 4 #[v, .int .u64 n, .int .i64 lv] w fun e w' => e = .returned (.bool true) ∧ Fr [] w w' := by
  obtain ⟨m, hm⟩ : ∃ m : Nat, (m : Int) = min (max lv 0) 64 := ⟨(min (max lv 0) 64).toNat, by omega⟩
  have HM := Lib.hid hm
  clear hm
  obtain ⟨b, o, hla⟩ := hl
  have l1 := lenW hla
  have hl : Rd encW w v l := ⟨b, o, hla⟩
  go_enter Try.func4, Try.ntmps4
  go_wp2_with fail
  refine (height_any n lv w h0 h1 hlv).mono ?_
  rintro e w' ⟨rfl, rfl⟩
  go_wp2_with fail
  refine (refHeight_any n lv w h0 h1 hlv).mono ?_
  rintro e w' ⟨rfl, rfl⟩
  generalize ht n lv = h
  go_wp2_with fail
  refine (row_any v l lv w hl hok hlen hlv).mono ?_
  rintro e w1 ⟨v1, rfl, o1, f1⟩
  go_wp2_with fail
  refine (refRow_any v l lv w1 (hl.keep0 f1) hok hlen hlv).mono ?_
  rintro e w2 ⟨v2, rfl, o2, f2⟩
  go_wp2_with fail
  obtain ⟨g1, r1⟩ := (o1.keep0 f2).rd
  obtain ⟨g2, r2⟩ := o2.rd
  refine (same_any v1 v2 _ _ w2 ⟨_, _, r1⟩ ⟨_, _, r2⟩).mono ?_
  rintro e w3 ⟨rfl, f3⟩
  rw [show decide ((l.map fun n => ht n lv) = (l.map fun n => ht n lv)) = true by simp]
  have F3 := (f1.trans0 f2).trans0 f3
  clear o1 o2 r1 r2
  go_wp2_with fail
  refine (count_any v l lv m w3 HM.out (hl.keep0 F3) hok hlen hlv).mono ?_
  rintro e w4 ⟨v4, rfl, o4, f4⟩
  go_wp2_with fail
  refine (refCount_any v l lv m w4 HM.out (hl.keep0 (F3.trans0 f4)) hok hlen).mono ?_
  rintro e w5 ⟨v5, rfl, o5, f5⟩
  go_wp2_with fail
  obtain ⟨g4, r4⟩ := (o4.keep0 f5).rd
  obtain ⟨g5, r5⟩ := o5.rd
  refine (same_any v4 v5 _ _ w5 ⟨_, _, r4⟩ ⟨_, _, r5⟩).mono ?_
  rintro e w6 ⟨rfl, f6⟩
  rw [show decide (cnts l m = cnts l m) = true by simp]
  have F6 := ((F3.trans0 f4).trans0 f5).trans0 f6
  clear o4 o5 r4 r5
  go_wp2_with fail
  refine (awake05 w6).mono ?_
  rintro e w' ⟨rfl, rfl⟩
  go_wp2
  go_ret
  exact ⟨rfl, F6⟩

set_option maxHeartbeats 400000 in
theorem long (v : Value) (l : List Int) (n lv : Int) (w : World) (hl : Rd encW w v l) (hlen : 500 < l.length) :
    Calls Try.prog 4 #[v, .int .u64 n, .int .i64 lv] w fun e w' => e = .returned (.bool true) ∧ Fr [] w w' := by
  obtain ⟨b, o, hla⟩ := hl
  have l1 := lenW hla
  go_enter Try.func4, Try.ntmps4
  go_wp2_with fail
  refine (awake05 w).mono ?_
  rintro e w' ⟨rfl, rfl⟩
  go_wp2
  go_ret
  exact ⟨rfl, Fr.refl _ _⟩

theorem walk (v : Value) (l : List Int) (a1 a2 : Int) (w : World) (hl : Rd encW w v l) (hok : okW l) (w1 : (Lit.int .u64 a1).wf = true) (w2 : (Lit.int .i64 a2).wf = true) :
    Calls Try.prog 4 #[v, .int .u64 a1, .int .i64 a2] w fun e w' => e = .returned (.bool true) ∧ Below w.heap.size w w' := by
  have b1 := bounds_u64 w1
  have b2 := bounds_i64 w2
  by_cases hlen : l.length ≤ 500
  · refine (core v l a1 a2 w hl hok hlen b1.1 b1.2 b2.2).mono ?_
    rintro e w' ⟨rfl, hf⟩
    exact ⟨rfl, hf.below⟩
  · refine (long v l a1 a2 w hl (by omega)).mono ?_
    rintro e w' ⟨rfl, hf⟩
    exact ⟨rfl, hf.below⟩

/-! ### THE ROW's STEP: WRITTEN OUT: LEAVE IT -/
set_option maxRecDepth 100000 in
theorem lifted (os : Os) (started : os.Started) (H : Type) (enc : TypeId × Value → H) :
    ReturnsInHanded {} Try.checked os 4 .any (Rows.drawTellsSpec.pre6 enc Try.prog Try.f4 Rows.drawTellsRow.domain false) (Rows.drawTellsSpec.post enc Try.prog Try.f4 false true false false) := by
  refine returnsInHanded_of_change (C := Try.checked) own started (by kernel_rfl) Try.func4
    (ChangeSpec.witness6 (enc := enc) (C := Try.checked) false ⟨#[], #[.slice none 0 0, .int .u64 0, .int .i64 0], []⟩ 8 (by kernel_rfl) (by kernel_rfl) (by kernel_rfl) (by kernel_rfl)) ?_
  intro W base args ds gs before hval0 hW hcnd _
  have hval : ∀ (j : Nat) t v, Try.f4.params[j]? = some t → args[j]? = some v → Value.okWide Try.prog W .any base t v := hval0
  have hW' := hW
  obtain ⟨p, q, hA0, hV, rfl, hfz, hnd⟩ := hW
  have hA : DataW.TrodAll enc Try.prog W 0 (fun _ => true) true Try.f4.params.toList args.toList ds p := hA0
  rw [Try.params4] at hA hval
  obtain ⟨v0, vs0, d0, ds0, p0, q0, hargs, rfl, rfl, h0, r0⟩ := trodAll_cons hA
  obtain ⟨v1, vs1, d1, ds1, p1, q1, rfl, rfl, rfl, h1, r1⟩ := trodAll_cons r0
  obtain ⟨v2, vs2, d2, ds2, p2, q2, rfl, rfl, rfl, h2, r2⟩ := trodAll_cons r1
  obtain ⟨rfl, rfl, rfl⟩ := trodAll_nil r2
  obtain rfl : args = #[v0, v1, v2] := by cases args; simp_all
  obtain ⟨rfl, rfl⟩ := trodVars_none hV
  obtain ⟨a0, len0, cap0, rfl⟩ := okWide_slice Try.underlying26 (hval 0 26 v0 rfl rfl)
  have k0 := h0
  have lt0 : ∀ x ∈ p0, x.block < W.heap.size := by obtain ⟨m, hm⟩ := k0; exact DataW.trod_lt m _ _ _ hm
  obtain ⟨z0, hrd, hok⟩ : ∃ xs, Rd encW W (.slice a0 len0 cap0) xs ∧ okW xs := by
    obtain ⟨fuel, hf⟩ := h0
    obtain ⟨v, xs, hcs, hrd, hok⟩ := Opens.slice (E := encW) (ok := okInt .u64) (opens_u64 Try.underlying22) Try.underlying26 (by kernel_rfl) hf
    simp [Value.cells] at hcs
    subst hcs
    exact ⟨xs, hrd, fun x hx => bounds_u64 (hok x hx)⟩
  obtain ⟨a1, rfl, rfl, rfl, w1⟩ := open_int Try.underlying22 (hval 1 22 v1 rfl rfl) h1
  obtain ⟨a2, rfl, rfl, rfl, w2⟩ := open_int Try.underlying3 (hval 2 3 v2 rfl rfl) h2
  clear hA0 hval0
  refine (walk _ z0 a1 a2 W hrd hok w1 w2).mono fun e W' ⟨he, bel⟩ => ?_
  subst he
  exact ⟨_, rfl, _, _, _, [], _, [], hW', trodAll_mk1 (shut_bool Try.underlying4 _), (trodAll_cons_mk (Below.trod laidOut (by kernel_rfl) (of_decide_eq_true (by kernel_rfl)) k0 bel lt0) (trodAll_cons_mk (shut_int Try.underlying22 w1) (trodAll_cons_mk (shut_int Try.underlying3 w2) trodAll_mk0))), rfl, bel.frame _, fun h => by cases h⟩

theorem over : Rows.drawTellsRow.holds Try.pinned (OpenSpec.ofChange Rows.drawTellsSpec) :=
  OpenClaim.holds_of_wide 4 Try.f4 rfl rfl rfl rfl rfl rfl rfl ⟨rfl, rfl, rfl, rfl, rfl⟩ rfl rfl rfl rfl rfl (by kernel_rfl) Try.func4 (by kernel_rfl)
    (of_decide_eq_true (by kernel_rfl)) (by unfold Func.isWrapper; first | (rw [if_pos (by decide +kernel)]; kernel_rfl) | (rw [if_neg (by decide +kernel)]; exact ⟨rfl, rfl⟩))
    (fun os started H enc _ => lifted os started H enc)

/-- ████ THE STATEMENT ████ -/
theorem proved : Rows.DrawTellsSaid := over
#print axioms proved
end Go.Proofs.Ytlpefbpamgeikaa.drawTells
