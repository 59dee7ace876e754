/- DERIVED. Chapter 8: Right, of the program. -/
import Derived.Test.YtkdmodanfcpcfaaDoorRightB
namespace Go.Proofs.YtkdmodanfcpcfaaDoor
open Go.RowKit

theorem ret_e {a b : Int} (h : a = b) : Ending.returned (.int .i64 a) = .returned (.int .i64 b) := by rw [h]
set_option maxRecDepth 20000 in
set_option maxHeartbeats 1000000 in
theorem right_any (t s l : Int) (g : Nat) (w : World) : Calls Tryd.prog 22 #[.agg #[.int .i64 t, .int .i64 s, .int .i64 l, .int .u64 g]] w fun e w' => e = .returned (.int .i64 (if PlanA.right ⟨t, s, l, g⟩ then 0 else 1)) ∧ Fr [] w w' := by
  obtain ⟨r, hr⟩ : ∃ r : Int, (if PlanA.right ⟨t, s, l, g⟩ then 0 else 1) = r := ⟨_, rfl⟩
  rw [hr]
  have HR := Lib.hid hr
  clear hr
  have F0 : Fr [] w (w.alloc (.cells #[.int .i64 t, .int .i64 s, .int .i64 l, .int .u64 g] 38)) := (Fr.refl _ _).alloc _
  have B0 := Box.new w #[.int .i64 t, .int .i64 s, .int .i64 l, .int .u64 g] 38
  have H0 := Lib.hid (And.intro F0 B0)
  clear F0 B0
  go_enter Tryd.func22, Tryd.ntmps22
  go_upto_region 1 with (fail)
  obtain ⟨b, hb⟩ : ∃ b, w.heap.size = b := ⟨_, rfl⟩
  obtain ⟨u, hu⟩ : ∃ u, w.alloc (.cells #[.int .i64 t, .int .i64 s, .int .i64 l, .int .u64 g] 38) = u := ⟨_, rfl⟩
  rw [hb, hu] at H0
  rw [hb, hu]
  clear hb hu
  have k0 : u.cell? ⟨b, 0, none⟩ = some (.int .i64 t) := H0.out.2.cell 0
  go_wp2_with fail
  refine (within_any t 8 _).mono ?_
  rintro e w1 ⟨rfl, f1⟩
  have B1 := H0.out.2.keep0 f1
  have k1 : w1.cell? ⟨b, 1, none⟩ = some (.int .i64 s) := B1.cell 1
  have H1 := Lib.hid (And.intro (H0.out.1.trans0 f1) B1)
  clear f1 B1 k0
  by_cases c1 : 1 ≤ t ∧ t ≤ 8
  · have e1 : decide (1 ≤ t ∧ t ≤ 8) = true := by simpa using c1
    rw [e1]
    go_wp2_with fail
    refine (within_any s 64 _).mono ?_
    rintro e w2 ⟨rfl, f2⟩
    have B2 := H1.out.2.keep0 f2
    have k2 : w2.cell? ⟨b, 2, none⟩ = some (.int .i64 l) := B2.cell 2
    have H2 := Lib.hid (And.intro (H1.out.1.trans0 f2) B2)
    clear f2 B2 k1
    by_cases c2 : 1 ≤ s ∧ s ≤ 64
    · have e2 : decide (1 ≤ s ∧ s ≤ 64) = true := by simpa using c2
      rw [e2]
      go_wp2_with fail
      refine (within_any l 8 _).mono ?_
      rintro e w3 ⟨rfl, f3⟩
      have B3 := H2.out.2.keep0 f3
      have k3 : w3.cell? ⟨b, 3, none⟩ = some (.int .u64 g) := B3.cell 3
      have H3 := Lib.hid (H2.out.1.trans0 f3)
      clear f3 B3 k2
      by_cases c3 : 1 ≤ l ∧ l ≤ 8
      · have e3 : decide (1 ≤ l ∧ l ≤ 8) = true := by simpa using c3
        rw [e3]
        by_cases c4 : g ≤ 4294967295
        · go_wp2
          go_ret
          exact ⟨ret_e (by rw [← HR.out]; simp [PlanA.right, c1, c2, c3, c4]), H3.out⟩
        · go_wp2
          go_ret
          exact ⟨ret_e (by rw [← HR.out]; simp [PlanA.right, c4]), H3.out⟩
      · have e3 : decide (1 ≤ l ∧ l ≤ 8) = false := by simpa using c3
        rw [e3]
        go_wp2
        go_ret
        exact ⟨ret_e (by rw [← HR.out]; simp [PlanA.right, e3]), H3.out⟩
    · have e2 : decide (1 ≤ s ∧ s ≤ 64) = false := by simpa using c2
      rw [e2]
      go_wp2
      go_ret
      exact ⟨ret_e (by rw [← HR.out]; simp [PlanA.right, e2]), H2.out.1⟩
  · have e1 : decide (1 ≤ t ∧ t ≤ 8) = false := by simpa using c1
    rw [e1]
    go_wp2
    go_ret
    exact ⟨ret_e (by rw [← HR.out]; simp [PlanA.right, e1]), H1.out.1⟩
end Go.Proofs.YtkdmodanfcpcfaaDoor
