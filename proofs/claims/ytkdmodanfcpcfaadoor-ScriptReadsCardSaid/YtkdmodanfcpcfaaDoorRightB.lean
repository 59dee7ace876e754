/- DERIVED. Chapter 8: Right, of the reference. -/
import Derived.Test.YtkdmodanfcpcfaaDoorRight
namespace Go.Proofs.YtkdmodanfcpcfaaDoor
open Go.RowKit

set_option maxRecDepth 20000 in
set_option maxHeartbeats 1000000 in
theorem refRight_any (t s l : Int) (g : Nat) (w : World) : Calls Tryd.prog 42 #[.agg #[.int .i64 t, .int .i64 s, .int .i64 l, .int .u64 g]] w fun e w' => e = .returned (.bool (PlanA.right ⟨t, s, l, g⟩)) ∧ Fr [] w w' := by
  obtain ⟨b, hb⟩ : ∃ b, PlanA.right ⟨t, s, l, g⟩ = b := ⟨_, rfl⟩
  rw [hb]
  have HB := Lib.hid hb
  clear hb
  go_enter Tryd.func42, Tryd.ntmps42
  go_wp2
  all_goals go_ret
  all_goals refine ⟨ret_b ?_, (Fr.refl _ _).alloc _⟩
  all_goals rw [← HB.out]
  all_goals unfold PlanA.right
  all_goals rw [Bool.eq_iff_iff]
  all_goals simp
  all_goals omega
end Go.Proofs.YtkdmodanfcpcfaaDoor
