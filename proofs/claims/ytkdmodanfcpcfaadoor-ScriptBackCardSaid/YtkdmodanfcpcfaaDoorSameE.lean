/- DERIVED. Chapter 42: Same, of the reference: two lists of events. -/
import Derived.Test.YtkdmodanfcpcfaaDoorScriptV
import Derived.Deep.QuietTactic
import Derived.BigQuiet
namespace Go.Proofs.YtkdmodanfcpcfaaDoor
open Go.RowKit

theorem cellE {w : World} {v : Value} {xs : List EventA} {b off : Nat} (h : RdAt encE w v xs b off) {k : Nat} {x : EventA} (hx : xs[k]? = some x) :
    w.cell? ⟨b, off + k * 8, none⟩ = some (.int .i64 x.kind) ∧ w.cell? ⟨b, off + k * 8 + 1, none⟩ = some (.int .i64 x.thread) ∧ w.cell? ⟨b, off + k * 8 + 2, none⟩ = some (.int .i64 x.call.kind) ∧ w.cell? ⟨b, off + k * 8 + 3, none⟩ = some (.int .i64 x.call.deadline) ∧
    w.cell? ⟨b, off + k * 8 + 4, none⟩ = some (.int .u64 x.call.draw) ∧ w.cell? ⟨b, off + k * 8 + 5, none⟩ = some (.int .u64 x.call.handle) ∧ w.cell? ⟨b, off + k * 8 + 6, none⟩ = some (.int .i64 x.call.count) ∧ w.cell? ⟨b, off + k * 8 + 7, none⟩ = some (.int .i64 x.ticks) :=
  ⟨h.cell k x hx 0 (by decide), h.cell k x hx 1 (by decide), h.cell k x hx 2 (by decide), h.cell k x hx 3 (by decide), h.cell k x hx 4 (by decide), h.cell k x hx 5 (by decide), h.cell k x hx 6 (by decide), h.cell k x hx 7 (by decide)⟩

set_option maxRecDepth 20000 in
set_option maxHeartbeats 2000000 in
/-- the same list, wherever it lies -/
theorem same_any (v u : Value) (l : List EventA) (w : World) (hv : Rd encE w v l) (hu : Rd encE w u l) :
    Calls Tryd.prog 17 #[v, u] w fun e w' => e = .returned (.bool true) ∧ Fr [] w w' := by
  have hlen := hv.len_le
  obtain ⟨b, o, hv⟩ := hv
  obtain ⟨b', o', hu⟩ := hu
  have l1 := lenE hv
  have l2 := lenE hu
  have HH := Lib.hid (And.intro hv hu)
  clear hv hu
  go_enter Tryd.func17, Tryd.ntmps17
  go_wp2
  go_loopw [5] (fun i wr => ∃ k : Nat, k ≤ l.length ∧ i = .int .i64 k ∧ Fr [] w wr) (fun i _ => l.length - (intOf i).toNat)
  case atStart => exact ⟨0, by omega, rfl, Fr.refl _ _⟩
  case round =>
    obtain ⟨k, hk, rfl, hF⟩ := hrel
    by_cases hlt : k < l.length
    · obtain ⟨x, hx⟩ := at_of l hlt
      have i1 := idxE HH.out.1 hlt
      have i2 := idxE HH.out.2 hlt
      obtain ⟨a0, a1, a2, a3, a4, a5, a6, a7⟩ := cellE (HH.out.1.keep0 hF) hx
      obtain ⟨c0, c1, c2, c3, c4, c5, c6, c7⟩ := cellE (HH.out.2.keep0 hF) hx
      go_wp2_with fail
      go_quiet (fail)
      go_wp2
      go_roundw
      case rel => exact ⟨k + 1, by omega, by go_num, hF.drewN _⟩
      case measure => simp [intOf]; omega
    · have hkl : k = l.length := by omega
      subst hkl
      go_wp2
      go_ret
      exact ⟨rfl, hF⟩
end Go.Proofs.YtkdmodanfcpcfaaDoor
