/- DERIVED. Chapter 46: from: the search with its memo. -/
import Derived.Test.YtlpefbpamgeikaaHuntR
import Derived.WideKeyArr2
import Derived.DeepKeys4
namespace Go.Proofs.Ytlpefbpamgeikaa
open Go.RowKit Go.WideMaps
open Go.ChangeMaps (setBlock)

theorem arr8 : ArrKey Try.prog 72 5 8 := ⟨Try.underlying72, by kernel_rfl, by kernel_rfl, by kernel_rfl⟩
theorem typesSz : ∃ m, Try.prog.types.size = m + 1 := ⟨Try.prog.types.size - 1, by
  have : 0 < Try.prog.types.size := of_decide_eq_true (by kernel_rfl)
  omega⟩
theorem eight {c : List Nat} (h : CntOk c) : ∃ c0 c1 c2 c3 c4 c5 c6 c7, c = [c0, c1, c2, c3, c4, c5, c6, c7] ∧ c0 ≤ 8 ∧ c1 ≤ 8 ∧ c2 ≤ 8 ∧ c3 ≤ 8 ∧ c4 ≤ 8 ∧ c5 ≤ 8 ∧ c6 ≤ 8 ∧ c7 ≤ 8 := by
  obtain ⟨h1, h2⟩ := h
  match c, h1 with
  | [c0, c1, c2, c3, c4, c5, c6, c7], _ => exact ⟨_, _, _, _, _, _, _, _, rfl, by simpa using h2⟩
theorem cv8 (c0 c1 c2 c3 c4 c5 c6 c7 : Nat) : cv [c0, c1, c2, c3, c4, c5, c6, c7] = #[.int .u8 c0, .int .u8 c1, .int .u8 c2, .int .u8 c3, .int .u8 c4, .int .u8 c5, .int .u8 c6, .int .u8 c7] := rfl
theorem wf8 {n : Nat} (h : n ≤ 8) : (Lit.int .u8 n).wf = true := by
  have e1 : IntKind.min .u8 = 0 := by kernel_rfl
  have e2 : IntKind.max .u8 = 255 := by kernel_rfl
  simp only [Lit.wf, e1, e2, Bool.and_eq_true, decide_eq_true_eq]; omega
theorem keyOf8 {c : List Nat} (h : CntOk c) : ∃ l, keyOf Try.prog 72 (kvC c) = some l := by
  obtain ⟨c0, c1, c2, c3, c4, c5, c6, c7, rfl, h0, h1, h2, h3, h4, h5, h6, h7⟩ := eight h
  have hkt := arr8.keyType typesSz
  obtain ⟨m, hm⟩ := typesSz
  have he : Try.prog.underlying 5 = some (.int .u8) := Try.underlying5
  refine ⟨.string (keyBytes [.int .u8 c0, .int .u8 c1, .int .u8 c2, .int .u8 c3, .int .u8 c4, .int .u8 c5, .int .u8 c6, .int .u8 c7]), ?_⟩
  unfold keyOf kvC
  rw [cv8]
  simp only [arr8.hu]
  rw [if_pos (by simp [hkt, Value.formed, arr8.hu, arr8.size]), hm]
  unfold Program.keyLits
  simp only [arr8.hu, Value.cells]
  rw [if_pos (by rw [arr8.size]; rfl), show List.range 8 = [0, 1, 2, 3, 4, 5, 6, 7] from rfl]
  simp only [List.mapM_cons, List.mapM_nil]
  simp [arr8.one, Program.keyLits, he, wf8 h0, wf8 h1, wf8 h2, wf8 h3, wf8 h4, wf8 h5, wf8 h6, wf8 h7]
def evI (n : Int) : Value := .int .i64 n
theorem keyC : KeyOk Try.prog 72 kvC CntOk := ⟨Maps.Keyed.of_law arr8.law, fun _ h => keyOf8 h, fun a b h => by
  unfold kvC cv at h
  injection h with h
  have h := congrArg Array.toList h
  simp only [List.toList_toArray] at h
  refine (List.map_inj_right (f := fun n : Nat => Value.int .u8 n) ?_).1 h
  intro x y hxy
  injection hxy with _ hxy
  exact Int.ofNat.inj hxy⟩
theorem zeroI (W : World) : (zeroValue 3).run Try.prog W = .ok (evI 0) W := by kernel_rfl
end Go.Proofs.Ytlpefbpamgeikaa
