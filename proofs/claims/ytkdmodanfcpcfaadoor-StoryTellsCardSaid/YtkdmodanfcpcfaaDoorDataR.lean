/- DERIVED. The arguments' types of package api, opened: whatever reads as an api.Due, api.Record .. lies as encDue, recC say. -/
import Derived.Test.YtkdmodanfcpcfaaDoorStory
import Derived.Test.YtkdmodanfcpcfaaDoorOpen
namespace Go.Proofs.YtkdmodanfcpcfaaDoor
open Go.RowKit Go.ChangeShapes Go.WideShapes

theorem fields_of {H : Type} {enc : TypeId × Value → H} {P : Program} {W : World} {fuel : Nat} {t : TypeId} {cs : List Value} {x : DataW H × List MemPlace} {fs : Array Field} (ht : P.underlying t = some (.struct fs))
    (h : DataW.trod enc P W 0 (fun _ => true) true fuel t cs = some x) :
    cs.length = P.cellsOf t ∧ ∃ n, ∀ f ∈ fs.toList, ∃ y, DataW.trod enc P W 0 (fun _ => true) true n f.type ((cs.drop f.offset).take (P.cellsOf f.type)) = some y := by
  obtain ⟨xs, n, _, _, hl, hx, hf⟩ := DataW.trod_struct ht h
  refine ⟨hl, n, fun f hm => ?_⟩
  obtain ⟨i, hi⟩ := List.mem_iff_getElem?.1 hm
  rw [Array.getElem?_toList] at hi
  have hlt : i < xs.length := by rw [hx]; exact (Array.getElem?_eq_some_iff.1 hi).1
  exact ⟨xs[i], by rw [hf i f hi, List.getElem?_eq_getElem hlt]⟩
theorem slice_cell {H : Type} {enc : TypeId × Value → H} {P : Program} {W : World} {t e : TypeId} (ht : P.underlying t = some (.slice e)) {fuel : Nat} {c : Value} {x : DataW H × List MemPlace} (h : DataW.trod enc P W 0 (fun _ => true) true fuel t [c] = some x) : ∃ a n k, c = .slice a n k := by
  rcases Deep.open_slice ht h with ⟨e1, _⟩ | ⟨a, len, cap, m, n, D, Pl, e1, _⟩
  · exact ⟨none, 0, 0, by simpa using e1⟩
  · exact ⟨some a, len, cap, by simpa using e1⟩

theorem c3 : Tryd.prog.cellsOf 3 = 1 := by kernel_rfl
theorem c22 : Tryd.prog.cellsOf 22 = 1 := by kernel_rfl
theorem c4 : Tryd.prog.cellsOf 4 = 1 := by kernel_rfl
theorem c25 : Tryd.prog.cellsOf 25 = 1 := by kernel_rfl
theorem c88 : Tryd.prog.cellsOf 88 = 3 := by kernel_rfl
theorem c26 : Tryd.prog.cellsOf 26 = 1 := by kernel_rfl
theorem c29 : Tryd.prog.cellsOf 29 = 1 := by kernel_rfl
theorem c24 : Tryd.prog.cellsOf 24 = 5 := by kernel_rfl
theorem c28 : Tryd.prog.cellsOf 28 = 4 := by kernel_rfl
theorem c31 : Tryd.prog.cellsOf 31 = 14 := by kernel_rfl

section
variable {H : Type} {enc : TypeId × Value → H} {W : World} {n : Nat} {c : Value} {y : DataW H × List MemPlace}
theorem oi (h : DataW.trod enc Tryd.prog W 0 (fun _ => true) true n 3 [c] = some y) : ∃ a : Int, c = .int .i64 a ∧ -9223372036854775808 ≤ a ∧ a ≤ 9223372036854775807 := by
  obtain ⟨a, e, _, ha⟩ := DataW.trod_int Tryd.underlying3 h
  have := bounds_i64 ha
  exact ⟨a, by simpa using e, by omega, by omega⟩
theorem ou (h : DataW.trod enc Tryd.prog W 0 (fun _ => true) true n 22 [c] = some y) : ∃ a : Nat, c = .int .u64 a ∧ a < 18446744073709551616 := by
  obtain ⟨a, e, _, ha⟩ := DataW.trod_int Tryd.underlying22 h
  have := bounds_u64 ha
  obtain ⟨k, rfl⟩ := Int.eq_ofNat_of_zero_le (show 0 ≤ a by omega)
  exact ⟨k, by simpa using e, by omega⟩
theorem oe (h : DataW.trod enc Tryd.prog W 0 (fun _ => true) true n 25 [c] = some y) : ∃ a : Int, c = .int .i64 a ∧ -9223372036854775808 ≤ a ∧ a ≤ 9223372036854775807 := by
  obtain ⟨a, e, _, ha⟩ := DataW.trod_int Tryd.underlying25 h
  have := bounds_i64 ha
  exact ⟨a, by simpa using e, by omega, by omega⟩
theorem ob (h : DataW.trod enc Tryd.prog W 0 (fun _ => true) true n 4 [c] = some y) : ∃ a : Bool, c = .bool a := by
  obtain ⟨a, e, _⟩ := DataW.trod_bool Tryd.underlying4 h; exact ⟨a, by simpa using e⟩
end

set_option maxRecDepth 20000 in
theorem opens_due (W : World) : Opens Tryd.prog W 88 encDue DueR.ok := by
  intro H enc fuel cs x h
  obtain ⟨hl, n, hf⟩ := fields_of Tryd.underlying88 h
  rw [c88] at hl
  match cs, hl with
  | [a0, a1, a2], _ =>
    simp only [List.forall_mem_cons, c3, c22, List.drop_zero, List.drop_succ_cons, List.take_succ_cons, List.take_zero] at hf
    obtain ⟨⟨_, h0⟩, ⟨_, h1⟩, ⟨_, h2⟩, _⟩ := hf
    obtain ⟨b0, rfl, k0⟩ := ou h0
    obtain ⟨b1, rfl, k1⟩ := oi h1
    obtain ⟨b2, rfl, k2⟩ := ou h2
    exact ⟨⟨b0, b1, b2⟩, rfl, ⟨k0, k1.1, k1.2⟩⟩

set_option maxRecDepth 20000 in
theorem opens_call {H : Type} {enc : TypeId × Value → H} {W : World} {fuel : Nat} {cs : List Value} {x : DataW H × List MemPlace} (h : DataW.trod enc Tryd.prog W 0 (fun _ => true) true fuel 24 cs = some x) :
    ∃ c : CallA, cs = [.int .i64 c.kind, .int .i64 c.deadline, .int .u64 c.draw, .int .u64 c.handle, .int .i64 c.count] ∧ c.ok := by
  obtain ⟨hl, n, hf⟩ := fields_of Tryd.underlying24 h
  rw [c24] at hl
  match cs, hl with
  | [a0, a1, a2, a3, a4], _ =>
    simp only [List.forall_mem_cons, c3, c22, List.drop_zero, List.drop_succ_cons, List.take_succ_cons, List.take_zero] at hf
    obtain ⟨⟨_, h0⟩, ⟨_, h1⟩, ⟨_, h2⟩, ⟨_, h3⟩, ⟨_, h4⟩, _⟩ := hf
    obtain ⟨b0, rfl, k0⟩ := oi h0
    obtain ⟨b1, rfl, k1⟩ := oi h1
    obtain ⟨b2, rfl, k2⟩ := ou h2
    obtain ⟨b3, rfl, k3⟩ := ou h3
    obtain ⟨b4, rfl, k4⟩ := oi h4
    exact ⟨⟨b0, b1, b2, b3, b4⟩, rfl, ⟨k0, k1, k2, k3, k4⟩⟩

set_option maxRecDepth 20000 in
theorem opens_rec {H : Type} {enc : TypeId × Value → H} {W : World} {fuel : Nat} {cs : List Value} {x : DataW H × List MemPlace} (h : DataW.trod enc Tryd.prog W 0 (fun _ => true) true fuel 31 cs = some x) :
    ∃ (r : RecA) (l : List DueR), cs = [.int .i64 r.thread, .int .i64 r.call.kind, .int .i64 r.call.deadline, .int .u64 r.call.draw, .int .u64 r.call.handle, .int .i64 r.call.count, .int .i64 r.beg, .int .i64 r.fin, .bool r.done, .int .i64 r.ans.err, .bool r.ans.ok, .int .u64 r.ans.handle, .slice r.ans.ba r.ans.bn r.ans.bc, .slice r.aa r.an r.ac] ∧
      r.good ∧ Rd encDue W (.slice r.ans.ba r.ans.bn r.ans.bc) l ∧ ∀ d ∈ l, d.ok := by
  obtain ⟨hl, n, hf⟩ := fields_of Tryd.underlying31 h
  rw [c31] at hl
  match cs, hl with
  | [a0, a1, a2, a3, a4, a5, a6, a7, a8, a9, a10, a11, a12, a13], _ =>
    simp only [List.forall_mem_cons, c3, c4, c24, c28, c29, List.drop_zero, List.drop_succ_cons, List.take_succ_cons, List.take_zero] at hf
    obtain ⟨⟨_, h0⟩, ⟨_, h1⟩, ⟨_, h2⟩, ⟨_, h3⟩, ⟨_, h4⟩, ⟨_, h5⟩, ⟨_, h6⟩, _⟩ := hf
    obtain ⟨call, hcall, kc⟩ := opens_call h1
    obtain ⟨hl2, m, hg⟩ := fields_of Tryd.underlying28 h5
    simp only [List.forall_mem_cons, c25, c22, c4, c26, List.drop_zero, List.drop_succ_cons, List.take_succ_cons, List.take_zero] at hg
    obtain ⟨⟨_, g0⟩, ⟨_, g1⟩, ⟨_, g2⟩, ⟨_, g3⟩, _⟩ := hg
    obtain ⟨b0, rfl, k0⟩ := oi h0
    obtain ⟨b6, rfl, k6⟩ := oi h2
    obtain ⟨b7, rfl, k7⟩ := oi h3
    obtain ⟨b8, rfl⟩ := ob h4
    obtain ⟨b9, rfl, k9⟩ := oe g0
    obtain ⟨b10, rfl⟩ := ob g1
    obtain ⟨b11, rfl, k11⟩ := ou g2
    obtain ⟨s1, s2, s3, rfl⟩ := slice_cell Tryd.underlying26 g3
    obtain ⟨t1, t2, t3, rfl⟩ := slice_cell Tryd.underlying29 h6
    obtain ⟨v, l, hv, hrd, hok⟩ := Opens.slice (E := encDue) (ok := DueR.ok) (opens_due W) Tryd.underlying26 c88 g3
    simp at hv
    subst hv
    simp only [List.cons.injEq, and_true] at hcall
    obtain ⟨rfl, rfl, rfl, rfl, rfl⟩ := hcall
    exact ⟨⟨b0, call, b6, b7, b8, ⟨b9, b10, b11, s1, s2, s3⟩, t1, t2, t3⟩, l, rfl, ⟨k0, kc, k6, k7, ⟨k9, k11⟩⟩, hrd, hok⟩
end Go.Proofs.YtkdmodanfcpcfaaDoor
