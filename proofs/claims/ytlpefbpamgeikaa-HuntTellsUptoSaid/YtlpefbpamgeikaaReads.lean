/- DERIVED. The arguments' types of package api, opened: whatever reads as an api.Step, api.Record .. lies as 'encStp', 'encRec' .. say. -/
import Derived.Test.YtlpefbpamgeikaaRows
import Derived.Test.YtlpefbpamgeikaaOpen
import Derived.Test.YtlpefbpamgeikaaTypes
import Derived.Test.YtlpefbpamgeikaaSame
namespace Go.Proofs.Ytlpefbpamgeikaa
open Go.RowKit Go.ChangeShapes Go.WideShapes

theorem fields_of {H : Type} {enc : TypeId × Value → H} {P : Program} {W : World} {fuel : Nat} {t : TypeId} {cs : List Value} {x : DataW H × List MemPlace} {fs : Array Field} (ht : P.underlying t = some (.struct fs))
    (h : DataW.trod enc P W 0 (fun _ => true) true fuel t cs = some x) :
    cs.length = P.cellsOf t ∧ ∃ n, ∀ f ∈ fs.toList, ∃ y, DataW.trod enc P W 0 (fun _ => true) true n f.type ((cs.drop f.offset).take (P.cellsOf f.type)) = some y := by
  obtain ⟨xs, n, _, _, hl, hx, hf⟩ := DataW.trod_struct ht h
  refine ⟨hl, n, fun f hm => ?_⟩
  obtain ⟨i, hi⟩ := List.mem_iff_getElem?.1 hm
  rw [Array.getElem?_toList] at hi
  have hlt : i < xs.length := by rw [hx]; exact (Array.getElem?_eq_some_iff.1 hi).1
  exact ⟨xs[i], by rw [hf i f hi, List.getElem?_eq_getElem hlt]⟩

theorem c3 : Try.prog.cellsOf 3 = 1 := by kernel_rfl
theorem c22 : Try.prog.cellsOf 22 = 1 := by kernel_rfl
theorem c4 : Try.prog.cellsOf 4 = 1 := by kernel_rfl
theorem c46 : Try.prog.cellsOf 46 = 1 := by kernel_rfl
theorem c47 : Try.prog.cellsOf 47 = 1 := by kernel_rfl
theorem c50 : Try.prog.cellsOf 50 = 1 := by kernel_rfl
theorem c32 : Try.prog.cellsOf 32 = 4 := by kernel_rfl
theorem c45 : Try.prog.cellsOf 45 = 5 := by kernel_rfl
theorem c37 : Try.prog.cellsOf 37 = 5 := by kernel_rfl
theorem c49 : Try.prog.cellsOf 49 = 4 := by kernel_rfl
theorem c39 : Try.prog.cellsOf 39 = 10 := by kernel_rfl
theorem c52 : Try.prog.cellsOf 52 = 14 := by kernel_rfl
theorem c65 : Try.prog.cellsOf 65 = 4 := by kernel_rfl

section
variable {H : Type} {enc : TypeId × Value → H} {W : World} {n : Nat} {c : Value} {y : DataW H × List MemPlace}
theorem oi (h : DataW.trod enc Try.prog W 0 (fun _ => true) true n 3 [c] = some y) : ∃ a : Int, c = .int .i64 a ∧ okInt .i64 a := by
  obtain ⟨a, e, _, ha⟩ := DataW.trod_int Try.underlying3 h; exact ⟨a, by simpa using e, ha⟩
theorem ou (h : DataW.trod enc Try.prog W 0 (fun _ => true) true n 22 [c] = some y) : ∃ a : Int, c = .int .u64 a ∧ okInt .u64 a := by
  obtain ⟨a, e, _, ha⟩ := DataW.trod_int Try.underlying22 h; exact ⟨a, by simpa using e, ha⟩
theorem oe (h : DataW.trod enc Try.prog W 0 (fun _ => true) true n 46 [c] = some y) : ∃ a : Int, c = .int .i64 a ∧ okInt .i64 a := by
  obtain ⟨a, e, _, ha⟩ := DataW.trod_int Try.underlying46 h; exact ⟨a, by simpa using e, ha⟩
theorem ob (h : DataW.trod enc Try.prog W 0 (fun _ => true) true n 4 [c] = some y) : ∃ a : Bool, c = .bool a := by
  obtain ⟨a, e, _⟩ := DataW.trod_bool Try.underlying4 h; exact ⟨a, by simpa using e⟩
end

structure Call.ok (c : Call) : Prop where
  kind : okInt .i64 c.kind
  deadline : okInt .i64 c.deadline
  draw : okInt .u64 c.draw
  handle : okInt .u64 c.handle
  count : okInt .i64 c.count
theorem opens_call (W : World) : Opens Try.prog W 45 encCall Call.ok := by
  intro H enc fuel cs x h
  obtain ⟨hl, n, hf⟩ := fields_of Try.underlying45 h
  rw [c45] at hl
  match cs, hl with
  | [a0, a1, a2, a3, a4], _ =>
    simp only [List.forall_mem_cons, c3, c22, List.drop_zero, List.drop_succ_cons, List.take_succ_cons, List.take_zero] at hf
    obtain ⟨⟨_, h0⟩, ⟨_, h1⟩, ⟨_, h2⟩, ⟨_, h3⟩, ⟨_, h4⟩, _⟩ := hf
    obtain ⟨b0, rfl, k0⟩ := oi h0
    obtain ⟨b1, rfl, k1⟩ := oi h1
    obtain ⟨b2, rfl, k2⟩ := ou h2
    obtain ⟨b3, rfl, k3⟩ := ou h3
    obtain ⟨b4, rfl, k4⟩ := oi h4
    exact ⟨⟨b0, b1, b2, b3, b4⟩, rfl, ⟨k0, k1, k2, k3, k4⟩⟩

structure ActR.ok (c : ActR) : Prop where
  kind : okInt .i64 c.kind
  handle : okInt .u64 c.handle
  deadline : okInt .i64 c.deadline
  step : okInt .i64 c.step
theorem opens_act (W : World) : Opens Try.prog W 65 encAct ActR.ok := by
  intro H enc fuel cs x h
  obtain ⟨hl, n, hf⟩ := fields_of Try.underlying65 h
  rw [c65] at hl
  match cs, hl with
  | [a0, a1, a2, a3], _ =>
    simp only [List.forall_mem_cons, c3, c22, List.drop_zero, List.drop_succ_cons, List.take_succ_cons, List.take_zero] at hf
    obtain ⟨⟨_, h0⟩, ⟨_, h1⟩, ⟨_, h2⟩, ⟨_, h3⟩, _⟩ := hf
    obtain ⟨b0, rfl, k0⟩ := oi h0
    obtain ⟨b1, rfl, k1⟩ := ou h1
    obtain ⟨b2, rfl, k2⟩ := oi h2
    obtain ⟨b3, rfl, k3⟩ := oi h3
    exact ⟨⟨b0, b1, b2, b3⟩, rfl, ⟨k0, k1, k2, k3⟩⟩

theorem opens_plan {H : Type} {enc : TypeId × Value → H} {W : World} {fuel : Nat} {cs : List Value} {x : DataW H × List MemPlace} (h : DataW.trod enc Try.prog W 0 (fun _ => true) true fuel 32 cs = some x) :
    ∃ p : Plan, cs = p.cs ∧ okInt .i64 p.threads ∧ okInt .i64 p.slots ∧ okInt .i64 p.levels ∧ okInt .u64 p.gen := by
  obtain ⟨hl, n, hf⟩ := fields_of Try.underlying32 h
  rw [c32] at hl
  match cs, hl with
  | [a0, a1, a2, a3], _ =>
    simp only [List.forall_mem_cons, c3, c22, List.drop_zero, List.drop_succ_cons, List.take_succ_cons, List.take_zero] at hf
    obtain ⟨⟨_, h0⟩, ⟨_, h1⟩, ⟨_, h2⟩, ⟨_, h3⟩, _⟩ := hf
    obtain ⟨b0, rfl, k0⟩ := oi h0
    obtain ⟨b1, rfl, k1⟩ := oi h1
    obtain ⟨b2, rfl, k2⟩ := oi h2
    obtain ⟨b3, rfl, k3⟩ := ou h3
    exact ⟨⟨b0, b1, b2, b3⟩, rfl, k0, k1, k2, k3⟩

theorem opens_stp (W : World) : Opens Try.prog W 39 encStp (fun s => okInt .i64 s.event) := by
  intro H enc fuel cs x h
  obtain ⟨hl, n, hf⟩ := fields_of Try.underlying39 h
  rw [c39] at hl
  match cs, hl with
  | [a0, a1, a2, a3, a4, a5, a6, a7, a8, a9], _ =>
    simp only [List.forall_mem_cons, c3, c22, c4, c37, List.drop_zero, List.drop_succ_cons, List.take_succ_cons, List.take_zero] at hf
    obtain ⟨⟨_, h0⟩, ⟨_, h1⟩, ⟨_, h2⟩, ⟨_, h3⟩, ⟨_, h4⟩, ⟨_, h5⟩, _⟩ := hf
    obtain ⟨hl2, m, hg⟩ := fields_of Try.underlying37 h2
    simp only [List.forall_mem_cons, c3, c22, List.drop_zero, List.drop_succ_cons, List.take_succ_cons, List.take_zero] at hg
    obtain ⟨⟨_, g0⟩, ⟨_, g1⟩, ⟨_, g2⟩, ⟨_, g3⟩, ⟨_, g4⟩, _⟩ := hg
    obtain ⟨b0, rfl, k0⟩ := oi h0
    obtain ⟨b1, rfl, _⟩ := oi h1
    obtain ⟨b2, rfl, _⟩ := oi g0
    obtain ⟨b3, rfl, _⟩ := oi g1
    obtain ⟨b4, rfl, _⟩ := ou g2
    obtain ⟨b5, rfl, _⟩ := ou g3
    obtain ⟨b6, rfl, _⟩ := ou g4
    obtain ⟨b7, rfl, _⟩ := ou h3
    obtain ⟨b8, rfl, _⟩ := ou h4
    obtain ⟨b9, rfl⟩ := ob h5
    exact ⟨⟨b0, b1, b2, b3, b4, b5, b6, b7, b8, b9⟩, rfl, k0⟩

theorem slice_cell {H : Type} {enc : TypeId × Value → H} {P : Program} {W : World} {t e : TypeId} (ht : P.underlying t = some (.slice e)) {fuel : Nat} {c : Value} {x : DataW H × List MemPlace} (h : DataW.trod enc P W 0 (fun _ => true) true fuel t [c] = some x) : ∃ s : Sl, c = .slice s.a s.n s.c := by
  rcases Deep.open_slice ht h with ⟨e1, _⟩ | ⟨a, len, cap, m, n, D, Pl, e1, _⟩
  · exact ⟨⟨none, 0, 0⟩, by simpa using e1⟩
  · exact ⟨⟨some a, len, cap⟩, by simpa using e1⟩

/-- what is known of a record that came in -/
structure Rec.ok (W : World) (r : Rec) : Prop where
  beg : okInt .i64 r.beg
  fin : okInt .i64 r.fin
  acts : ∃ xs : List ActR, Rd encAct W (.slice r.acts.a r.acts.n r.acts.c) xs ∧ ∀ a ∈ xs, a.ok
theorem opens_rec (W : World) : Opens Try.prog W 52 encRec (Rec.ok W) := by
  intro H enc fuel cs x h
  obtain ⟨hl, n, hf⟩ := fields_of Try.underlying52 h
  rw [c52] at hl
  match cs, hl with
  | [a0, a1, a2, a3, a4, a5, a6, a7, a8, a9, a10, a11, a12, a13], _ =>
    simp only [List.forall_mem_cons, c3, c4, c45, c49, c50, List.drop_zero, List.drop_succ_cons, List.take_succ_cons, List.take_zero] at hf
    obtain ⟨⟨_, h0⟩, ⟨_, h1⟩, ⟨_, h2⟩, ⟨_, h3⟩, ⟨_, h4⟩, ⟨_, h5⟩, ⟨_, h6⟩, _⟩ := hf
    obtain ⟨call, hcall, _⟩ := opens_call W enc _ _ _ h1
    obtain ⟨hl2, m, hg⟩ := fields_of Try.underlying49 h5
    simp only [List.forall_mem_cons, c46, c22, c4, c47, List.drop_zero, List.drop_succ_cons, List.take_succ_cons, List.take_zero] at hg
    obtain ⟨⟨_, g0⟩, ⟨_, g1⟩, ⟨_, g2⟩, ⟨_, g3⟩, _⟩ := hg
    obtain ⟨b0, rfl, _⟩ := oi h0
    obtain ⟨b6, rfl, k6⟩ := oi h2
    obtain ⟨b7, rfl, k7⟩ := oi h3
    obtain ⟨b8, rfl⟩ := ob h4
    obtain ⟨b9, rfl, _⟩ := oe g0
    obtain ⟨b10, rfl⟩ := ob g1
    obtain ⟨b11, rfl, _⟩ := ou g2
    obtain ⟨s12, rfl⟩ := slice_cell Try.underlying47 g3
    obtain ⟨s13, rfl⟩ := slice_cell Try.underlying50 h6
    obtain ⟨v, xs, hv, hrd, hok⟩ := Opens.slice (E := encAct) (ok := ActR.ok) (opens_act W) Try.underlying50 c65 h6
    simp at hv
    subst hv
    simp only [encCall, Call.cs, List.cons.injEq, and_true] at hcall
    obtain ⟨rfl, rfl, rfl, rfl, rfl⟩ := hcall
    exact ⟨⟨b0, call, b6, b7, b8, b9, b10, b11, s12, s13⟩, rfl, ⟨k6, k7, xs, hrd, hok⟩⟩
end Go.Proofs.Ytlpefbpamgeikaa
