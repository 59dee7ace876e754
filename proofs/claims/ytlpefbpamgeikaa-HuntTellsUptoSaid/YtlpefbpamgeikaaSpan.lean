/- DERIVED. Chapter 50: Bound and Counts, of the program and of the reference. -/
import Derived.Test.YtlpefbpamgeikaaPlan
import Derived.Test.YtlpefbpamgeikaaSame
namespace Go.Proofs.Ytlpefbpamgeikaa
open Go.RowKit

theorem slRec : SlTy Try.prog 33 52 encRec := SlTy.mk' (.agg #[.int .i64 0, .int .i64 0, .int .i64 0, .int .u64 0, .int .u64 0, .int .i64 0, .int .i64 0, .int .i64 0, .bool false, .int .i64 0, .bool false, .int .u64 0, .slice none 0 0, .slice none 0 0]) 144 Try.underlying33 (by kernel_rfl) rfl (by decide)
theorem slStp : SlTy Try.prog 34 39 encStp := SlTy.mk' (.agg #[.int .i64 0, .int .i64 0, .int .i64 0, .int .i64 0, .int .u64 0, .int .u64 0, .int .u64 0, .int .u64 0, .int .u64 0, .bool false]) 80 Try.underlying34 (by kernel_rfl) rfl (by decide)
theorem lenR {w : World} {v : Value} {xs : List Rec} {b off : Nat} (h : RdAt encRec w v xs b off) (ty : TypeId) (W : World) :
    Sem.run Try.prog (Builtin.len_ #[33] ty #[v]) W = .ok (.int .i64 xs.length) W := h.len _ _ Try.underlying33 W
theorem idxR {w : World} {v : Value} {xs : List Rec} {b off : Nat} (h : RdAt encRec w v xs b off) {k : Nat} (hk : k < xs.length) (W : World) :
    Sem.run Try.prog (Instr.indexAt 33 v (.int .i64 k)) W = .ok (.pointer (some ⟨b, off + k * 14, none⟩)) W := h.idx slRec k hk W
theorem lenS {w : World} {v : Value} {xs : List Stp} {b off : Nat} (h : RdAt encStp w v xs b off) (ty : TypeId) (W : World) :
    Sem.run Try.prog (Builtin.len_ #[34] ty #[v]) W = .ok (.int .i64 xs.length) W := h.len _ _ Try.underlying34 W
theorem idxS {w : World} {v : Value} {xs : List Stp} {b off : Nat} (h : RdAt encStp w v xs b off) {k : Nat} (hk : k < xs.length) (W : World) :
    Sem.run Try.prog (Instr.indexAt 34 v (.int .i64 k)) W = .ok (.pointer (some ⟨b, off + k * 10, none⟩)) W := h.idx slStp k hk W

def boundV (p : Plan) : Int :=
  wrap64 (wrap64 (p.threads * wrap64 (wrap64 (wrap64 (p.levels * (p.threads + 2 * (p.slots + p.threads))) + (p.slots + p.threads)) + 4)) *
    wrap64 (wrap64 (wrap64 (p.levels * (3 * (p.slots + p.threads) + 2)) + 6 * p.threads) + 32))

set_option maxHeartbeats 1000000 in
theorem bound_yes (p : Plan) (w : World) (h : PlanOk p) :
    Calls Try.prog 18 #[.agg #[.int .i64 p.threads, .int .i64 p.slots, .int .i64 p.levels, .int .u64 p.gen]] w fun e w' => e = .returned (.int .i64 (boundV p)) ∧ Fr [] w w' := by
  have hh := Lib.hid h
  obtain ⟨h1, h2, h3, h4, h5, h6, h7⟩ := h
  go_enter Try.func18, Try.ntmps18
  go_wp2_with fail
  refine (right_yes p _ hh.out).mono ?_
  rintro e w1 ⟨rfl, f1⟩
  obtain ⟨r1, r2, r3⟩ := f1.rules
  go_wp2
  go_quiet (fail)
  go_wp2
  go_ret
  exact ⟨rfl, (((Fr.refl _ _).alloc _).trans0 f1).drewN _⟩
set_option maxHeartbeats 400000 in
theorem bound_no (p : Plan) (w : World) (h : ¬ PlanOk p) :
    Calls Try.prog 18 #[.agg #[.int .i64 p.threads, .int .i64 p.slots, .int .i64 p.levels, .int .u64 p.gen]] w fun e w' => e = .returned (.int .i64 0) ∧ Fr [] w w' := by
  have hh := Lib.hid h
  clear h
  go_enter Try.func18, Try.ntmps18
  go_wp2_with fail
  refine (right_no p _ hh.out).mono ?_
  rintro e w1 ⟨rfl, f1⟩
  go_wp2
  go_ret
  exact ⟨rfl, ((Fr.refl _ _).alloc _).trans0 f1⟩
set_option maxHeartbeats 1000000 in
theorem refBound_yes (p : Plan) (w : World) (h : PlanOk p) :
    Calls Try.prog 19 #[.agg #[.int .i64 p.threads, .int .i64 p.slots, .int .i64 p.levels, .int .u64 p.gen]] w fun e w' => e = .returned (.int .i64 (boundV p)) ∧ Fr [] w w' := by
  have hh := Lib.hid h
  obtain ⟨h1, h2, h3, h4, h5, h6, h7⟩ := h
  go_enter Try.func19, Try.ntmps19
  go_wp2_with fail
  refine (refRight_yes p _ hh.out).mono ?_
  rintro e w1 ⟨rfl, f1⟩
  obtain ⟨r1, r2, r3⟩ := f1.rules
  go_wp2
  go_ret
  exact ⟨rfl, ((Fr.refl _ _).alloc _).trans0 f1⟩
set_option maxHeartbeats 400000 in
theorem refBound_no (p : Plan) (w : World) (h : ¬ PlanOk p) :
    Calls Try.prog 19 #[.agg #[.int .i64 p.threads, .int .i64 p.slots, .int .i64 p.levels, .int .u64 p.gen]] w fun e w' => e = .returned (.int .i64 0) ∧ Fr [] w w' := by
  have hh := Lib.hid h
  clear h
  go_enter Try.func19, Try.ntmps19
  go_wp2_with fail
  refine (refRight_no p _ hh.out).mono ?_
  rintro e w1 ⟨rfl, f1⟩
  go_wp2
  go_ret
  exact ⟨rfl, ((Fr.refl _ _).alloc _).trans0 f1⟩

/-! ### Counts -/
/-- does a record bear on a step? -/
def bears (r : Rec) (s : Stp) : Bool := r.thread == s.thread && (decide (r.beg < s.event) && (!r.done || decide (s.event ≤ r.fin)))
def kindF (l : List Rec) (s : Stp) : Int := l.foldl (fun k r => if bears r s then r.call.kind else k) 0
theorem kindF_snoc (l : List Rec) (r : Rec) (s : Stp) : kindF (l ++ [r]) s = if bears r s then r.call.kind else kindF l s := by simp [kindF]
def cnt (l : List Rec) (s : Stp) : Bool := kindF l s != 5
/-- the five ways -/
theorem bears_ways (r : Rec) (s : Stp) : ((r.thread == s.thread) = false ∧ bears r s = false) ∨ ((r.thread == s.thread) = true ∧ s.event ≤ r.beg ∧ bears r s = false) ∨
    ((r.thread == s.thread) = true ∧ r.beg < s.event ∧ r.done = false ∧ bears r s = true) ∨ ((r.thread == s.thread) = true ∧ r.beg < s.event ∧ r.done = true ∧ s.event ≤ r.fin ∧ bears r s = true) ∨
    ((r.thread == s.thread) = true ∧ r.beg < s.event ∧ r.done = true ∧ r.fin < s.event ∧ bears r s = false) := by
  unfold bears
  cases h1 : (r.thread == s.thread)
  · simp
  · by_cases h2 : r.beg < s.event
    · cases h3 : r.done
      · simp [h2]
      · by_cases h4 : s.event ≤ r.fin
        · simp [h2, h4]
        · simp [h2, h4]; omega
    · simp [h2]; omega
theorem kindF_miss (l : List Rec) (s : Stp) {k : Nat} {r : Rec} (hr : l[k]? = some r) (hb : bears r s = false) : kindF (l.take (k + 1)) s = kindF (l.take k) s := by
  rw [take_at hr, kindF_snoc, hb]; rfl
theorem kindF_hit (l : List Rec) (s : Stp) {k : Nat} {r : Rec} (hr : l[k]? = some r) (hb : bears r s = true) : kindF (l.take (k + 1)) s = r.call.kind := by
  rw [take_at hr, kindF_snoc, hb]; rfl

set_option maxHeartbeats 1000000 in
theorem counts_any (v : Value) (l : List Rec) (s : Stp) (w : World) (hl : Rd encRec w v l) (hlen : l.length ≤ 100) :
    Calls Try.prog 16 #[v, .agg #[.int .i64 s.event, .int .i64 s.thread, .int .i64 s.kind, .int .i64 s.at_, .int .u64 s.a, .int .u64 s.b, .int .u64 s.by_, .int .u64 s.found, .int .u64 s.gen, .bool s.parked]] w fun e w' => e = .returned (.bool (cnt l s)) ∧ Fr [] w w' := by
  obtain ⟨b, o, hl⟩ := hl
  have l1 := lenR hl
  go_enter Try.func16, Try.ntmps16
  go_wp2
  obtain ⟨g, hg⟩ : ∃ g, w.heap.size = g := ⟨_, rfl⟩
  have HG := Lib.hid hg
  rw [hg]
  clear hg
  go_loopw [5] (fun i wr => ∃ k : Nat, k ≤ l.length ∧ i = .int .i64 ((k : Int) - 1) ∧ Hid (kindF l s = kindF (l.take k) s) ∧ Fr [] (w.alloc (.cells #[.int .i64 s.event, .int .i64 s.thread, .int .i64 s.kind, .int .i64 s.at_, .int .u64 s.a, .int .u64 s.b, .int .u64 s.by_, .int .u64 s.found, .int .u64 s.gen, .bool s.parked] 39)) wr) (fun i _ => (intOf i + 1).toNat)
  case atStart => exact ⟨l.length, by omega, rfl, by simp [Hid], Fr.refl _ _⟩
  case round =>
    obtain ⟨k, hk, rfl, hkf, hf⟩ := hrel
    have hgw : g < (w.alloc (.cells #[.int .i64 s.event, .int .i64 s.thread, .int .i64 s.kind, .int .i64 s.at_, .int .u64 s.a, .int .u64 s.b, .int .u64 s.by_, .int .u64 s.found, .int .u64 s.gen, .bool s.parked] 39)).heap.size := by have := HG.out; simp; omega
    have hgw2 : g < wr.heap.size := Nat.lt_of_lt_of_le hgw hf.size
    have cs : ∀ j, wr.cell? ⟨g, j, none⟩ = (w.alloc (.cells #[.int .i64 s.event, .int .i64 s.thread, .int .i64 s.kind, .int .i64 s.at_, .int .u64 s.a, .int .u64 s.b, .int .u64 s.by_, .int .u64 s.found, .int .u64 s.gen, .bool s.parked] 39)).cell? ⟨g, j, none⟩ := fun j => hf.cell hgw (by simp) j
    have cs2 : ∀ j, wr.cell? ⟨g, j, none⟩ = #[.int .i64 s.event, .int .i64 s.thread, .int .i64 s.kind, .int .i64 s.at_, .int .u64 s.a, .int .u64 s.b, .int .u64 s.by_, .int .u64 s.found, .int .u64 s.gen, .bool s.parked][j]? := fun j => by rw [cs j]; exact World.cell?_alloc_at _ _ _ _ HG.out.symm
    clear cs hgw
    have F := ((Fr.refl [] w).alloc (.cells #[.int .i64 s.event, .int .i64 s.thread, .int .i64 s.kind, .int .i64 s.at_, .int .u64 s.a, .int .u64 s.b, .int .u64 s.by_, .int .u64 s.found, .int .u64 s.gen, .bool s.parked] 39)).trans0 hf
    cases k with
    | zero =>
      go_wp2
      go_ret
      refine ⟨ret_bool ?_, F⟩
      unfold cnt; rw [hkf.out]; rfl
    | succ k =>
      obtain ⟨r, hr⟩ := at_of l (show k < l.length by omega)
      have i1 := idxR hl (show k < l.length by omega)
      have c1 := recAt (hl.keep0 F) hr
      have HR := Lib.hid hr
      have e1 : ((k + 1 : Nat) : Int) - 1 = k := by omega
      rw [e1]
      have hk0 : (0 : Int) ≤ (k : Int) := by omega
      have HK := Lib.hid hk
      clear hr e1 hk
      have hk100 : k < 100 := by have := HK.out; omega
      rcases bears_ways r s with ⟨q1, q⟩ | ⟨q1, q2, q⟩ | ⟨q1, q2, q3, q⟩ | ⟨q1, q2, q3, q4, q⟩ | ⟨q1, q2, q3, q4, q⟩
      · have Q := Lib.hid q
        clear q
        go_wp2
        go_roundw
        case rel => exact ⟨k, by have := HK.out; omega, rfl, by unfold Hid; rw [hkf.out, kindF_miss l s HR.out Q.out], hf.alloc _⟩
        case measure => simp [intOf]
      · have Q := Lib.hid q
        clear q
        go_wp2
        go_roundw
        case rel => exact ⟨k, by have := HK.out; omega, rfl, by unfold Hid; rw [hkf.out, kindF_miss l s HR.out Q.out], hf.alloc _⟩
        case measure => simp [intOf]
      · have Q := Lib.hid q
        have Q3 := Lib.hid q3
        rw [q3] at c1
        clear q q3
        go_wp2
        go_ret
        exact ⟨ret_bool (by unfold cnt; rw [hkf.out, kindF_hit l s HR.out Q.out]), F.alloc _⟩
      · have Q := Lib.hid q
        have Q3 := Lib.hid q3
        rw [q3] at c1
        clear q q3
        go_wp2
        go_ret
        exact ⟨ret_bool (by unfold cnt; rw [hkf.out, kindF_hit l s HR.out Q.out]), F.alloc _⟩
      · have Q := Lib.hid q
        have Q3 := Lib.hid q3
        rw [q3] at c1
        clear q q3
        go_wp2
        go_roundw
        case rel => exact ⟨k, by have := HK.out; omega, rfl, by unfold Hid; rw [hkf.out, kindF_miss l s HR.out Q.out], hf.alloc _⟩
        case measure => simp [intOf]
end Go.Proofs.Ytlpefbpamgeikaa
