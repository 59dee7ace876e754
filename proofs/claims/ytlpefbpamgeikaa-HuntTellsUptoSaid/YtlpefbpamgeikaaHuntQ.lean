/- DERIVED. Chapter 46: Acts and Time, of the program and of the reference. -/
import Derived.Test.YtlpefbpamgeikaaSpan
import Derived.Test.YtlpefbpamgeikaaHuntO
namespace Go.Proofs.Ytlpefbpamgeikaa
open Go.RowKit

def lens (l : List Rec) : Nat := (l.map fun r => r.acts.n).sum
theorem lens_take (l : List Rec) {k : Nat} {r : Rec} (h : l[k]? = some r) : lens (l.take (k + 1)) = lens (l.take k) + r.acts.n := by
  rw [take_at h]; simp [lens]
theorem lens_le (l : List Rec) (k : Nat) : lens (l.take k) ≤ lens l := by
  have : lens l = lens (l.take k) + lens (l.drop k) := by
    simp only [lens]; rw [← List.sum_append, ← List.map_append, List.take_append_drop]
  omega
def timeV (r : Rec) (ts : List Int) : Int := let n := if r.done then r.fin else ts.length; if n < 1 ∨ ts.length < n then 0 else (ts[(n - 1).toNat]?).getD 0

theorem slAct : SlTy Try.prog 50 65 encAct := SlTy.mk' (.agg #[.int .i64 0, .int .u64 0, .int .i64 0, .int .i64 0]) 32 Try.underlying50 (by kernel_rfl) rfl (by decide)
theorem lenA {w : World} {v : Value} {xs : List ActR} {b off : Nat} (h : RdAt encAct w v xs b off) (ty : TypeId) (W : World) :
    Sem.run Try.prog (Builtin.len_ #[50] ty #[v]) W = .ok (.int .i64 xs.length) W := h.len _ _ Try.underlying50 W
theorem idxA {w : World} {v : Value} {xs : List ActR} {b off : Nat} (h : RdAt encAct w v xs b off) {k : Nat} (hk : k < xs.length) (W : World) :
    Sem.run Try.prog (Instr.indexAt 50 v (.int .i64 k)) W = .ok (.pointer (some ⟨b, off + k * 4, none⟩)) W := h.idx slAct k hk W

set_option maxHeartbeats 1000000 in
theorem acts_any (v : Value) (l : List Rec) (w : World) (hl : Rd encRec w v l) (hs : lens l ≤ 9223372036854775807) (hlen : l.length ≤ 100) (ha : ∀ r ∈ l, ∃ xs, Rd encAct w (.slice r.acts.a r.acts.n r.acts.c) xs) :
    Calls Try.prog 27 #[v] w fun e w' => e = .returned (.int .i64 (lens l)) ∧ Fr [] w w' := by
  obtain ⟨b, o, hl⟩ := hl
  have l1 := lenR hl
  go_enter Try.func27, Try.ntmps27
  go_wp2
  go_loopw [3, 8] (fun q i wr => ∃ k : Nat, k ≤ l.length ∧ i = .int .i64 k ∧ q = .int .i64 (lens (l.take k)) ∧ Fr [] w wr) (fun _ i _ => l.length - (intOf i).toNat)
  case atStart => exact ⟨0, by omega, rfl, rfl, Fr.refl _ _⟩
  case round =>
    obtain ⟨k, hk, rfl, rfl, hf⟩ := hrel
    by_cases hlt : k < l.length
    · obtain ⟨r, hr⟩ := at_of l hlt
      have i1 := idxR hl hlt
      have c1 := recAt (hl.keep0 hf) hr
      have s1 := lens_take l hr
      have s2 := lens_le l (k + 1)
      obtain ⟨xs, bb, oo, hxs⟩ := ha r (List.mem_of_getElem? hr)
      have l2 := lenA hxs
      have l3 : xs.length = r.acts.n := by
        obtain ⟨ao, cap, e1, _⟩ := hxs.val; injection e1 with _ e2 _; exact e2.symm
      rw [l3] at l2
      obtain ⟨q, hq⟩ : ∃ q, lens (l.take k) = q := ⟨_, rfl⟩
      rw [hq] at s1 ⊢
      have HR := Lib.hid s1
      have hb : (q : Int) + r.acts.n ≤ 9223372036854775807 := by omega
      clear hr s1 s2 hq l3 hs ha hxs
      go_wp2
      go_roundw
      case rel => exact ⟨k + 1, by omega, by go_num, by rw [HR.out]; go_num, hf.alloc _⟩
      case measure => simp [intOf]; omega
    · have hkl : k = l.length := by omega
      have e1 : lens (l.take k) = lens l := by rw [hkl, List.take_length]
      rw [e1]
      go_wp2
      go_ret
      exact ⟨rfl, hf⟩

set_option maxHeartbeats 1000000 in
theorem refActs_any (v : Value) (l : List Rec) (w : World) (hl : Rd encRec w v l) (hs : lens l ≤ 9223372036854775807) (hlen : l.length ≤ 100) (ha : ∀ r ∈ l, ∃ xs, Rd encAct w (.slice r.acts.a r.acts.n r.acts.c) xs) :
    Calls Try.prog 28 #[v] w fun e w' => e = .returned (.int .i64 (lens l)) ∧ Fr [] w w' := by
  obtain ⟨b, o, hl⟩ := hl
  have l1 := lenR hl
  go_enter Try.func28, Try.ntmps28
  go_wp2
  go_loopw [3, 4] (fun q i wr => ∃ k : Nat, k ≤ l.length ∧ i = .int .i64 k ∧ q = .int .i64 (lens (l.take k)) ∧ Fr [] w wr) (fun _ i _ => l.length - (intOf i).toNat)
  case atStart => exact ⟨0, by omega, rfl, rfl, Fr.refl _ _⟩
  case round =>
    obtain ⟨k, hk, rfl, rfl, hf⟩ := hrel
    by_cases hlt : k < l.length
    · obtain ⟨r, hr⟩ := at_of l hlt
      have i1 := idxR hl hlt
      have c1 := recAt (hl.keep0 hf) hr
      have s1 := lens_take l hr
      have s2 := lens_le l (k + 1)
      obtain ⟨xs, bb, oo, hxs⟩ := ha r (List.mem_of_getElem? hr)
      have l2 := lenA hxs
      have l3 : xs.length = r.acts.n := by
        obtain ⟨ao, cap, e1, _⟩ := hxs.val; injection e1 with _ e2 _; exact e2.symm
      rw [l3] at l2
      obtain ⟨q, hq⟩ : ∃ q, lens (l.take k) = q := ⟨_, rfl⟩
      rw [hq] at s1 ⊢
      have HR := Lib.hid s1
      have hb : (q : Int) + r.acts.n ≤ 9223372036854775807 := by omega
      clear hr s1 s2 hq l3 hs ha hxs
      go_wp2
      go_roundw
      case rel => exact ⟨k + 1, by omega, by go_num, by rw [HR.out]; go_num, hf⟩
      case measure => simp [intOf]; omega
    · have hkl : k = l.length := by omega
      have e1 : lens (l.take k) = lens l := by rw [hkl, List.take_length]
      rw [e1]
      go_wp2
      go_ret
      exact ⟨rfl, hf⟩

set_option maxHeartbeats 1000000 in
theorem time_any (v : Value) (ts : List Int) (r : Rec) (w : World) (hv : Rd encI w v ts) (hr : okInt .i64 r.fin) :
    Calls Try.prog 23 #[.agg #[.int .i64 r.thread, .int .i64 r.call.kind, .int .i64 r.call.deadline, .int .u64 r.call.draw, .int .u64 r.call.handle, .int .i64 r.call.count, .int .i64 r.beg, .int .i64 r.fin, .bool r.done, .int .i64 r.err, .bool r.aok, .int .u64 r.ahandle, .slice r.batch.a r.batch.n r.batch.c, .slice r.acts.a r.acts.n r.acts.c], v] w fun e w' => e = .returned (.int .i64 (timeV r ts)) ∧ Fr [] w w' := by
  have hb := bounds_i64 hr
  have hlen := hv.len_le
  obtain ⟨b, o, hv⟩ := hv
  have l1 := lenI hv
  have F0 := (Fr.refl [] w).alloc (.cells #[.int .i64 r.thread, .int .i64 r.call.kind, .int .i64 r.call.deadline, .int .u64 r.call.draw, .int .u64 r.call.handle, .int .i64 r.call.count, .int .i64 r.beg, .int .i64 r.fin, .bool r.done, .int .i64 r.err, .bool r.aok, .int .u64 r.ahandle, .slice r.batch.a r.batch.n r.batch.c, .slice r.acts.a r.acts.n r.acts.c] 52)
  have hv1 := hv.keep0 F0
  cases hd : r.done
  · rw [hd] at F0 hv1
    by_cases h1 : ts.length = 0
    · have t0 : timeV r ts = 0 := by simp [timeV, hd, h1]
      rw [t0]
      rw [h1] at l1
      have H := Lib.hid F0
      clear F0 t0 hd
      go_enter Try.func23, Try.ntmps23
      go_wp2
      go_ret
      exact ⟨rfl, H.out⟩
    · obtain ⟨x, hx⟩ := at_of ts (k := ts.length - 1) (by omega)
      have t0 : timeV r ts = x := by
        have e1 : ((ts.length : Int) - 1).toNat = ts.length - 1 := by omega
        simp only [timeV, hd, Bool.false_eq_true, if_false, e1, hx]
        rw [if_neg (by omega)]; rfl
      rw [t0]
      have i1 := idxI hv (k := ts.length - 1) (by omega)
      have e1 : ((ts.length - 1 : Nat) : Int) = (ts.length : Int) - 1 := by omega
      rw [e1] at i1
      have c1 := cellI hv1 hx
      have d1 : decide ((ts.length : Int) < 1) = false := by simp; omega
      have H := Lib.hid F0
      clear F0 t0 hd
      go_enter Try.func23, Try.ntmps23
      go_wp2
      go_ret
      exact ⟨rfl, H.out⟩
  · rw [hd] at F0 hv1
    by_cases h1 : r.fin < 1
    · have t0 : timeV r ts = 0 := by simp only [timeV, hd, if_true]; rw [if_pos (by omega)]
      rw [t0]
      have H := Lib.hid F0
      clear F0 t0 hd
      go_enter Try.func23, Try.ntmps23
      go_wp2
      go_ret
      exact ⟨rfl, H.out⟩
    · by_cases h2 : (ts.length : Int) < r.fin
      · have t0 : timeV r ts = 0 := by simp only [timeV, hd, if_true]; rw [if_pos (by omega)]
        rw [t0]
        have H := Lib.hid F0
        clear F0 t0 hd
        go_enter Try.func23, Try.ntmps23
        go_wp2
        go_ret
        exact ⟨rfl, H.out⟩
      · obtain ⟨k, hk⟩ : ∃ k : Nat, r.fin - 1 = k := ⟨(r.fin - 1).toNat, by omega⟩
        obtain ⟨x, hx⟩ := at_of ts (k := k) (by omega)
        have t0 : timeV r ts = x := by
          simp only [timeV, hd, if_true, hk, Int.toNat_natCast, hx]
          rw [if_neg (by omega)]; rfl
        rw [t0]
        have i1 := idxI hv (k := k) (by omega)
        rw [← hk] at i1
        have c1 := cellI hv1 hx
        have H := Lib.hid F0
        clear F0 t0 hd hk
        go_enter Try.func23, Try.ntmps23
        go_wp2
        go_ret
        exact ⟨rfl, H.out⟩

set_option maxHeartbeats 1000000 in
theorem refTime_any (v : Value) (ts : List Int) (r : Rec) (w : World) (hv : Rd encI w v ts) (hr : okInt .i64 r.fin) :
    Calls Try.prog 24 #[.agg #[.int .i64 r.thread, .int .i64 r.call.kind, .int .i64 r.call.deadline, .int .u64 r.call.draw, .int .u64 r.call.handle, .int .i64 r.call.count, .int .i64 r.beg, .int .i64 r.fin, .bool r.done, .int .i64 r.err, .bool r.aok, .int .u64 r.ahandle, .slice r.batch.a r.batch.n r.batch.c, .slice r.acts.a r.acts.n r.acts.c], v] w fun e w' => e = .returned (.int .i64 (timeV r ts)) ∧ Fr [] w w' := by
  have hb := bounds_i64 hr
  have hlen := hv.len_le
  obtain ⟨b, o, hv⟩ := hv
  have l1 := lenI hv
  have F0 := (Fr.refl [] w).alloc (.cells #[.int .i64 r.thread, .int .i64 r.call.kind, .int .i64 r.call.deadline, .int .u64 r.call.draw, .int .u64 r.call.handle, .int .i64 r.call.count, .int .i64 r.beg, .int .i64 r.fin, .bool r.done, .int .i64 r.err, .bool r.aok, .int .u64 r.ahandle, .slice r.batch.a r.batch.n r.batch.c, .slice r.acts.a r.acts.n r.acts.c] 52)
  have hv1 := hv.keep0 F0
  cases hd : r.done
  · rw [hd] at F0 hv1
    by_cases h1 : ts.length = 0
    · have t0 : timeV r ts = 0 := by simp [timeV, hd, h1]
      rw [t0]
      rw [h1] at l1
      have H := Lib.hid F0
      clear F0 t0 hd
      go_enter Try.func24, Try.ntmps24
      go_wp2
      go_ret
      exact ⟨rfl, H.out⟩
    · obtain ⟨x, hx⟩ := at_of ts (k := ts.length - 1) (by omega)
      have t0 : timeV r ts = x := by
        have e1 : ((ts.length : Int) - 1).toNat = ts.length - 1 := by omega
        simp only [timeV, hd, Bool.false_eq_true, if_false, e1, hx]
        rw [if_neg (by omega)]; rfl
      rw [t0]
      have i1 := idxI hv (k := ts.length - 1) (by omega)
      have e1 : ((ts.length - 1 : Nat) : Int) = (ts.length : Int) - 1 := by omega
      rw [e1] at i1
      have c1 := cellI hv1 hx
      have d1 : decide ((ts.length : Int) < 1) = false := by simp; omega
      have H := Lib.hid F0
      clear F0 t0 hd
      go_enter Try.func24, Try.ntmps24
      go_wp2
      go_ret
      exact ⟨rfl, H.out⟩
  · rw [hd] at F0 hv1
    by_cases h1 : r.fin < 1
    · have t0 : timeV r ts = 0 := by simp only [timeV, hd, if_true]; rw [if_pos (by omega)]
      rw [t0]
      have H := Lib.hid F0
      clear F0 t0 hd
      go_enter Try.func24, Try.ntmps24
      go_wp2
      go_ret
      exact ⟨rfl, H.out⟩
    · by_cases h2 : (ts.length : Int) < r.fin
      · have t0 : timeV r ts = 0 := by simp only [timeV, hd, if_true]; rw [if_pos (by omega)]
        rw [t0]
        have H := Lib.hid F0
        clear F0 t0 hd
        go_enter Try.func24, Try.ntmps24
        go_wp2
        go_ret
        exact ⟨rfl, H.out⟩
      · obtain ⟨k, hk⟩ : ∃ k : Nat, r.fin - 1 = k := ⟨(r.fin - 1).toNat, by omega⟩
        obtain ⟨x, hx⟩ := at_of ts (k := k) (by omega)
        have t0 : timeV r ts = x := by
          simp only [timeV, hd, if_true, hk, Int.toNat_natCast, hx]
          rw [if_neg (by omega)]; rfl
        rw [t0]
        have i1 := idxI hv (k := k) (by omega)
        rw [← hk] at i1
        have c1 := cellI hv1 hx
        have H := Lib.hid F0
        clear F0 t0 hd hk
        go_enter Try.func24, Try.ntmps24
        go_wp2
        go_ret
        exact ⟨rfl, H.out⟩
end Go.Proofs.Ytlpefbpamgeikaa
