/- DERIVED. Chapter 50: the reference's Counts; ends, at, most. -/
import Derived.Test.YtlpefbpamgeikaaSpan
import Derived.Test.YtlpefbpamgeikaaDrawB
namespace Go.Proofs.Ytlpefbpamgeikaa
open Go.RowKit

set_option maxHeartbeats 1000000 in
theorem refCounts_any (v : Value) (l : List Rec) (s : Stp) (w : World) (hl : Rd encRec w v l) (hlen : l.length ≤ 100) :
    Calls Try.prog 17 #[v, .agg #[.int .i64 s.event, .int .i64 s.thread, .int .i64 s.kind, .int .i64 s.at_, .int .u64 s.a, .int .u64 s.b, .int .u64 s.by_, .int .u64 s.found, .int .u64 s.gen, .bool s.parked]] w fun e w' => e = .returned (.bool (cnt l s)) ∧ Fr [] w w' := by
  obtain ⟨b, o, hl⟩ := hl
  have l1 := lenR hl
  go_enter Try.func17, Try.ntmps17
  go_wp2
  obtain ⟨g, hg⟩ : ∃ g, w.heap.size = g := ⟨_, rfl⟩
  have HG := Lib.hid hg
  rw [hg]
  clear hg
  go_loopw [5, 6] (fun q i wr => ∃ k : Nat, k ≤ l.length ∧ i = .int .i64 k ∧ q = .int .i64 (kindF (l.take k) s) ∧ Fr [] (w.alloc (.cells #[.int .i64 s.event, .int .i64 s.thread, .int .i64 s.kind, .int .i64 s.at_, .int .u64 s.a, .int .u64 s.b, .int .u64 s.by_, .int .u64 s.found, .int .u64 s.gen, .bool s.parked] 39)) wr) (fun _ i _ => l.length - (intOf i).toNat)
  case atStart => exact ⟨0, by omega, rfl, rfl, Fr.refl _ _⟩
  case round =>
    obtain ⟨k, hk, rfl, rfl, hf⟩ := hrel
    have hgw : g < (w.alloc (.cells #[.int .i64 s.event, .int .i64 s.thread, .int .i64 s.kind, .int .i64 s.at_, .int .u64 s.a, .int .u64 s.b, .int .u64 s.by_, .int .u64 s.found, .int .u64 s.gen, .bool s.parked] 39)).heap.size := by have := HG.out; simp; omega
    have cs2 : ∀ j, wr.cell? ⟨g, j, none⟩ = #[.int .i64 s.event, .int .i64 s.thread, .int .i64 s.kind, .int .i64 s.at_, .int .u64 s.a, .int .u64 s.b, .int .u64 s.by_, .int .u64 s.found, .int .u64 s.gen, .bool s.parked][j]? := fun j => by rw [hf.cell hgw (by simp) j]; exact World.cell?_alloc_at _ _ _ _ HG.out.symm
    clear hgw
    have F := ((Fr.refl [] w).alloc (.cells #[.int .i64 s.event, .int .i64 s.thread, .int .i64 s.kind, .int .i64 s.at_, .int .u64 s.a, .int .u64 s.b, .int .u64 s.by_, .int .u64 s.found, .int .u64 s.gen, .bool s.parked] 39)).trans0 hf
    by_cases hlt : k < l.length
    · obtain ⟨r, hr⟩ := at_of l hlt
      have i1 := idxR hl hlt
      have c1 := recAt (hl.keep0 F) hr
      have HR := Lib.hid hr
      clear hr
      rcases bears_ways r s with ⟨q1, q⟩ | ⟨q1, q2, q⟩ | ⟨q1, q2, q3, q⟩ | ⟨q1, q2, q3, q4, q⟩ | ⟨q1, q2, q3, q4, q⟩
      · have Q := Lib.hid q
        clear q
        go_wp2
        go_quiet (fail)
        go_wp2
        go_roundw
        case rel => exact ⟨k + 1, by omega, by go_num, by rw [kindF_miss l s HR.out Q.out], hf.drewN _⟩
        case measure => simp [intOf]; omega
      · have Q := Lib.hid q
        have d2 : decide (r.beg < s.event) = false := by simp; omega
        clear q
        go_wp2
        go_quiet (fail)
        go_wp2
        go_roundw
        case rel => exact ⟨k + 1, by omega, by go_num, by rw [kindF_miss l s HR.out Q.out], hf.drewN _⟩
        case measure => simp [intOf]; omega
      · have Q := Lib.hid q
        rw [q3] at c1
        have d2 : decide (r.beg < s.event) = true := by simp; omega
        clear q q3
        go_wp2
        go_quiet (fail)
        go_wp2
        go_roundw
        case rel => exact ⟨k + 1, by omega, by go_num, by rw [kindF_hit l s HR.out Q.out], hf.drewN _⟩
        case measure => simp [intOf]; omega
      · have Q := Lib.hid q
        rw [q3] at c1
        have d2 : decide (r.beg < s.event) = true := by simp; omega
        have d3 : decide (s.event ≤ r.fin) = true := by simp; omega
        clear q q3
        go_wp2
        go_quiet (fail)
        go_wp2
        go_roundw
        case rel => exact ⟨k + 1, by omega, by go_num, by rw [kindF_hit l s HR.out Q.out], hf.drewN _⟩
        case measure => simp [intOf]; omega
      · have Q := Lib.hid q
        rw [q3] at c1
        have d2 : decide (r.beg < s.event) = true := by simp; omega
        have d3 : decide (s.event ≤ r.fin) = false := by simp; omega
        clear q q3
        go_wp2
        go_quiet (fail)
        go_wp2
        go_roundw
        case rel => exact ⟨k + 1, by omega, by go_num, by rw [kindF_miss l s HR.out Q.out], hf.drewN _⟩
        case measure => simp [intOf]; omega
    · have hke : Hid (k = l.length) := by unfold Hid; omega
      go_wp2
      go_ret
      refine ⟨ret_bool ?_, F⟩
      unfold cnt; rw [hke.out, List.take_length]

/-! ### ends -/
def endsIn (l : List Rec) (a b : Int) : Bool := l.any fun r => r.done && (decide (a ≤ r.fin) && decide (r.fin ≤ b))
theorem any_take_snoc {α : Type} (p : α → Bool) {l : List α} {k : Nat} {r : α} (hr : l[k]? = some r) (h : (l.take k).any p = false) (hp : p r = false) : (l.take (k + 1)).any p = false := by
  rw [take_at hr, List.any_append, h]; simp [hp]
theorem any_hit {α : Type} (p : α → Bool) {l : List α} {k : Nat} {r : α} (hr : l[k]? = some r) (hp : p r = true) : l.any p = true :=
  List.any_eq_true.2 ⟨r, List.mem_of_getElem? hr, hp⟩

set_option maxHeartbeats 1000000 in
theorem ends_any (v : Value) (l : List Rec) (a b : Int) (w : World) (hl : Rd encRec w v l) (hlen : l.length ≤ 100) :
    Calls Try.prog 31 #[v, .int .i64 a, .int .i64 b] w fun e w' => e = .returned (.bool (endsIn l a b)) ∧ Fr [] w w' := by
  obtain ⟨bb, o, hl⟩ := hl
  have l1 := lenR hl
  go_enter Try.func31, Try.ntmps31
  go_wp2
  go_loopw [11] (fun i wr => ∃ k : Nat, k ≤ l.length ∧ i = .int .i64 k ∧ Hid ((l.take k).any (fun r => r.done && (decide (a ≤ r.fin) && decide (r.fin ≤ b))) = false) ∧ Fr [] w wr) (fun i _ => l.length - (intOf i).toNat)
  case atStart => exact ⟨0, by omega, rfl, rfl, Fr.refl _ _⟩
  case round =>
    obtain ⟨k, hk, rfl, hh, hf⟩ := hrel
    by_cases hlt : k < l.length
    · obtain ⟨r, hr⟩ := at_of l hlt
      have i1 := idxR hl hlt
      have c1 := recAt (hl.keep0 hf) hr
      have HR := Lib.hid hr
      clear hr
      cases hd : r.done
      · have HD := Lib.hid hd
        rw [hd] at c1
        clear hd
        go_wp2
        go_roundw
        case rel => exact ⟨k + 1, by omega, by go_num, any_take_snoc _ HR.out hh.out (by simp [HD.out]), hf.alloc _⟩
        case measure => simp [intOf]; omega
      · have HD := Lib.hid hd
        rw [hd] at c1
        clear hd
        by_cases h1 : a ≤ r.fin
        · by_cases h2 : r.fin ≤ b
          · go_wp2
            go_ret
            exact ⟨ret_bool (any_hit _ HR.out (by simp [HD.out, h1, h2])).symm, hf.alloc _⟩
          · go_wp2
            go_roundw
            case rel => exact ⟨k + 1, by omega, by go_num, any_take_snoc _ HR.out hh.out (by simp; intro _ _; omega), hf.alloc _⟩
            case measure => simp [intOf]; omega
        · go_wp2
          go_roundw
          case rel => exact ⟨k + 1, by omega, by go_num, any_take_snoc _ HR.out hh.out (by simp; intro _ _; omega), hf.alloc _⟩
          case measure => simp [intOf]; omega
    · have hke : Hid (k = l.length) := by unfold Hid; omega
      go_wp2
      go_ret
      refine ⟨ret_bool ?_, hf⟩
      have := hh.out
      rw [hke.out, List.take_length] at this
      exact this.symm

def endsOut (l : List Rec) (a b : Int) : Bool := l.any fun r => r.done && (decide (a < r.fin) && decide (r.fin < b))
set_option maxHeartbeats 1000000 in
theorem refEnds_any (v : Value) (l : List Rec) (a b : Int) (w : World) (hl : Rd encRec w v l) (hlen : l.length ≤ 100) :
    Calls Try.prog 33 #[v, .int .i64 a, .int .i64 b] w fun e w' => e = .returned (.bool (endsOut l a b)) ∧ Fr [] w w' := by
  obtain ⟨bb, o, hl⟩ := hl
  have l1 := lenR hl
  go_enter Try.func33, Try.ntmps33
  go_wp2
  go_loopw [7] (fun i wr => ∃ k : Nat, k ≤ l.length ∧ i = .int .i64 k ∧ Hid ((l.take k).any (fun r => r.done && (decide (a < r.fin) && decide (r.fin < b))) = false) ∧ Fr [] w wr) (fun i _ => l.length - (intOf i).toNat)
  case atStart => exact ⟨0, by omega, rfl, rfl, Fr.refl _ _⟩
  case round =>
    obtain ⟨k, hk, rfl, hh, hf⟩ := hrel
    by_cases hlt : k < l.length
    · obtain ⟨r, hr⟩ := at_of l hlt
      have i1 := idxR hl hlt
      have c1 := recAt (hl.keep0 hf) hr
      have HR := Lib.hid hr
      clear hr
      cases hd : r.done
      · have HD := Lib.hid hd
        rw [hd] at c1
        clear hd
        go_wp2
        go_roundw
        case rel => exact ⟨k + 1, by omega, by go_num, any_take_snoc _ HR.out hh.out (by simp [HD.out]), hf⟩
        case measure => simp [intOf]; omega
      · have HD := Lib.hid hd
        rw [hd] at c1
        clear hd
        by_cases h1 : a < r.fin
        · by_cases h2 : r.fin < b
          · go_wp2
            go_ret
            exact ⟨ret_bool (any_hit _ HR.out (by simp [HD.out, h1, h2])).symm, hf⟩
          · go_wp2
            go_roundw
            case rel => exact ⟨k + 1, by omega, by go_num, any_take_snoc _ HR.out hh.out (by simp; intro _ _; omega), hf⟩
            case measure => simp [intOf]; omega
        · go_wp2
          go_roundw
          case rel => exact ⟨k + 1, by omega, by go_num, any_take_snoc _ HR.out hh.out (by simp; intro _ _; omega), hf⟩
          case measure => simp [intOf]; omega
    · have hke : Hid (k = l.length) := by unfold Hid; omega
      go_wp2
      go_ret
      refine ⟨ret_bool ?_, hf⟩
      have := hh.out
      rw [hke.out, List.take_length] at this
      exact this.symm

def endsAt (l : List Rec) (a : Int) : Bool := l.any fun r => r.done && (r.fin == a)
set_option maxHeartbeats 1000000 in
theorem refAt_any (v : Value) (l : List Rec) (a : Int) (w : World) (hl : Rd encRec w v l) (hlen : l.length ≤ 100) :
    Calls Try.prog 34 #[v, .int .i64 a] w fun e w' => e = .returned (.bool (endsAt l a)) ∧ Fr [] w w' := by
  obtain ⟨bb, o, hl⟩ := hl
  have l1 := lenR hl
  go_enter Try.func34, Try.ntmps34
  go_wp2
  go_loopw [5] (fun i wr => ∃ k : Nat, k ≤ l.length ∧ i = .int .i64 k ∧ Hid ((l.take k).any (fun r => r.done && (r.fin == a)) = false) ∧ Fr [] w wr) (fun i _ => l.length - (intOf i).toNat)
  case atStart => exact ⟨0, by omega, rfl, rfl, Fr.refl _ _⟩
  case round =>
    obtain ⟨k, hk, rfl, hh, hf⟩ := hrel
    by_cases hlt : k < l.length
    · obtain ⟨r, hr⟩ := at_of l hlt
      have i1 := idxR hl hlt
      have c1 := recAt (hl.keep0 hf) hr
      have HR := Lib.hid hr
      clear hr
      cases hd : r.done
      · have HD := Lib.hid hd
        rw [hd] at c1
        clear hd
        go_wp2
        go_roundw
        case rel => exact ⟨k + 1, by omega, by go_num, any_take_snoc _ HR.out hh.out (by simp [HD.out]), hf⟩
        case measure => simp [intOf]; omega
      · have HD := Lib.hid hd
        rw [hd] at c1
        clear hd
        cases h1 : (r.fin == a)
        · have H1 := Lib.hid h1
          go_wp2
          go_roundw
          case rel => exact ⟨k + 1, by omega, by go_num, any_take_snoc _ HR.out hh.out (by simp only [H1.out, Bool.and_false]), hf⟩
          case measure => simp [intOf]; omega
        · have H1 := Lib.hid h1
          go_wp2
          go_ret
          exact ⟨ret_bool (any_hit _ HR.out (by simp only [HD.out, H1.out, Bool.and_true])).symm, hf⟩
    · have hke : Hid (k = l.length) := by unfold Hid; omega
      go_wp2
      go_ret
      refine ⟨ret_bool ?_, hf⟩
      have := hh.out
      rw [hke.out, List.take_length] at this
      exact this.symm

/-! ### most -/
theorem max_if (a b : Int) : (if a < b then b else a) = max a b := by split <;> omega
def maxF (xs : List Int) : Int := xs.foldl max 0
theorem maxF_snoc (xs : List Int) (x : Int) : maxF (xs ++ [x]) = max (maxF xs) x := by simp [maxF]
set_option maxHeartbeats 400000 in
theorem most_any (v : Value) (l : List Int) (w : World) (hl : Rd encI w v l) :
    Calls Try.prog 32 #[v] w fun e w' => e = .returned (.int .i64 (maxF l)) ∧ Fr [] w w' := by
  have hb := hl.len_le
  obtain ⟨bb, o, hl⟩ := hl
  have l1 := lenI hl
  go_enter Try.func32, Try.ntmps32
  go_wp2
  go_loopw [3, 8] (fun n i wr => ∃ k : Nat, k ≤ l.length ∧ i = .int .i64 k ∧ n = .int .i64 (maxF (l.take k)) ∧ Fr [] w wr) (fun _ i _ => l.length - (intOf i).toNat)
  case atStart => exact ⟨0, by omega, rfl, rfl, Fr.refl _ _⟩
  case round =>
    obtain ⟨k, hk, rfl, rfl, hf⟩ := hrel
    by_cases hlt : k < l.length
    · obtain ⟨x, hx⟩ := at_of l hlt
      have i1 := idxI hl hlt
      have c1 := cellI (hl.keep0 hf) hx
      have HX := Lib.hid hx
      obtain ⟨n, hn⟩ : ∃ n, maxF (l.take k) = n := ⟨_, rfl⟩
      rw [hn]
      have HN := Lib.hid hn
      clear hx hn
      by_cases h1 : n < x
      · go_wp2
        go_roundw
        case rel => exact ⟨k + 1, by omega, by go_num, by rw [take_at HX.out, maxF_snoc, HN.out, Int.max_eq_right (by omega)], hf⟩
        case measure => simp [intOf]; omega
      · go_wp2
        go_roundw
        case rel => exact ⟨k + 1, by omega, by go_num, by rw [take_at HX.out, maxF_snoc, HN.out, Int.max_eq_left (by omega)], hf⟩
        case measure => simp [intOf]; omega
    · have hke : Hid (k = l.length) := by unfold Hid; omega
      go_wp2
      go_ret
      exact ⟨ret_i64 (by rw [hke.out, List.take_length]), hf⟩
end Go.Proofs.Ytlpefbpamgeikaa
