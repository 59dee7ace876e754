/- DERIVED. Contracts on lists of ints: the reference's Same. -/
import Derived.Test.YtlpefbpamgeikaaRows
import Derived.Test.YtlpefbpamgeikaaLib
import Derived.RegionTactic
import Derived.ChangeAlike
import Derived.Deep.QuietTactic
import Derived.BigQuiet
namespace Go.Proofs.Ytlpefbpamgeikaa
open Go.RowKit

theorem slI : SlTy Try.prog 28 3 encI := SlTy.mk' (.int .i64 0) 8 Try.underlying28 (by kernel_rfl) rfl (by decide)
theorem slW : SlTy Try.prog 26 22 encW := SlTy.mk' (.int .u64 0) 8 Try.underlying26 (by kernel_rfl) rfl (by decide)

theorem zI : (Try.prog.info? 3).map (fun i => i.zero) = some (some (.int .i64 0)) := by kernel_rfl

theorem ret_bool {a b : Bool} (h : a = b) : Ending.returned (.bool a) = .returned (.bool b) := by rw [h]

theorem cellI {w : World} {v : Value} {xs : List Int} {b off : Nat} (h : RdAt encI w v xs b off) {k : Nat} {x : Int} (hx : xs[k]? = some x) : w.cell? ⟨b, off + k, none⟩ = some (.int .i64 x) := by
  have := h.cell k x hx 0 (by decide); simpa [encI] using this
theorem cellW {w : World} {v : Value} {xs : List Int} {b off : Nat} (h : RdAt encW w v xs b off) {k : Nat} {x : Int} (hx : xs[k]? = some x) : w.cell? ⟨b, off + k, none⟩ = some (.int .u64 x) := by
  have := h.cell k x hx 0 (by decide); simpa [encW] using this
theorem idxI {w : World} {v : Value} {xs : List Int} {b off : Nat} (h : RdAt encI w v xs b off) {k : Nat} (hk : k < xs.length) (W : World) :
    Sem.run Try.prog (Instr.indexAt 28 v (.int .i64 k)) W = .ok (.pointer (some ⟨b, off + k, none⟩)) W := by
  have := h.idx slI k hk W; simpa [encI] using this
theorem idxW {w : World} {v : Value} {xs : List Int} {b off : Nat} (h : RdAt encW w v xs b off) {k : Nat} (hk : k < xs.length) (W : World) :
    Sem.run Try.prog (Instr.indexAt 26 v (.int .i64 k)) W = .ok (.pointer (some ⟨b, off + k, none⟩)) W := by
  have := h.idx slW k hk W; simpa [encW] using this
theorem lenI {w : World} {v : Value} {xs : List Int} {b off : Nat} (h : RdAt encI w v xs b off) (ty : TypeId) (W : World) :
    Sem.run Try.prog (Builtin.len_ #[28] ty #[v]) W = .ok (.int .i64 xs.length) W := h.len _ _ Try.underlying28 W
theorem lenW {w : World} {v : Value} {xs : List Int} {b off : Nat} (h : RdAt encW w v xs b off) (ty : TypeId) (W : World) :
    Sem.run Try.prog (Builtin.len_ #[26] ty #[v]) W = .ok (.int .i64 xs.length) W := h.len _ _ Try.underlying26 W

theorem eq_of_take {α : Type} {xs ys : List α} (hl : xs.length = ys.length) {k : Nat} (hk : xs.length ≤ k) (h : xs.take k = ys.take k) : xs = ys := by
  rwa [List.take_of_length_le hk, List.take_of_length_le (hl ▸ hk)] at h
theorem ne_of_at {α : Type} {xs ys : List α} {k : Nat} {x y : α} (hx : xs[k]? = some x) (hy : ys[k]? = some y) (h : x ≠ y) : xs ≠ ys := by
  rintro rfl; rw [hx] at hy; exact h (by injection hy)

set_option maxHeartbeats 400000 in
theorem same_any (va vb : Value) (xs ys : List Int) (w : World) (ha : Rd encI w va xs) (hb : Rd encI w vb ys) :
    Calls Try.prog 10 #[va, vb] w fun e w' => e = .returned (.bool (decide (xs = ys))) ∧ Fr [] w w' := by
  obtain ⟨b1, o1, ha⟩ := ha
  obtain ⟨b2, o2, hb⟩ := hb
  have l1 := lenI ha
  have l2 := lenI hb
  have m1 := Rd.len_le ⟨_, _, ha⟩
  by_cases hl : xs.length = ys.length
  · have hl2 : ((xs.length : Int) != (ys.length : Int)) = false := by simp [hl]
    have HL := Lib.hid hl
    clear hl
    go_enter Try.func10, Try.ntmps10
    go_wp2
    go_loopw [5] (fun i wr => ∃ k : Nat, k ≤ xs.length ∧ i = .int .i64 k ∧ Hid (xs.take k = ys.take k) ∧ Fr [] w wr) (fun i _ => xs.length - (intOf i).toNat)
    case atStart => exact ⟨0, by omega, rfl, by simp [Hid], Fr.refl _ _⟩
    case round =>
      obtain ⟨k, hk, rfl, ht, hf⟩ := hrel
      by_cases hlt : k < xs.length
      · obtain ⟨x, hx⟩ := at_of xs hlt
        obtain ⟨y, hy⟩ := at_of ys (show k < ys.length by rw [← HL.out]; exact hlt)
        have i1 := idxI ha hlt
        have i2 := idxI hb (show k < ys.length by rw [← HL.out]; exact hlt)
        have c1 := cellI (ha.keep0 hf) hx
        have c2 := cellI (hb.keep0 hf) hy
        have HX := Lib.hid hx
        have HY := Lib.hid hy
        clear hx hy
        by_cases hxy : x = y
        · have e1 : (x != y) = false := by simp [hxy]
          have HE := Lib.hid hxy
          clear hxy
          go_wp2
          go_quiet (fail)
          go_wp2
          go_roundw
          case rel => exact ⟨k + 1, by omega, by go_num, by unfold Hid; rw [take_at HX.out, take_at HY.out, ht.out, HE.out], hf.drewN _⟩
          case measure => simp [intOf]; omega
        · have e1 : (x != y) = true := by simp [hxy]
          have HE := Lib.hid hxy
          clear hxy
          go_wp2
          go_quiet (fail)
          go_wp2
          go_ret
          exact ⟨ret_bool (by simp [ne_of_at HX.out HY.out HE.out]), hf.drewN _⟩
      · go_wp2
        go_ret
        exact ⟨ret_bool (by simp [eq_of_take HL.out (by omega) ht.out]), hf⟩
  · have hl2 : ((xs.length : Int) != (ys.length : Int)) = true := by simp; omega
    have HL := Lib.hid hl
    clear hl
    go_enter Try.func10, Try.ntmps10
    go_wp2
    go_ret
    exact ⟨ret_bool (by symm; simp; intro h; exact HL.out (by rw [h])), Fr.refl _ _⟩
end Go.Proofs.Ytlpefbpamgeikaa
