/- DERIVED. Chapter 5: Count, of the program and of the reference. -/
import Derived.Test.YtlpefbpamgeikaaDrawRow
namespace Go.Proofs.Ytlpefbpamgeikaa
open Go.RowKit

def cnt1 (l : List Int) (m j : Nat) : Int := ((l.filter fun x => ht x m == j + 1).length : Nat)
def cnts (l : List Int) (m : Nat) : List Int := (List.range m).map (cnt1 l m)
theorem cnt1_snoc (l : List Int) (x : Int) (m j : Nat) : cnt1 (l ++ [x]) m j = cnt1 l m j + if ht x m = j + 1 then 1 else 0 := by
  unfold cnt1; rw [List.filter_append]; by_cases h : ht x m = j + 1 <;> simp [h]
theorem cnt1_bd (l : List Int) (m j : Nat) : 0 ≤ cnt1 l m j ∧ cnt1 l m j ≤ l.length := by
  unfold cnt1; have := List.length_filter_le (fun x => ht x m == j + 1) l; omega
theorem cnts_len (l : List Int) (m : Nat) : (cnts l m).length = m := by simp [cnts]
theorem cnts_at (l : List Int) (m j : Nat) (h : j < m) : (cnts l m)[j]? = some (cnt1 l m j) := by simp [cnts, h]
theorem cnts_nil (m : Nat) : cnts [] m = List.replicate m 0 := by
  apply List.ext_getElem?; intro i
  by_cases h : i < m
  · rw [cnts_at _ _ _ h]; simp [h, cnt1]
  · rw [List.getElem?_eq_none (by rw [cnts_len]; omega), List.getElem?_eq_none (by simp; omega)]
theorem cnts_snoc (l : List Int) (x : Int) (m j : Nat) (hj : j < m) (hx : ht x m = j + 1) : cnts (l ++ [x]) m = (cnts l m).set j (cnt1 l m j + 1) := by
  apply List.ext_getElem?; intro i
  by_cases h : i < m
  · rw [cnts_at _ _ _ h, List.getElem?_set, cnt1_snoc, hx]
    by_cases e : j = i
    · subst e; simp [cnts_len, hj]
    · rw [if_neg e, cnts_at _ _ _ h, if_neg (by omega)]; simp
  · rw [List.getElem?_eq_none (by rw [cnts_len]; omega), List.getElem?_eq_none (by rw [List.length_set, cnts_len]; omega)]
theorem cnts_zero (l : List Int) : cnts l 0 = [] := rfl
theorem ht_zero (x : Int) (m : Int) (h : m ≤ 0) : ht x m = 0 := by unfold ht; rw [if_pos (by omega)]

set_option maxHeartbeats 1000000 in
theorem count_any (v : Value) (l : List Int) (lv : Int) (m : Nat) (w : World) (hm : (m : Int) = min (max lv 0) 64) (hl : Rd encW w v l) (hok : okW l) (hlen : l.length ≤ 500) (hlv : lv ≤ 9223372036854775807) :
    Calls Try.prog 13 #[v, .int .i64 lv] w fun e w' => ∃ v', e = .returned v' ∧ Own encI 3 w' v' (cnts l m) ∧ Fr [] w w' := by
  obtain ⟨b, o, hl⟩ := hl
  have l1 := lenW hl
  have HM := Lib.hid hm
  have hm64 : m ≤ 64 := by omega
  obtain ⟨M, hM, hM2⟩ : ∃ M : Int, (if lv < 0 then 0 else lv) = M ∧ (if 64 < M then 64 else M) = (m : Int) := ⟨_, rfl, by split <;> split <;> omega⟩
  clear hm
  go_enter Try.func13, Try.ntmps13
  go_wp2_with (at_make; refine wpList_mk encI slI rfl _ _ rfl m (0 : Int) rfl rfl (by omega) zI rfl ?_; intro w1 hown hf hlt)
  obtain ⟨g, hg⟩ : ∃ g, w.heap.size = g := ⟨_, rfl⟩
  rw [hg] at hown hlt ⊢
  have HG := Lib.hid hg
  clear hg hM hM2
  go_loopw [15] (fun i wr => ∃ k : Nat, k ≤ l.length ∧ i = .int .i64 k ∧ Own encI 3 wr (.slice (some ⟨g, 0, none⟩) m m) (cnts (l.take k) m) ∧ Fr [] w wr) (fun i _ => l.length - (intOf i).toNat)
  case atStart => exact ⟨0, by omega, rfl, by rw [List.take_zero, cnts_nil]; exact hown, hf⟩
  case round =>
    obtain ⟨k, hk, rfl, hown, hf⟩ := hrel
    by_cases hlt : k < l.length
    · obtain ⟨x, hx⟩ := at_of l hlt
      have i1 := idxW hl hlt
      have c1 := cellW (hl.keep0 hf) hx
      have hxb := hok.at hx
      have HX := Lib.hid hx
      clear hx
      by_cases hm0 : m = 0
      · have hz : Hid (ht x m = 0) := ht_zero x m (by omega)
        have HM0 := Lib.hid hm0
        clear hm0
        go_wp2_with (go_at_call 7; refine (height_any x m _ hxb.1 hxb.2 (by omega)).mono ?_; rintro e w' ⟨rfl, rfl⟩; rw [hz.out])
        go_roundw
        case rel =>
          refine ⟨k + 1, by omega, by go_num, ?_, hf⟩
          have := HM0.out
          subst this
          exact hown
        case measure => simp [intOf]; omega
      · obtain ⟨j, hj, hjm⟩ : ∃ j : Nat, ht x m = j + 1 ∧ j < m := ⟨(ht x m - 1).toNat, by have := ht_bd x m (by omega); omega, by have := ht_bd x m (by omega); omega⟩
        have HJ := Lib.hid hj
        obtain ⟨g2, hrd⟩ := hown.rd
        obtain rfl : g2 = g := by
          obtain ⟨ao, cap, hv, ha, _⟩ := hrd.val
          injection hv with e1 _ _
          have := ha (by intro h; have := cnts_len (l.take k) m; rw [h] at this; simp at this; omega)
          rw [this] at e1; injection e1 with e1; injection e1 with e1; exact e1.symm
        have c2 := cellI hrd (cnts_at (l.take k) m j hjm)
        simp only [Nat.zero_add] at c2
        have cb := cnt1_bd (l.take k) m j
        have hkl : (l.take k).length ≤ 500 := by simp; omega
        obtain ⟨c, hc⟩ : ∃ c, cnt1 (l.take k) m j = c := ⟨_, rfl⟩
        rw [hc] at c2 cb
        have HC := Lib.hid hc
        obtain ⟨_, f2⟩ := hown.slot rfl (k := j) (by rw [cnts_len]; exact hjm)
        clear hm0 hj hc hrd
        go_wp2_with (go_at_call 7; refine (height_any x m _ hxb.1 hxb.2 (by omega)).mono ?_; rintro e w' ⟨rfl, rfl⟩; rw [HJ.out])
        go_roundw
        case rel =>
          refine ⟨k + 1, by omega, by go_num, ?_, hf.setCell (.inr (by simp [HG.out])) _⟩
          rw [take_at HX.out, cnts_snoc _ _ _ j hjm HJ.out, HC.out]
          exact hown.set1 rfl j (c + 1) _ rfl
        case measure => simp [intOf]; omega
    · go_wp2
      go_ret
      refine ⟨_, rfl, ?_, hf⟩
      have : k = l.length := by omega
      subst this
      simpa using hown

set_option maxHeartbeats 1000000 in
theorem refCount_in (v : Value) (l : List Int) (m : Nat) (w : World) (hm : m ≤ 64) (hl : Rd encW w v l) (hok : okW l) (hlen : l.length ≤ 500) :
    Calls Try.prog 14 #[v, .int .i64 m] w fun e w' => ∃ v', e = .returned v' ∧ Own encI 3 w' v' (cnts l m) ∧ Fr [] w w' := by
  obtain ⟨b, o, hl⟩ := hl
  have l1 := lenW hl
  go_enter Try.func14, Try.ntmps14
  go_wp2
  go_loopw [5, 6] (fun u hh wr => ∃ (j : Nat) (N : Nat), N = m ∧ j ≤ N ∧ hh = .int .i64 (j + 1) ∧ Own encI 3 wr u ((List.range j).map (cnt1 l N)) ∧ Fr [] w wr ∧ New w.heap.size u) (fun _ hh _ => 66 - (intOf hh).toNat)
  case atStart => exact ⟨0, _, rfl, by omega, rfl, Own.nil _ _ _, Fr.refl _ _, New.nil _⟩
  case round =>
    obtain ⟨j, N, hN, hj, rfl, hown, hf, hn⟩ := hrel
    have hN64 : (N : Int) = (m : Int) := by omega
    have HN := Lib.hid hN
    have HN64 := Lib.hid hN64
    clear hN hN64
    have hNb : (N : Int) ≤ (m : Int) ∧ (m : Int) ≤ (N : Int) := by have := HN64.out; omega
    obtain ⟨wo, hwo⟩ : ∃ wo : World, wo = wr := ⟨_, rfl⟩
    subst hwo
    by_cases hjN : j < N
    · have hd : (j : Int) + 1 ≤ (m : Int) := by omega
      go_wp2
      go_loopw [7, 8] (fun n i wi => ∃ (k : Nat) (c : Int), k ≤ l.length ∧ i = .int .i64 k ∧ n = .int .i64 c ∧ 0 ≤ c ∧ c ≤ k ∧ Hid (c = cnt1 (l.take k) N j) ∧ Fr [] wo wi) (fun _ i _ => l.length - (intOf i).toNat)
      case atStart => exact ⟨0, 0, by omega, rfl, rfl, by omega, by omega, by simp [Hid, cnt1], Fr.refl _ _⟩
      case round =>
        obtain ⟨k, c, hk, rfl, rfl, hc0, hc1, hc, hfi⟩ := hrel
        by_cases hlt : k < l.length
        · obtain ⟨x, hx⟩ := at_of l hlt
          have i1 := idxW hl hlt
          have c1 := cellW (hl.keep0 (hf.trans0 hfi)) hx
          have hxb := hok.at hx
          have HX := Lib.hid hx
          clear hx
          by_cases hq : ht x (m : Int) = j + 1
          · have hq2 : (ht x (m : Int) == (j : Int) + 1) = true := by simp [hq]
            have HQ := Lib.hid hq
            clear hq
            go_wp2_with (go_at_call 9; refine (refHeight_any x _ _ hxb.1 hxb.2 (by omega)).mono ?_; rintro e w' ⟨rfl, rfl⟩)
            go_roundw
            case rel =>
              refine ⟨k + 1, c + 1, by omega, by go_num, by go_num, by omega, by omega, ?_, hfi⟩
              unfold Hid
              rw [take_at HX.out, cnt1_snoc, hc.out, if_pos (by rw [HN64.out]; exact HQ.out)]
            case measure => simp [intOf]; omega
          · have hq2 : (ht x (m : Int) == (j : Int) + 1) = false := by simp [hq]
            have HQ := Lib.hid hq
            clear hq
            go_wp2_with (go_at_call 9; refine (refHeight_any x _ _ hxb.1 hxb.2 (by omega)).mono ?_; rintro e w' ⟨rfl, rfl⟩)
            go_roundw
            case rel =>
              refine ⟨k + 1, c, by omega, by go_num, rfl, by omega, by omega, ?_, hfi⟩
              unfold Hid
              rw [take_at HX.out, cnt1_snoc, hc.out, if_neg (by rw [HN64.out]; exact HQ.out)]; omega
            case measure => simp [intOf]; omega
        · have hke : Hid (k = l.length) := by unfold Hid; omega
          have hown2 := hown.keep0 hfi
          go_wp2_with (at_builtin; refine wpList_app encI slI rfl _ _ rfl hown2 c rfl rfl (by simp; omega) ?_ rfl; intro v' w1 hown' hf1 hw1 _)
          go_roundw
          case rel =>
            refine ⟨j + 1, N, HN.out, by omega, by go_num, ?_, (hf.trans0 hfi).new hf1 hn, hn.step (Nat.le_trans hf.size hfi.size) hw1⟩
            rw [List.range_succ, List.map_append]
            have := hc.out
            rw [hke.out, List.take_length] at this
            rw [this] at hown'
            exact hown'
          case measure => simp [intOf]; omega
    · go_wp2
      go_ret
      refine ⟨_, rfl, ?_, hf⟩
      obtain rfl : j = N := by omega
      have := HN.out
      rw [this] at hown
      exact hown

set_option maxHeartbeats 1000000 in
theorem refCount_over (v : Value) (l : List Int) (lv : Int) (w : World) (hlv : 64 < lv) (hl : Rd encW w v l) (hok : okW l) (hlen : l.length ≤ 500) :
    Calls Try.prog 14 #[v, .int .i64 lv] w fun e w' => ∃ v', e = .returned v' ∧ Own encI 3 w' v' (cnts l 64) ∧ Fr [] w w' := by
  obtain ⟨b, o, hl⟩ := hl
  have l1 := lenW hl
  go_enter Try.func14, Try.ntmps14
  go_wp2
  go_loopw [5, 6] (fun u hh wr => ∃ (j : Nat) (N : Nat), N = 64 ∧ j ≤ N ∧ hh = .int .i64 (j + 1) ∧ Own encI 3 wr u ((List.range j).map (cnt1 l N)) ∧ Fr [] w wr ∧ New w.heap.size u) (fun _ hh _ => 66 - (intOf hh).toNat)
  case atStart => exact ⟨0, _, rfl, by omega, rfl, Own.nil _ _ _, Fr.refl _ _, New.nil _⟩
  case round =>
    obtain ⟨j, N, hN, hj, rfl, hown, hf, hn⟩ := hrel
    have hN64 : (N : Int) = (64 : Int) := by omega
    have HN := Lib.hid hN
    have HN64 := Lib.hid hN64
    clear hN hN64
    have hNb : (N : Int) ≤ (64 : Int) ∧ (64 : Int) ≤ (N : Int) := by have := HN64.out; omega
    obtain ⟨wo, hwo⟩ : ∃ wo : World, wo = wr := ⟨_, rfl⟩
    subst hwo
    by_cases hjN : j < N
    · have hd : (j : Int) + 1 ≤ (64 : Int) := by omega
      go_wp2
      go_loopw [7, 8] (fun n i wi => ∃ (k : Nat) (c : Int), k ≤ l.length ∧ i = .int .i64 k ∧ n = .int .i64 c ∧ 0 ≤ c ∧ c ≤ k ∧ Hid (c = cnt1 (l.take k) N j) ∧ Fr [] wo wi) (fun _ i _ => l.length - (intOf i).toNat)
      case atStart => exact ⟨0, 0, by omega, rfl, rfl, by omega, by omega, by simp [Hid, cnt1], Fr.refl _ _⟩
      case round =>
        obtain ⟨k, c, hk, rfl, rfl, hc0, hc1, hc, hfi⟩ := hrel
        by_cases hlt : k < l.length
        · obtain ⟨x, hx⟩ := at_of l hlt
          have i1 := idxW hl hlt
          have c1 := cellW (hl.keep0 (hf.trans0 hfi)) hx
          have hxb := hok.at hx
          have HX := Lib.hid hx
          clear hx
          by_cases hq : ht x (64 : Int) = j + 1
          · have hq2 : (ht x (64 : Int) == (j : Int) + 1) = true := by simp [hq]
            have HQ := Lib.hid hq
            clear hq
            go_wp2_with (go_at_call 9; refine (refHeight_any x _ _ hxb.1 hxb.2 (by omega)).mono ?_; rintro e w' ⟨rfl, rfl⟩)
            go_roundw
            case rel =>
              refine ⟨k + 1, c + 1, by omega, by go_num, by go_num, by omega, by omega, ?_, hfi⟩
              unfold Hid
              rw [take_at HX.out, cnt1_snoc, hc.out, if_pos (by rw [HN64.out]; exact HQ.out)]
            case measure => simp [intOf]; omega
          · have hq2 : (ht x (64 : Int) == (j : Int) + 1) = false := by simp [hq]
            have HQ := Lib.hid hq
            clear hq
            go_wp2_with (go_at_call 9; refine (refHeight_any x _ _ hxb.1 hxb.2 (by omega)).mono ?_; rintro e w' ⟨rfl, rfl⟩)
            go_roundw
            case rel =>
              refine ⟨k + 1, c, by omega, by go_num, rfl, by omega, by omega, ?_, hfi⟩
              unfold Hid
              rw [take_at HX.out, cnt1_snoc, hc.out, if_neg (by rw [HN64.out]; exact HQ.out)]; omega
            case measure => simp [intOf]; omega
        · have hke : Hid (k = l.length) := by unfold Hid; omega
          have hown2 := hown.keep0 hfi
          go_wp2_with (at_builtin; refine wpList_app encI slI rfl _ _ rfl hown2 c rfl rfl (by simp; omega) ?_ rfl; intro v' w1 hown' hf1 hw1 _)
          go_roundw
          case rel =>
            refine ⟨j + 1, N, HN.out, by omega, by go_num, ?_, (hf.trans0 hfi).new hf1 hn, hn.step (Nat.le_trans hf.size hfi.size) hw1⟩
            rw [List.range_succ, List.map_append]
            have := hc.out
            rw [hke.out, List.take_length] at this
            rw [this] at hown'
            exact hown'
          case measure => simp [intOf]; omega
    · go_wp2
      go_ret
      refine ⟨_, rfl, ?_, hf⟩
      obtain rfl : j = N := by omega
      have := HN.out
      rw [this] at hown
      exact hown

set_option maxHeartbeats 400000 in
theorem refCount_neg (v : Value) (l : List Int) (lv : Int) (w : World) (hlv : lv < 1) (hl : Rd encW w v l) :
    Calls Try.prog 14 #[v, .int .i64 lv] w fun e w' => ∃ v', e = .returned v' ∧ Own encI 3 w' v' (cnts l 0) ∧ Fr [] w w' := by
  obtain ⟨b, o, hl⟩ := hl
  have l1 := lenW hl
  go_enter Try.func14, Try.ntmps14
  go_wp2
  go_loopw [5, 6] (fun u hh wr => u = .slice none 0 0 ∧ hh = .int .i64 1 ∧ wr = w) (fun _ _ _ => 0)
  case atStart => exact ⟨rfl, rfl, rfl⟩
  case round =>
    obtain ⟨rfl, rfl, rfl⟩ := hrel
    go_wp2
    go_ret
    exact ⟨_, rfl, Own.nil _ _ _, Fr.refl _ _⟩

theorem refCount_any (v : Value) (l : List Int) (lv : Int) (m : Nat) (w : World) (hm : (m : Int) = min (max lv 0) 64) (hl : Rd encW w v l) (hok : okW l) (hlen : l.length ≤ 500) :
    Calls Try.prog 14 #[v, .int .i64 lv] w fun e w' => ∃ v', e = .returned v' ∧ Own encI 3 w' v' (cnts l m) ∧ Fr [] w w' := by
  by_cases h1 : lv < 1
  · obtain rfl : m = 0 := by omega
    exact refCount_neg v l lv w h1 hl
  · by_cases h2 : 64 < lv
    · obtain rfl : m = 64 := by omega
      exact refCount_over v l lv w h2 hl hok hlen
    · obtain rfl : lv = m := by omega
      exact refCount_in v l m w (by omega) hl hok hlen
end Go.Proofs.Ytlpefbpamgeikaa
