/- DERIVED. Chapter 5: Row, of the program and of the reference. -/
import Derived.Test.YtlpefbpamgeikaaDrawB
import Derived.Test.YtlpefbpamgeikaaSame
namespace Go.Proofs.Ytlpefbpamgeikaa
open Go.RowKit

def okW (l : List Int) : Prop := ∀ x ∈ l, 0 ≤ x ∧ x ≤ 18446744073709551615
theorem okW.at {l : List Int} (h : okW l) {k : Nat} {x : Int} (hx : l[k]? = some x) : 0 ≤ x ∧ x ≤ 18446744073709551615 := h x (List.mem_of_getElem? hx)

set_option maxHeartbeats 400000 in
theorem row_any (v : Value) (l : List Int) (lv : Int) (w : World) (hl : Rd encW w v l) (hok : okW l) (hlen : l.length ≤ 500) (hlv : lv ≤ 9223372036854775807) :
    Calls Try.prog 11 #[v, .int .i64 lv] w fun e w' => ∃ v', e = .returned v' ∧ Own encI 3 w' v' (l.map fun n => ht n lv) ∧ Fr [] w w' := by
  obtain ⟨b, o, hl⟩ := hl
  have l1 := lenW hl
  go_enter Try.func11, Try.ntmps11
  go_wp2_with (at_make; refine wpList_mk encI slI rfl _ _ rfl l.length (0 : Int) rfl rfl (by omega) zI rfl ?_; intro w1 hown hf hlt)
  obtain ⟨g, hg⟩ : ∃ g, w.heap.size = g := ⟨_, rfl⟩
  rw [hg] at hown hlt ⊢
  have HG := Lib.hid hg
  clear hg
  go_wp2
  go_loopw [13] (fun i wr => ∃ k : Nat, k ≤ l.length ∧ i = .int .i64 k ∧ Own encI 3 wr (.slice (some ⟨g, 0, none⟩) l.length l.length) ((l.take k).map (fun n => ht n lv) ++ List.replicate (l.length - k) 0) ∧ Fr [] w wr) (fun i _ => l.length - (intOf i).toNat)
  case atStart => exact ⟨0, by omega, rfl, by simpa using hown, hf⟩
  case round =>
    obtain ⟨k, hk, rfl, hown, hf⟩ := hrel
    by_cases hlt : k < l.length
    · obtain ⟨x, hx⟩ := at_of l hlt
      have i1 := idxW hl hlt
      have c1 := cellW (hl.keep0 hf) hx
      obtain ⟨⟨u, c2⟩, f2⟩ := hown.slot rfl (k := k) (by simp; omega)
      have hxb := hok.at hx
      have HX := Lib.hid hx
      clear hx
      go_wp2_with (go_at_call 7; refine (height_any x lv _ hxb.1 hxb.2 hlv).mono ?_; rintro e w' ⟨rfl, rfl⟩)
      go_roundw
      case rel =>
        refine ⟨k + 1, by omega, by go_num, ?_, hf.setCell (.inr (by simp [HG.out])) _⟩
        have := hown.set1 rfl k (ht x lv) (.int .i64 (ht x lv)) rfl
        rw [set_fill _ _ _ (by simp; omega) hlt] at this
        rw [take_at HX.out, List.map_append]; exact this
      case measure => simp [intOf]; omega
    · go_wp2
      go_ret
      refine ⟨_, rfl, ?_, hf⟩
      have : k = l.length := by omega
      subst this
      simpa using hown

set_option maxHeartbeats 400000 in
theorem refRow_any (v : Value) (l : List Int) (lv : Int) (w : World) (hl : Rd encW w v l) (hok : okW l) (hlen : l.length ≤ 500) (hlv : lv ≤ 9223372036854775807) :
    Calls Try.prog 12 #[v, .int .i64 lv] w fun e w' => ∃ v', e = .returned v' ∧ Own encI 3 w' v' (l.map fun n => ht n lv) ∧ Fr [] w w' := by
  obtain ⟨b, o, hl⟩ := hl
  have l1 := lenW hl
  go_enter Try.func12, Try.ntmps12
  go_wp2
  go_loopw [5, 6] (fun u i wr => ∃ k : Nat, k ≤ l.length ∧ i = .int .i64 k ∧ Own encI 3 wr u ((l.take k).map (fun n => ht n lv)) ∧ Fr [] w wr ∧ New w.heap.size u) (fun _ i _ => l.length - (intOf i).toNat)
  case atStart => exact ⟨0, by omega, rfl, Own.nil _ _ _, Fr.refl _ _, New.nil _⟩
  case round =>
    obtain ⟨k, hk, rfl, hown, hf, hn⟩ := hrel
    by_cases hlt : k < l.length
    · obtain ⟨x, hx⟩ := at_of l hlt
      have i1 := idxW hl hlt
      have c1 := cellW (hl.keep0 hf) hx
      have hxb := hok.at hx
      have HX := Lib.hid hx
      clear hx
      go_wp2_with (first
        | (go_at_call 9; refine (refHeight_any x lv _ hxb.1 hxb.2 hlv).mono ?_; rintro e w' ⟨rfl, rfl⟩)
        | (at_builtin; refine wpList_app encI slI rfl _ _ rfl hown (ht x lv) rfl rfl (by simp; omega) ?_ rfl; intro v' w1 hown' hf1 hw1 _))
      go_roundw
      case rel =>
        refine ⟨k + 1, by omega, by go_num, ?_, hf.new hf1 hn, hn.step hf.size hw1⟩
        rw [take_at HX.out, List.map_append]; exact hown'
      case measure => simp [intOf]; omega
    · go_wp2
      go_ret
      refine ⟨_, rfl, ?_, hf⟩
      have : k = l.length := by omega
      subst this
      simpa using hown
end Go.Proofs.Ytlpefbpamgeikaa
