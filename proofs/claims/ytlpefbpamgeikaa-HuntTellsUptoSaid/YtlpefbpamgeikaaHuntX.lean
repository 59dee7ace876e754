/- DERIVED. Chapter 46: Linear with too many acts; the reference's Linear. -/
import Derived.Test.YtlpefbpamgeikaaHuntW
namespace Go.Proofs.Ytlpefbpamgeikaa
open Go.RowKit

theorem rep0 (n i : Nat) : (List.replicate n 0).getD i 0 = 0 := by simp [List.getD_eq_getElem?_getD, List.getElem?_replicate]; split <;> rfl
theorem zeroInt : (Try.prog.info? 3).map (fun i => i.zero) = some (some (.int .i64 0)) := by kernel_rfl
set_option maxHeartbeats 1000000 in
theorem linear_long (vl vt : Value) (l : List Rec) (w : World) (hl : Rd encRec w vl l) (hs : lens l ≤ 9223372036854775807) (hlen : l.length ≤ 100) (ha : ∀ r ∈ l, ∃ xs, Rd encAct w (.slice r.acts.a r.acts.n r.acts.c) xs) (h8 : 8 < lens l) :
    Calls Try.prog 25 #[vl, vt] w fun e w' => e = .returned (.tuple #[.bool false, .int .i64 10]) ∧ Fr [] w w' := by
  have AC := acts_any vl l w hl hs hlen ha
  obtain ⟨N, hN⟩ : ∃ N, lens l = N := ⟨_, rfl⟩
  rw [hN] at AC h8
  have AH := Lib.hid AC
  have d1 : decide ((8 : Int) < N) = true := by simp; omega
  have d2 : (8 : Int) < N := by omega
  clear AC hl ha hs hN
  go_enter Try.func25, Try.ntmps25
  go_wp2_with fail
  refine AH.out.mono ?_
  clear AH
  rintro e w1 ⟨rfl, f1⟩
  go_wp2
  go_ret2
  exact ⟨rfl, f1⟩
set_option maxHeartbeats 1000000 in
theorem refLinear_long (vl vt : Value) (l : List Rec) (w : World) (hl : Rd encRec w vl l) (hs : lens l ≤ 9223372036854775807) (hlen : l.length ≤ 100) (ha : ∀ r ∈ l, ∃ xs, Rd encAct w (.slice r.acts.a r.acts.n r.acts.c) xs) (h8 : 8 < lens l) :
    Calls Try.prog 26 #[vl, vt] w fun e w' => e = .returned (.tuple #[.bool false, .bool false]) ∧ Fr [] w w' := by
  have AC := refActs_any vl l w hl hs hlen ha
  obtain ⟨N, hN⟩ : ∃ N, lens l = N := ⟨_, rfl⟩
  rw [hN] at AC h8
  have AH := Lib.hid AC
  have d1 : decide ((8 : Int) < N) = true := by simp; omega
  have d2 : (8 : Int) < N := by omega
  clear AC hl ha hs hN
  go_enter Try.func26, Try.ntmps26
  go_wp2_with fail
  refine AH.out.mono ?_
  clear AH
  rintro e w1 ⟨rfl, f1⟩
  go_wp2
  go_ret2
  exact ⟨rfl, f1⟩
set_option maxRecDepth 20000 in
set_option maxHeartbeats 1000000 in
theorem refLinear_any (vl vt : Value) (l : List Rec) (A : Acts) (ts : List Int) (w : World) (hl : Rd encRec w vl l) (ht : Rd encI w vt ts) (ha : ∀ r ∈ l, Rd encAct w (.slice r.acts.a r.acts.n r.acts.c) (A r)) (hlen : l.length ≤ 100)
    (hfin : ∀ r ∈ l, okInt .i64 r.fin) (h8 : lens l ≤ 8) :
    Calls Try.prog 26 #[vl, vt] w fun e w' => e = .returned (.tuple #[.bool (srch (pos l) A ts (lens l) (List.replicate 8 0) (fun _ => none) (fun _ => none)), .bool true]) ∧ Fr [] w w' := by
  have AC := refActs_any vl l w hl (by omega) hlen (fun r hr => ⟨_, ha r hr⟩)
  obtain ⟨res, hres⟩ : ∃ res, srch (pos l) A ts (lens l) (List.replicate 8 0) (fun _ => none) (fun _ => none) = res := ⟨_, rfl⟩
  rw [hres]
  have hpl := pos_len l
  have h8r : ∀ r ∈ pos l, r.acts.n ≤ 8 := fun r hr => by have := lens_mem (pos_mem hr).1; omega
  obtain ⟨N, hN⟩ : ∃ N, lens l = N := ⟨_, rfl⟩
  rw [hN] at AC hres h8 hpl
  have AH := Lib.hid AC
  have HH := Lib.hid (And.intro hl (And.intro ht (And.intro ha (And.intro hfin (And.intro hres (And.intro hpl h8r))))))
  clear AC hl ht ha hfin hN hres hpl h8r
  go_enter Try.func26, Try.ntmps26
  go_wp2_with fail
  refine AH.out.mono ?_
  clear AH
  rintro e w1 ⟨rfl, f1⟩
  have SM := refSome_any vl l A w1 (HH.out.1.keep0 f1) hlen (fun r hr => (HH.out.2.2.1 r hr).keep0 f1)
  have SH := Lib.hid SM
  have HF := Lib.hid f1
  clear SM f1
  go_wp2_with fail
  refine SH.out.mono ?_
  clear SH
  rintro e w2 ⟨vx, rfl, f2, hx⟩
  have HX := Lib.hid hx
  obtain ⟨bx, ox, hx1⟩ := hx
  have l1 := lenR hx1
  obtain ⟨m, hm⟩ : ∃ m, (pos l).length = m := ⟨_, rfl⟩
  rw [hm] at l1
  have hm8 : m ≤ 8 := by have := HH.out.2.2.2.2.2.1; omega
  have HM := Lib.hid (And.intro hm (HF.out.trans0 f2))
  clear hx1 hm f2 HF
  go_wp2_with (at_make; refine wpList_mk encI slI rfl _ _ rfl m (0 : Int) rfl rfl (by omega) zeroInt rfl ?_; intro w3 hown f3 hlt)
  obtain ⟨hl, ht, ha, hfin, hres, hpl, h8r⟩ := HH.out
  obtain ⟨hm, f2⟩ := HM.out
  obtain ⟨gv, hgv⟩ := hown.rd
  have F3 := f2.trans0 f3
  have SE := search_all (pos l) A ts (by omega) h8r (fun r hr => hfin r (pos_mem hr).1) N (by omega) (List.replicate 8 0) (List.replicate m 0) (fun _ => none) (fun _ => none) [] vx vt _ (.slice none 0 0) w3
    ⟨HX.out.keep0 f3, ht.keep0 F3, fun r hr => (ha r (pos_mem hr).1).keep0 F3⟩ ⟨gv, 0, hgv⟩ ⟨by simp [hm], fun i hi => by
      rw [rep0 8 i, List.getElem?_replicate, if_pos (by omega)]; rfl⟩ (by simp; omega) ⟨0, 0, ⟨none, 0, rfl, by simp, by simp, by simp⟩, by simp, by simp⟩ (by simp; omega)
    (fun h => ⟨fun _ => ⟨rfl, rfl⟩, fun j t hf => by have := hf.at_; simp at this⟩)
  rw [hres] at SE
  refine SE.mono ?_
  rintro e w4 ⟨rfl, f4⟩
  have HZ := Lib.hid (F3.trans0 f4)
  clear hl ht ha hfin hres hpl h8r hm f2 hgv F3 SE f4 hown f3 hlt l1
  go_wp2
  go_ret2
  exact ⟨rfl, HZ.out⟩
end Go.Proofs.Ytlpefbpamgeikaa
