/- DERIVED. Chapter 46: awake. -/
import Derived.Test.YtlpefbpamgeikaaHuntX
namespace Go.Proofs.Ytlpefbpamgeikaa
open Go.RowKit

def aS : ActR := ⟨1, 5, 1, 0⟩
def aT : ActR := ⟨2, 5, 1, 0⟩
def rS (b : Nat) (beg : Int) : Rec := ⟨0, ⟨0, 0, 0, 0, 0⟩, beg, 4, true, 0, false, 0, ⟨none, 0, 0⟩, ⟨some ⟨b, 0, none⟩, 1, 1⟩⟩
def rT (b : Nat) : Rec := ⟨0, ⟨0, 0, 0, 0, 0⟩, 1, 2, true, 0, false, 0, ⟨none, 0, 0⟩, ⟨some ⟨b, 0, none⟩, 1, 1⟩⟩
def A46 : Acts := fun r => if r.fin = 2 then [aT] else [aS]

theorem pos46 (b b' : Nat) (g : Int) : pos [rT b', rS b g] = [rT b', rS b g] := by simp [pos, rT, rS]
theorem lens46 (b b' : Nat) (g : Int) : lens [rT b', rS b g] = 2 := by simp [lens, rT, rS]
theorem at46 {b b' : Nat} {g : Int} {k : Nat} {r : Rec} (h : [rT b', rS b g][k]? = some r) : (k = 0 ∧ r = rT b') ∨ (k = 1 ∧ r = rS b g) := by
  rcases k with _ | _ | k
  · simp at h; exact .inl ⟨rfl, h.symm⟩
  · simp at h; exact .inr ⟨rfl, h.symm⟩
  · simp at h
theorem no46 (b b' : Nat) (ts : List Int) : srch [rT b', rS b 3] A46 ts 2 (List.replicate 8 0) (fun _ => none) (fun _ => none) = false := by
  refine srch_no fun k r a hs => ?_
  exfalso
  rcases at46 hs.rcd with ⟨rfl, rfl⟩ | ⟨rfl, rfl⟩
  · have h1 := hs.act
    rw [rep0] at h1
    simp [A46, rT] at h1
    subst h1
    have h2 := hs.legal
    simp [legalB, aT] at h2
  · refine hs.may.2 0 (rT b') rfl ⟨by simp, rfl, by simp [rT, rS], ?_⟩
    rw [rep0]; simp [rT]
theorem yes46 (b b' : Nat) : srch [rT b', rS b 1] A46 [1, 1, 1, 1] 2 (List.replicate 8 0) (fun _ => none) (fun _ => none) = true := by
  refine srch_yes (k := 1) (r := rS b 1) (a := aS) ⟨rfl, ⟨by rw [rep0]; simp [rS], ?_⟩, by rw [rep0]; simp [A46, rS], by simp [legalB, aS]⟩ ?_
  · rintro i q hq ⟨h1, h2, h3, h4⟩
    rcases at46 hq with ⟨rfl, rfl⟩ | ⟨rfl, rfl⟩
    · simp [rT, rS] at h3
    · exact h1 rfl
  · have e1 : bump (List.replicate 8 0) 1 = [0, 1, 0, 0, 0, 0, 0, 0] := rfl
    rw [e1]
    refine srch_yes (k := 0) (r := rT b') (a := aT) ⟨rfl, ⟨by simp [rT], ?_⟩, by simp [A46, rT], by simp [legalB, aT, aS, doM, upd, timeV, rT]⟩ rfl
    rintro i q hq ⟨h1, h2, h3, h4⟩
    rcases at46 hq with ⟨rfl, rfl⟩ | ⟨rfl, rfl⟩
    · exact h1 rfl
    · simp [rS] at h4

theorem newAct (w : World) (a : ActR) : Rd encAct (w.alloc (.cells #[.int .i64 a.kind, .int .u64 a.handle, .int .i64 a.deadline, .int .i64 a.step] 65)) (.slice (some ⟨w.heap.size, 0, none⟩) 1 1) [a] := by
  have h : Own encAct 65 (w.alloc (.cells #[.int .i64 a.kind, .int .u64 a.handle, .int .i64 a.deadline, .int .i64 a.step] 65)) (.slice (some ⟨w.heap.size, 0, none⟩) 1 1) [a] := Own.lit (xs := [a]) (heap_alloc_new w _) rfl (by simp [maxLen])
  obtain ⟨g, h⟩ := h.rd; exact ⟨g, 0, h⟩
abbrev csS (b : Nat) (beg : Int) : Array Value := #[.int .i64 0, .int .i64 0, .int .i64 0, .int .u64 0, .int .u64 0, .int .i64 0, .int .i64 beg, .int .i64 4, .bool true, .int .i64 0, .bool false, .int .u64 0, .slice none 0 0, .slice (some ⟨b, 0, none⟩) 1 1]
abbrev csT (b : Nat) : Array Value := #[.int .i64 0, .int .i64 0, .int .i64 0, .int .u64 0, .int .u64 0, .int .i64 0, .int .i64 1, .int .i64 2, .bool true, .int .i64 0, .bool false, .int .u64 0, .slice none 0 0, .slice (some ⟨b, 0, none⟩) 1 1]
theorem newRecs (w : World) (b b' : Nat) (beg : Int) : Rd encRec (w.alloc (.cells #[.int .i64 0, .int .i64 0, .int .i64 0, .int .u64 0, .int .u64 0, .int .i64 0, .int .i64 1, .int .i64 2, .bool true, .int .i64 0, .bool false, .int .u64 0, .slice none 0 0, .slice (some ⟨b', 0, none⟩) 1 1,
    .int .i64 0, .int .i64 0, .int .i64 0, .int .u64 0, .int .u64 0, .int .i64 0, .int .i64 beg, .int .i64 4, .bool true, .int .i64 0, .bool false, .int .u64 0, .slice none 0 0, .slice (some ⟨b, 0, none⟩) 1 1] 52)) (.slice (some ⟨w.heap.size, 0, none⟩) 2 2) [rT b', rS b beg] := by
  have h : Own encRec 52 (w.alloc (.cells #[.int .i64 0, .int .i64 0, .int .i64 0, .int .u64 0, .int .u64 0, .int .i64 0, .int .i64 1, .int .i64 2, .bool true, .int .i64 0, .bool false, .int .u64 0, .slice none 0 0, .slice (some ⟨b', 0, none⟩) 1 1,
    .int .i64 0, .int .i64 0, .int .i64 0, .int .u64 0, .int .u64 0, .int .i64 0, .int .i64 beg, .int .i64 4, .bool true, .int .i64 0, .bool false, .int .u64 0, .slice none 0 0, .slice (some ⟨b, 0, none⟩) 1 1] 52)) (.slice (some ⟨w.heap.size, 0, none⟩) 2 2) [rT b', rS b beg] := Own.lit (xs := [rT b', rS b beg]) (heap_alloc_new w _) rfl (by simp [maxLen])
  obtain ⟨g, h⟩ := h.rd; exact ⟨g, 0, h⟩
/-- what awake has made -/
structure Made (W : World) (b : Nat) (beg : Int) : Prop where
  aS : Rd encAct W (.slice (some ⟨b, 0, none⟩) 1 1) [aS]
  aT : Rd encAct W (.slice (some ⟨b + 2, 0, none⟩) 1 1) [aT]
  ts : Rd encI W (.slice (some ⟨b + 4, 0, none⟩) 4 4) [1, 1, 1, 1]
  rS : Box W (b + 1) (csS b beg)
  rT : Box W (b + 3) (csT (b + 2))
  fz : W.frozen? ⟨b + 1, 6, none⟩ = false
theorem Made.keep0 {W W' : World} {b : Nat} {beg : Int} (h : Made W b beg) (hf : Fr [] W W') : Made W' b beg :=
  ⟨h.aS.keep0 hf, h.aT.keep0 hf, h.ts.keep0 hf, h.rS.keep0 hf, h.rT.keep0 hf, (hf.frozen h.rS.lt (by simp) 6).trans h.fz⟩
theorem Made.set {W : World} {b : Nat} {beg : Int} (h : Made W b beg) (beg' : Int) : Made (W.setCell ⟨b + 1, 6, none⟩ (.int .i64 beg')) b beg' := by
  have hf : Fr [b + 1] W (W.setCell ⟨b + 1, 6, none⟩ (.int .i64 beg')) := (Fr.refl _ _).setCell (.inl (by simp)) _
  exact ⟨h.aS.keep hf (by simp [sblk]), h.aT.keep hf (by simp [sblk]), h.ts.keep hf (by simp [sblk]), h.rS.set (i := 6) (by simp) (.int .i64 beg'), h.rT.keep hf (by simp), by simpa using h.fz⟩
theorem made46 (w : World) : Made (((((w.alloc (.cells #[.int .i64 1, .int .u64 5, .int .i64 1, .int .i64 0] 65)).alloc (.cells (csS w.heap.size 3) 52)).alloc (.cells #[.int .i64 2, .int .u64 5, .int .i64 1, .int .i64 0] 65)).alloc (.cells (csT (w.heap.size + 2)) 52)).alloc
    (.cells #[.int .i64 1, .int .i64 1, .int .i64 1, .int .i64 1] 3)) w.heap.size 3 := by
  have h1 := newAct w aS
  have h2 := Box.new (w.alloc (.cells #[.int .i64 1, .int .u64 5, .int .i64 1, .int .i64 0] 65)) (csS w.heap.size 3) 52
  have h3 := newAct ((w.alloc (.cells #[.int .i64 1, .int .u64 5, .int .i64 1, .int .i64 0] 65)).alloc (.cells (csS w.heap.size 3) 52)) aT
  have h4 := Box.new (((w.alloc (.cells #[.int .i64 1, .int .u64 5, .int .i64 1, .int .i64 0] 65)).alloc (.cells (csS w.heap.size 3) 52)).alloc (.cells #[.int .i64 2, .int .u64 5, .int .i64 1, .int .i64 0] 65)) (csT (w.heap.size + 2)) 52
  have fz := World.frozen?_alloc_new (w.alloc (.cells #[.int .i64 1, .int .u64 5, .int .i64 1, .int .i64 0] 65)) (csS w.heap.size 3) 52 6
  have e1 : (w.alloc (.cells #[.int .i64 1, .int .u64 5, .int .i64 1, .int .i64 0] 65)).heap.size = w.heap.size + 1 := by simp
  have e2 : ((w.alloc (.cells #[.int .i64 1, .int .u64 5, .int .i64 1, .int .i64 0] 65)).alloc (.cells (csS w.heap.size 3) 52)).heap.size = w.heap.size + 2 := by simp
  have e3 : (((w.alloc (.cells #[.int .i64 1, .int .u64 5, .int .i64 1, .int .i64 0] 65)).alloc (.cells (csS w.heap.size 3) 52)).alloc (.cells #[.int .i64 2, .int .u64 5, .int .i64 1, .int .i64 0] 65)).heap.size = w.heap.size + 3 := by simp
  rw [e1] at h2 fz
  rw [e2] at h3
  rw [e3] at h4
  have F1 := (Fr.refl [] (w.alloc (.cells #[.int .i64 1, .int .u64 5, .int .i64 1, .int .i64 0] 65))).alloc (.cells (csS w.heap.size 3) 52)
  have F2 := (Fr.refl [] ((w.alloc (.cells #[.int .i64 1, .int .u64 5, .int .i64 1, .int .i64 0] 65)).alloc (.cells (csS w.heap.size 3) 52))).alloc (.cells #[.int .i64 2, .int .u64 5, .int .i64 1, .int .i64 0] 65)
  have F3 := (Fr.refl [] (((w.alloc (.cells #[.int .i64 1, .int .u64 5, .int .i64 1, .int .i64 0] 65)).alloc (.cells (csS w.heap.size 3) 52)).alloc (.cells #[.int .i64 2, .int .u64 5, .int .i64 1, .int .i64 0] 65))).alloc (.cells (csT (w.heap.size + 2)) 52)
  have e4 : ((((w.alloc (.cells #[.int .i64 1, .int .u64 5, .int .i64 1, .int .i64 0] 65)).alloc (.cells (csS w.heap.size 3) 52)).alloc (.cells #[.int .i64 2, .int .u64 5, .int .i64 1, .int .i64 0] 65)).alloc (.cells (csT (w.heap.size + 2)) 52)).heap.size = w.heap.size + 4 := by simp
  have g1 := ((h1.keep0 F1).keep0 F2).keep0 F3
  have g2 := (h2.keep0 F2).keep0 F3
  have g3 := h3.keep0 F3
  have gz := ((F2.trans0 F3).frozen h2.lt (by simp) 6).trans fz
  clear h1 h2 h3 fz F1 F2 F3 e1 e2 e3
  obtain ⟨u, hu⟩ : ∃ u, (((w.alloc (.cells #[.int .i64 1, .int .u64 5, .int .i64 1, .int .i64 0] 65)).alloc (.cells (csS w.heap.size 3) 52)).alloc (.cells #[.int .i64 2, .int .u64 5, .int .i64 1, .int .i64 0] 65)).alloc (.cells (csT (w.heap.size + 2)) 52) = u := ⟨_, rfl⟩
  rw [hu] at e4 h4
  have F4 := (Fr.refl [] u).alloc (.cells #[.int .i64 1, .int .i64 1, .int .i64 1, .int .i64 1] 3)
  have ht : Own encI 3 (u.alloc (.cells #[.int .i64 1, .int .i64 1, .int .i64 1, .int .i64 1] 3)) (.slice (some ⟨u.heap.size, 0, none⟩) 4 4) [1, 1, 1, 1] := Own.lit (xs := [1, 1, 1, 1]) (heap_alloc_new u _) rfl (by simp [maxLen])
  obtain ⟨gt, ht⟩ := ht.rd
  rw [e4] at ht
  rw [hu]
  have g1 : Rd encAct u (.slice (some ⟨w.heap.size, 0, none⟩) 1 1) [aS] := by rw [← hu]; exact g1
  have g2 : Box u (w.heap.size + 1) (csS w.heap.size 3) := by rw [← hu]; exact g2
  have g3 : Rd encAct u (.slice (some ⟨w.heap.size + 2, 0, none⟩) 1 1) [aT] := by rw [← hu]; exact g3
  have gz : u.frozen? ⟨w.heap.size + 1, 6, none⟩ = false := by rw [← hu]; exact gz
  exact ⟨g1.keep0 F4, g3.keep0 F4, ⟨gt, 0, ht⟩, g2.keep0 F4, h4.keep0 F4, (F4.frozen g2.lt (by simp) 6).trans gz⟩

theorem lin46 (b : Nat) (beg : Int) (W : World) (v : Value) (h : Made W b beg) (hl : Rd encRec W v [rT (b + 2), rS b beg]) (res : Bool) (hres : srch [rT (b + 2), rS b beg] A46 [1, 1, 1, 1] 2 (List.replicate 8 0) (fun _ => none) (fun _ => none) = res) :
    Calls Try.prog 25 #[v, .slice (some ⟨b + 4, 0, none⟩) 4 4] W fun e w' => e = .returned (.tuple #[.bool res, .int .i64 0]) ∧ Fr [] W w' := by
  have hA : ∀ r ∈ [rT (b + 2), rS b beg], Rd encAct W (.slice r.acts.a r.acts.n r.acts.c) (A46 r) := by
    intro r hr
    simp only [List.mem_cons, List.not_mem_nil, or_false] at hr
    rcases hr with rfl | rfl
    · exact h.aT
    · exact h.aS
  have := linear_any v _ [rT (b + 2), rS b beg] A46 [1, 1, 1, 1] W hl h.ts hA (by simp) (by
      intro r hr
      simp only [List.mem_cons, List.not_mem_nil, or_false] at hr
      rcases hr with rfl | rfl
      · exact (show (Lit.int .i64 2).wf = true by kernel_rfl)
      · exact (show (Lit.int .i64 4).wf = true by kernel_rfl)) (by
      intro r hr a ha
      have : a.handle = 5 := by
        simp only [A46] at ha
        split at ha <;> simp at ha <;> subst ha <;> rfl
      rw [this]; exact (show (Lit.int .u64 5).wf = true by kernel_rfl)) (by rw [lens46]; omega)
  rw [pos46, lens46, hres] at this
  exact this
theorem acts46 (b : Nat) (beg : Int) (W : World) (v : Value) (h : Made W b beg) (hl : Rd encRec W v [rT (b + 2), rS b beg]) :
    Calls Try.prog 27 #[v] W fun e w' => e = .returned (.int .i64 2) ∧ Fr [] W w' := by
  have := acts_any v [rT (b + 2), rS b beg] W hl (by rw [lens46]; omega) (by simp) (by
    intro r hr
    simp only [List.mem_cons, List.not_mem_nil, or_false] at hr
    rcases hr with rfl | rfl
    · exact ⟨_, h.aT⟩
    · exact ⟨_, h.aS⟩)
  rw [lens46] at this
  exact this

set_option maxRecDepth 20000 in
set_option maxHeartbeats 1000000 in
theorem awake46 (w : World) : Calls Try.prog 22 #[] w fun e w' => e = .returned (.bool true) ∧ Fr [] w w' := by
  go_enter Try.func22, Try.ntmps22
  go_upto_region 4 with (fail)
  rw [show w.heap.size + 1 + 1 + 1 + 1 = w.heap.size + 4 from rfl, show w.heap.size + 1 + 1 + 1 = w.heap.size + 3 from rfl, show w.heap.size + 1 + 1 = w.heap.size + 2 from rfl]
  have M := made46 w
  have F : Fr [] w (((((w.alloc (.cells #[.int .i64 1, .int .u64 5, .int .i64 1, .int .i64 0] 65)).alloc (.cells (csS w.heap.size 3) 52)).alloc (.cells #[.int .i64 2, .int .u64 5, .int .i64 1, .int .i64 0] 65)).alloc (.cells (csT (w.heap.size + 2)) 52)).alloc
    (.cells #[.int .i64 1, .int .i64 1, .int .i64 1, .int .i64 1] 3)) := (((((Fr.refl _ _).alloc _).alloc _).alloc _).alloc _).alloc _
  unfold csS csT at M F
  obtain ⟨W, hW⟩ : ∃ W, (((((w.alloc (.cells #[.int .i64 1, .int .u64 5, .int .i64 1, .int .i64 0] 65)).alloc (.cells #[.int .i64 0, .int .i64 0, .int .i64 0, .int .u64 0, .int .u64 0, .int .i64 0, .int .i64 3, .int .i64 4, .bool true, .int .i64 0, .bool false, .int .u64 0, .slice none 0 0, .slice (some ⟨w.heap.size, 0, none⟩) 1 1] 52)).alloc (.cells #[.int .i64 2, .int .u64 5, .int .i64 1, .int .i64 0] 65)).alloc (.cells #[.int .i64 0, .int .i64 0, .int .i64 0, .int .u64 0, .int .u64 0, .int .i64 0, .int .i64 1, .int .i64 2, .bool true, .int .i64 0, .bool false, .int .u64 0, .slice none 0 0, .slice (some ⟨w.heap.size + 2, 0, none⟩) 1 1] 52)).alloc
    (.cells #[.int .i64 1, .int .i64 1, .int .i64 1, .int .i64 1] 3)) = W := ⟨_, rfl⟩
  rw [hW] at M F ⊢
  clear hW
  have hb0 : w.heap.size ≤ w.heap.size := Nat.le_refl _
  obtain ⟨b, hb⟩ : ∃ b, w.heap.size = b := ⟨_, rfl⟩
  rw [hb] at M ⊢
  have HB := Lib.hid hb
  clear hb hb0
  have HF := Lib.hid F
  have HM := Lib.hid M
  have b1 := M.rS.cell
  have b2 := M.rT.cell
  clear M F
  go_wp2_with fail
  clear b1 b2
  have F1 : Fr [] W (W.alloc (.cells #[.int .i64 0, .int .i64 0, .int .i64 0, .int .u64 0, .int .u64 0, .int .i64 0, .int .i64 1, .int .i64 2, .bool true, .int .i64 0, .bool false, .int .u64 0, .slice none 0 0, .slice (some ⟨b + 2, 0, none⟩) 1 1, .int .i64 0, .int .i64 0, .int .i64 0, .int .u64 0, .int .u64 0, .int .i64 0, .int .i64 3, .int .i64 4, .bool true, .int .i64 0, .bool false, .int .u64 0, .slice none 0 0, .slice (some ⟨b, 0, none⟩) 1 1] 52)) := (Fr.refl _ _).alloc _
  refine (lin46 b 3 _ _ (HM.out.keep0 F1) (newRecs W b (b + 2) 3) false (no46 b (b + 2) _)).mono ?_
  rintro e w1 ⟨rfl, f1⟩
  have M1 := (HM.out.keep0 F1).keep0 f1
  have b1 := M1.rS.cell
  have b2 := M1.rT.cell
  have z1 := M1.fz
  have G1 := HF.out.trans0 (F1.trans0 f1)
  have HM1 := Lib.hid M1
  have HG1 := Lib.hid G1
  clear M1 F1 f1 G1 HF HM
  go_upto_region 6 with (fail)
  have M2 := HM1.out.set 1
  have hbw : w.heap.size ≤ b + 1 := by have := HB.out; omega
  have G2 : Fr [] w (w1.setCell ⟨b + 1, 6, none⟩ (.int .i64 1)) := HG1.out.setCell (.inr hbw) _
  clear b1 b2 z1
  obtain ⟨w2, hw2⟩ : ∃ w2, w1.setCell ⟨b + 1, 6, none⟩ (.int .i64 1) = w2 := ⟨_, rfl⟩
  rw [hw2] at M2 G2 ⊢
  clear hw2 hbw HM1 HG1
  have b1 := M2.rS.cell
  have b2 := M2.rT.cell
  have HM := Lib.hid M2
  have HF := Lib.hid G2
  clear M2 G2
  go_wp2_with fail
  clear b1 b2
  have F1 : Fr [] w2 (w2.alloc (.cells #[.int .i64 0, .int .i64 0, .int .i64 0, .int .u64 0, .int .u64 0, .int .i64 0, .int .i64 1, .int .i64 2, .bool true, .int .i64 0, .bool false, .int .u64 0, .slice none 0 0, .slice (some ⟨b + 2, 0, none⟩) 1 1, .int .i64 0, .int .i64 0, .int .i64 0, .int .u64 0, .int .u64 0, .int .i64 0, .int .i64 1, .int .i64 4, .bool true, .int .i64 0, .bool false, .int .u64 0, .slice none 0 0, .slice (some ⟨b, 0, none⟩) 1 1] 52)) := (Fr.refl _ _).alloc _
  refine (lin46 b 1 _ _ (HM.out.keep0 F1) (newRecs w2 b (b + 2) 1) true (yes46 b (b + 2))).mono ?_
  rintro e w3 ⟨rfl, f1⟩
  have M1 := (HM.out.keep0 F1).keep0 f1
  have b1 := M1.rS.cell
  have b2 := M1.rT.cell
  have G1 := HF.out.trans0 (F1.trans0 f1)
  have HM1 := Lib.hid M1
  have HG1 := Lib.hid G1
  clear M1 F1 f1 G1 HF HM
  go_wp2_with fail
  clear b1 b2
  have F1 : Fr [] w3 (w3.alloc (.cells #[.int .i64 0, .int .i64 0, .int .i64 0, .int .u64 0, .int .u64 0, .int .i64 0, .int .i64 1, .int .i64 2, .bool true, .int .i64 0, .bool false, .int .u64 0, .slice none 0 0, .slice (some ⟨b + 2, 0, none⟩) 1 1, .int .i64 0, .int .i64 0, .int .i64 0, .int .u64 0, .int .u64 0, .int .i64 0, .int .i64 1, .int .i64 4, .bool true, .int .i64 0, .bool false, .int .u64 0, .slice none 0 0, .slice (some ⟨b, 0, none⟩) 1 1] 52)) := (Fr.refl _ _).alloc _
  refine (acts46 b 1 _ _ (HM1.out.keep0 F1) (newRecs w3 b (b + 2) 1)).mono ?_
  rintro e w4 ⟨rfl, f1⟩
  have HZ := Lib.hid (HG1.out.trans0 (F1.trans0 f1))
  clear F1 f1 HM1 HG1
  go_wp2
  go_ret
  exact ⟨rfl, HZ.out⟩
end Go.Proofs.Ytlpefbpamgeikaa
