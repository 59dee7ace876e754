/- DERIVED. Chapter 37: a call read from its text: what it is, by its words; set. -/
import Derived.Test.YtkdmodanfcpcfaaDoorRWords
namespace Go.Proofs.YtkdmodanfcpcfaaDoor
open Go.RowKit

def setV (c : CallA) (f : UInt8) (s : List UInt8) : Option CallA :=
  if f = 68 then (numB 9223372036854775808 s).map fun (n : Nat) => { c with deadline := (n : Int) }
  else if f = 88 then (numB 18446744073709551616 s).map fun n => { c with draw := n }
  else if f = 78 then (numB 9223372036854775808 s).map fun (n : Nat) => { c with count := (n : Int) }
  else (handleV s).map fun h => { c with handle := h }

/-- a call's block -/
structure CB (w : World) (g : Nat) (c : CallA) : Prop where
  c0 : w.cell? ⟨g, 0, none⟩ = some (.int .i64 c.kind)
  c1 : w.cell? ⟨g, 1, none⟩ = some (.int .i64 c.deadline)
  c2 : w.cell? ⟨g, 2, none⟩ = some (.int .u64 c.draw)
  c3 : w.cell? ⟨g, 3, none⟩ = some (.int .u64 c.handle)
  c4 : w.cell? ⟨g, 4, none⟩ = some (.int .i64 c.count)
  fz : ∀ j, w.frozen? ⟨g, j, none⟩ = false
theorem CB.lt {w : World} {g : Nat} {c : CallA} (h : CB w g c) : g < w.heap.size := block_lt_of_cell h.c0
theorem CB.keep {w w' : World} {g : Nat} {c : CallA} (h : CB w g c) {S : List Nat} (hf : Fr S w w') (hg : g ∉ S) : CB w' g c :=
  ⟨by rw [hf.cell h.lt hg, h.c0], by rw [hf.cell h.lt hg, h.c1], by rw [hf.cell h.lt hg, h.c2], by rw [hf.cell h.lt hg, h.c3], by rw [hf.cell h.lt hg, h.c4], fun j => by rw [hf.frozen h.lt hg]; exact h.fz j⟩
theorem other {g i j : Nat} (h : i ≠ j) : (⟨g, i, none⟩ : Addr) ≠ ⟨g, j, none⟩ := by intro e; injection e with _ e; exact h e
theorem set_same {w : World} {a : Addr} {v u : Value} (h : w.cell? a = some v) : (w.setCell a u).cell? a = some u := World.cell?_setCell_same' _ _ _ (by rw [h]; rfl)
theorem CB.set1 {w : World} {g : Nat} {c : CallA} (h : CB w g c) (n : Int) : CB (w.setCell ⟨g, 1, none⟩ (.int .i64 n)) g { c with deadline := n } :=
  ⟨by rw [World.cell?_setCell_other _ _ _ _ (other (by decide))]; exact h.c0, set_same h.c1, by rw [World.cell?_setCell_other _ _ _ _ (other (by decide))]; exact h.c2, by rw [World.cell?_setCell_other _ _ _ _ (other (by decide))]; exact h.c3, by rw [World.cell?_setCell_other _ _ _ _ (other (by decide))]; exact h.c4, fun j => by rw [World.frozen?_setCell]; exact h.fz j⟩
theorem CB.set2 {w : World} {g : Nat} {c : CallA} (h : CB w g c) (n : Nat) : CB (w.setCell ⟨g, 2, none⟩ (.int .u64 n)) g { c with draw := n } :=
  ⟨by rw [World.cell?_setCell_other _ _ _ _ (other (by decide))]; exact h.c0, by rw [World.cell?_setCell_other _ _ _ _ (other (by decide))]; exact h.c1, set_same h.c2, by rw [World.cell?_setCell_other _ _ _ _ (other (by decide))]; exact h.c3, by rw [World.cell?_setCell_other _ _ _ _ (other (by decide))]; exact h.c4, fun j => by rw [World.frozen?_setCell]; exact h.fz j⟩
theorem CB.set3 {w : World} {g : Nat} {c : CallA} (h : CB w g c) (n : Nat) : CB (w.setCell ⟨g, 3, none⟩ (.int .u64 n)) g { c with handle := n } :=
  ⟨by rw [World.cell?_setCell_other _ _ _ _ (other (by decide))]; exact h.c0, by rw [World.cell?_setCell_other _ _ _ _ (other (by decide))]; exact h.c1, by rw [World.cell?_setCell_other _ _ _ _ (other (by decide))]; exact h.c2, set_same h.c3, by rw [World.cell?_setCell_other _ _ _ _ (other (by decide))]; exact h.c4, fun j => by rw [World.frozen?_setCell]; exact h.fz j⟩
theorem CB.set4 {w : World} {g : Nat} {c : CallA} (h : CB w g c) (n : Int) : CB (w.setCell ⟨g, 4, none⟩ (.int .i64 n)) g { c with count := n } :=
  ⟨by rw [World.cell?_setCell_other _ _ _ _ (other (by decide))]; exact h.c0, by rw [World.cell?_setCell_other _ _ _ _ (other (by decide))]; exact h.c1, by rw [World.cell?_setCell_other _ _ _ _ (other (by decide))]; exact h.c2, by rw [World.cell?_setCell_other _ _ _ _ (other (by decide))]; exact h.c3, set_same h.c4, fun j => by rw [World.frozen?_setCell]; exact h.fz j⟩
theorem ret_b {a b : Bool} (h : a = b) : Ending.returned (.bool a) = .returned (.bool b) := by rw [h]

set_option maxRecDepth 20000 in
set_option maxHeartbeats 2000000 in
theorem set_any (c : CallA) (f : UInt8) (hf : f = 68 ∨ f = 88 ∨ f = 72 ∨ f = 78) (s : List UInt8) (hs : s.length ≤ 1000000) (g : Nat) (w : World) (hg : Glob w) (hc : CB w g c) :
    Calls Tryd.prog 66 #[.pointer (some ⟨g, 0, none⟩), .int .u8 f.toNat, .string (Str s)] w fun e w' => e = .returned (.bool (setV c f s).isSome) ∧ Fr [g] w w' ∧ ∀ c', setV c f s = some c' → CB w' g c' := by
  have W3 := callWhole63 s hs w hg
  have W4 := callWhole64 s hs w hg
  have HP := fun W (hW : Fr [] w W) => hparse_any s hs W (hg.keep hW)
  obtain ⟨S, hS⟩ : ∃ S, Str s = S := ⟨_, rfl⟩
  rw [hS] at W3 W4 HP ⊢
  have H3 := Lib.hid W3
  have H4 := Lib.hid W4
  have HH := Lib.hid HP
  have HC := Lib.hid hc
  clear W3 W4 HP hS hg hc
  rcases hf with rfl | rfl | rfl | rfl
  · go_enter Tryd.func66, Tryd.ntmps66
    go_wp2_with fail
    refine H3.out.mono ?_
    clear H3
    rintro e w1 ⟨⟨n, rfl, hn⟩, f1⟩
    have B1 := HC.out.keep f1 (by simp)
    have k1 := B1.c1
    have z1 := B1.fz 1
    have HB := Lib.hid (And.intro B1 (And.intro f1 hn))
    clear hn f1 B1
    go_wp2
    go_ret
    obtain ⟨B1, f1, hn⟩ := HB.out
    refine ⟨ret_b (by simp [setV]), (f1.mono (by simp)).setCell (p := ⟨g, 1, none⟩) (.inl (by simp)) _, fun c' h => ?_⟩
    simp [setV] at h
    obtain ⟨m, hm, rfl⟩ := h
    obtain rfl := hn m hm
    have hlt := numB_lt hm
    have hw : wrap64 (n : Int) = n := by unfold wrap64; omega
    rw [hw]
    exact B1.set1 _
  · go_enter Tryd.func66, Tryd.ntmps66
    go_wp2_with fail
    refine H4.out.mono ?_
    clear H4
    rintro e w1 ⟨⟨n, rfl, hn⟩, f1⟩
    have B1 := HC.out.keep f1 (by simp)
    have k1 := B1.c2
    have z1 := B1.fz 2
    have HB := Lib.hid (And.intro B1 (And.intro f1 hn))
    clear hn f1 B1
    go_wp2
    go_ret
    obtain ⟨B1, f1, hn⟩ := HB.out
    refine ⟨ret_b (by simp [setV]), (f1.mono (by simp)).setCell (p := ⟨g, 2, none⟩) (.inl (by simp)) _, fun c' h => ?_⟩
    simp [setV] at h
    obtain ⟨m, hm, rfl⟩ := h
    obtain rfl := hn m hm
    exact B1.set2 _
  · go_enter Tryd.func66, Tryd.ntmps66
    go_wp2_with fail
    refine H3.out.mono ?_
    clear H3
    rintro e w1 ⟨⟨n, rfl, hn⟩, f1⟩
    have HF := Lib.hid f1
    clear hn f1
    go_wp2_with fail
    refine (HH.out _ HF.out).mono ?_
    rintro e w2 ⟨rfl, f2⟩
    have B2 := HC.out.keep (HF.out.trans0 f2) (by simp)
    have k1 := B2.c3
    have z1 := B2.fz 3
    have HB := Lib.hid (And.intro B2 (HF.out.trans0 f2))
    clear f2 B2 HF HH
    obtain ⟨o, ho⟩ : ∃ o, handleV s = o := ⟨_, rfl⟩
    rw [ho]
    have HO := Lib.hid ho
    clear ho
    cases o with
    | none =>
      simp only [Option.getD_none, Option.isSome_none]
      go_wp2
      go_ret
      obtain ⟨B1, f1⟩ := HB.out
      refine ⟨ret_b (by simp [setV, HO.out]), (f1.mono (by simp)).setCell (p := ⟨g, 3, none⟩) (.inl (by simp)) _, fun c' h => ?_⟩
      simp [setV, HO.out] at h
    | some h0 =>
      simp only [Option.getD_some, Option.isSome_some]
      go_wp2
      go_ret
      obtain ⟨B1, f1⟩ := HB.out
      refine ⟨ret_b (by simp [setV, HO.out]), (f1.mono (by simp)).setCell (p := ⟨g, 3, none⟩) (.inl (by simp)) _, fun c' h => ?_⟩
      simp [setV, HO.out] at h
      subst h
      exact B1.set3 _
  · go_enter Tryd.func66, Tryd.ntmps66
    go_wp2_with fail
    refine H3.out.mono ?_
    clear H3
    rintro e w1 ⟨⟨n, rfl, hn⟩, f1⟩
    have B1 := HC.out.keep f1 (by simp)
    have k1 := B1.c4
    have z1 := B1.fz 4
    have HB := Lib.hid (And.intro B1 (And.intro f1 hn))
    clear hn f1 B1
    go_wp2
    go_ret
    obtain ⟨B1, f1, hn⟩ := HB.out
    refine ⟨ret_b (by simp [setV]), (f1.mono (by simp)).setCell (p := ⟨g, 4, none⟩) (.inl (by simp)) _, fun c' h => ?_⟩
    simp [setV] at h
    obtain ⟨m, hm, rfl⟩ := h
    obtain rfl := hn m hm
    have hlt := numB_lt hm
    have hw : wrap64 (n : Int) = n := by unfold wrap64; omega
    rw [hw]
    exact B1.set4 _
end Go.Proofs.YtkdmodanfcpcfaaDoor
