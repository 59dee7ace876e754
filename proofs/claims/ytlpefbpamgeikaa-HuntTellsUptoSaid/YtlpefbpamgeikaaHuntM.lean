/- DERIVED. Chapter 44: the model in memory: New, Legal, Do, Copy. -/
import Derived.Test.YtlpefbpamgeikaaRows
import Derived.Test.YtlpefbpamgeikaaTypes
import Derived.Test.YtlpefbpamgeikaaMap
import Derived.RegionTactic
import Derived.BigRegion
import Derived.BigQuiet
import Derived.Deep.RegionHeld3
namespace Go.Proofs.Ytlpefbpamgeikaa
open Go.RowKit
open Go.ChangeMaps (setBlock)

def uok (n : Int) : Prop := (Lit.int .u64 n).wf = true
def evD (d : Int) : Value := .agg #[.int .i64 d]
abbrev Timers := Int → Option Int
theorem keyU : KeyOk Try.prog 22 (Value.int .u64) uok := key_u64 Try.underlying22
theorem zeroD (W : World) : (zeroValue 88).run Try.prog W = .ok (evD 0) W := by kernel_rfl

/-- the model in memory -/
structure ModAt (w : World) (p bl bw : Nat) (lv wr : Timers) : Prop where
  box : Box w p #[.map (some bl), .map (some bw)]
  live : MapAt (Value.int .u64) evD uok w bl lv
  were : MapAt (Value.int .u64) evD uok w bw wr
  ne : bl ≠ bw
  pl : p ≠ bl
  pw : p ≠ bw
theorem ModAt.keep {w w' : World} {p bl bw : Nat} {lv wr : Timers} (h : ModAt w p bl bw lv wr) {S : List Nat} (hf : Fr S w w') (h1 : p ∉ S) (h2 : bl ∉ S) (h3 : bw ∉ S) : ModAt w' p bl bw lv wr :=
  ⟨h.box.keep hf h1, h.live.keep hf h2, h.were.keep hf h3, h.ne, h.pl, h.pw⟩
theorem ModAt.keep0 {w w' : World} {p bl bw : Nat} {lv wr : Timers} (h : ModAt w p bl bw lv wr) (hf : Fr [] w w') : ModAt w' p bl bw lv wr := h.keep hf (by simp) (by simp) (by simp)

theorem new_any (w : World) : Calls Try.prog 36 #[] w fun e w' => ∃ p bl bw, e = .returned (.pointer (some ⟨p, 0, none⟩)) ∧ Fr [] w w' ∧ ModAt w' p bl bw (fun _ => none) (fun _ => none) ∧ w.heap.size ≤ p ∧ w.heap.size ≤ bl ∧ w.heap.size ≤ bw := by
  have hmm := @run_makeMap Try.prog
  have m1 := MapAt.made (Value.int .u64) evD uok w
  have m2 := MapAt.made (Value.int .u64) evD uok (w.alloc (.map #[] 0))
  have m3 := Box.new ((w.alloc (.map #[] 0)).alloc (.map #[] 0)) #[.map (some w.heap.size), .map (some (w.heap.size + 1))] 82
  have H := Lib.hid (And.intro m1 (And.intro m2 m3))
  clear m1 m2 m3
  go_enter Try.func36, Try.ntmps36
  go_wp2
  go_ret
  obtain ⟨m1, m2, m3⟩ := H.out
  have F1 : Fr [] w (w.alloc (.map #[] 0)) := (Fr.refl _ _).alloc _
  have F2 : Fr [] (w.alloc (.map #[] 0)) ((w.alloc (.map #[] 0)).alloc (.map #[] 0)) := (Fr.refl _ _).alloc _
  have F3 := (Fr.refl [] ((w.alloc (.map #[] 0)).alloc (.map #[] 0))).alloc (.cells #[.map (some w.heap.size), .map (some (w.heap.size + 1))] 82)
  have e1 : (w.alloc (.map #[] 0)).heap.size = w.heap.size + 1 := by simp
  have e2 : ((w.alloc (.map #[] 0)).alloc (.map #[] 0)).heap.size = w.heap.size + 2 := by simp
  rw [e1] at m2
  rw [e2] at m3
  refine ⟨_, _, _, rfl, (F1.trans0 F2).trans0 F3, ⟨m3, (m1.keep F2 (by simp)).keep F3 (by simp), m2.keep F3 (by simp), by omega, by omega, by omega⟩, by omega, by omega, by omega⟩


def legalB (lv wr : Timers) (k h d now : Int) : Bool :=
  if k = 1 then (wr h).isNone else if k = 2 then (lv h).isSome && (((lv h).getD 0) == d && decide ((lv h).getD 0 ≤ now)) else if k = 3 then (lv h).isSome else if k = 4 then !(lv h).isSome else k == 5

abbrev actV (a : ActR) : Value := .agg #[.int .i64 a.kind, .int .u64 a.handle, .int .i64 a.deadline, .int .i64 a.step]
abbrev actC (a : ActR) : Array Value := #[.int .i64 a.kind, .int .u64 a.handle, .int .i64 a.deadline, .int .i64 a.step]

theorem look_ok (es : Array MapEntry) (clock : Nat) (f : Timers) (h : Int) (hh : uok h) (E : Ents (Value.int .u64) evD uok f es clock) (W : World) (b : Nat) (hb : W.heap[b]? = some (.map es clock)) :
    Sem.run Try.prog (Instr.lookup 80 (.map (some b)) (.int .u64 h) true) W = .ok (.tuple #[.agg #[.int .i64 ((f h).getD 0)], .bool (f h).isSome]) W :=
  E.lookupOk keyU Try.underlying80 zeroD hh W b hb

theorem drew_cell (w : World) (a : Addr) : w.drew.cell? a = w.cell? a := rfl
theorem Box.drew {w : World} {g : Nat} {cs : Array Value} (h : Box w g cs) : Box w.drew g cs := ⟨h.cell, h.lt⟩
set_option maxHeartbeats 1000000 in
theorem legal_any (p bl bw : Nat) (lv wr : Timers) (k h d s now : Int) (w : World) (hm : ModAt w p bl bw lv wr) (hh : uok h) :
    Calls Try.prog 46 #[.pointer (some ⟨p, 0, none⟩), .agg #[.int .i64 k, .int .u64 h, .int .i64 d, .int .i64 s], .int .i64 now] w fun e w' => e = .returned (.bool (legalB lv wr k h d now)) ∧ Fr [] w w' := by
  have F0 : Fr [] w (w.alloc (.cells #[.int .i64 k, .int .u64 h, .int .i64 d, .int .i64 s] 65)) := (Fr.refl _ _).alloc _
  have B0 := Box.new w #[.int .i64 k, .int .u64 h, .int .i64 d, .int .i64 s] 65
  have M0 := hm.keep0 F0
  have H := Lib.hid (And.intro F0 (And.intro B0 M0))
  clear F0 B0 M0
  obtain ⟨r, hr⟩ : ∃ r, legalB lv wr k h d now = r := ⟨_, rfl⟩
  have HR := Lib.hid hr
  rw [hr]
  clear hr
  go_enter Try.func46, Try.ntmps46
  go_wp2_with fail
  obtain ⟨F0, B0, M0⟩ := H.out
  obtain ⟨g, hg⟩ : ∃ g, w.heap.size = g := ⟨_, rfl⟩
  rw [hg] at B0 ⊢
  clear hg
  obtain ⟨u, hu⟩ : ∃ u, w.alloc (.cells #[.int .i64 k, .int .u64 h, .int .i64 d, .int .i64 s] 65) = u := ⟨_, rfl⟩
  rw [hu] at F0 B0 M0 ⊢
  clear hu H
  have F1 : Fr [] u (u.alloc (.cells #[.int .i64 0] 88)) := (Fr.refl _ _).alloc _
  have b0 := B0.cell
  have b1 := M0.box.cell
  have b2 := (B0.keep0 F1).cell
  have b3 := (M0.box.keep0 F1).cell
  obtain ⟨es, c, he, E⟩ := M0.live
  have L0 := look_ok es c lv h hh E u.drew bl he
  have L1 := look_ok es c lv h hh E (u.alloc (.cells #[.int .i64 0] 88)).drew bl ((heap_alloc_old _ _ M0.live.lt).trans he)
  have H := Lib.hid (And.intro hh (And.intro F0 (And.intro B0 M0)))
  clear he E M0 hm F0 F1 B0 hh
  go_region
  all_goals
    clear b0 b1 b2 b3 L0 L1
    obtain ⟨hh, F0, B0, M0⟩ := H.out
    clear H
    obtain ⟨x, hx⟩ : ∃ x, (lv h).getD 0 = x := ⟨_, rfl⟩
    obtain ⟨y, hy⟩ : ∃ y, (lv h).isSome = y := ⟨_, rfl⟩
    rw [hx, hy]
    have F1 : Fr [] u (u.alloc (.cells #[.int .i64 x] 88)).drew := ((Fr.refl _ _).alloc _).drew
    have B1 := (Box.new u #[.int .i64 x] 88).drew
    have B2 := B0.keep0 F1
    have M1 := M0.keep0 F1
    have F2 := F0.trans0 F1
    obtain ⟨q, hq⟩ : ∃ q, u.heap.size = q := ⟨_, rfl⟩
    rw [hq] at B1 ⊢
    clear hq
    obtain ⟨u1, hu⟩ : ∃ u1, (u.alloc (.cells #[.int .i64 x] 88)).drew = u1 := ⟨_, rfl⟩
    rw [hu] at F1 B1 B2 M1 F2 ⊢
    clear hu F0 F1 B0 M0
    have b1 := B1.cell
    have b2 := B2.cell
    by_cases k1 : k = 1
    · subst k1
      have HR2 := HR.out
      simp only [legalB, if_true] at HR2
      have F3 : Fr [] u1 (u1.alloc (.cells #[.int .i64 0] 88)) := (Fr.refl _ _).alloc _
      have b3 := (B2.keep0 F3).cell
      have b4 := M1.box.cell
      have b5 := (M1.box.keep0 F3).cell
      obtain ⟨es, c, he, E⟩ := M1.were
      have L0 := look_ok es c wr h hh E u1.drew bw he
      have L1 := look_ok es c wr h hh E (u1.alloc (.cells #[.int .i64 0] 88)).drew bw ((heap_alloc_old _ _ M1.were.lt).trans he)
      have H := Lib.hid (And.intro HR2 F2)
      clear HR2 HR F2 F3 he E M1 hh B1 B2 hx hy
      go_wp2_with fail
      go_region
      all_goals
        go_wp2
        go_ret
        obtain ⟨h1, h2⟩ := H.out
        subst h1
        exact ⟨by simp, (h2.alloc _).drew⟩
    · by_cases k2 : k = 2
      · subst k2
        have HR2 := HR.out
        simp only [legalB, hx, hy, if_false, if_true, Int.reduceEq] at HR2
        cases y
        · have H := Lib.hid (And.intro HR2 (And.intro F2 (And.intro hx hy)))
          clear HR HR2 k1 F2 hx hy
          go_wp2
          go_ret
          obtain ⟨h1, h2, _⟩ := H.out
          subst h1
          exact ⟨by simp, h2⟩
        · by_cases e : x = d
          · subst e
            have H := Lib.hid (And.intro HR2 (And.intro F2 (And.intro hx hy)))
            clear HR HR2 k1 F2 hx hy
            go_wp2
            go_ret
            obtain ⟨h1, h2, _⟩ := H.out
            subst h1
            exact ⟨by simp, h2⟩
          · have e1 : (x == d) = false := by simpa using e
            have H := Lib.hid (And.intro HR2 (And.intro F2 (And.intro hx hy)))
            clear HR HR2 k1 F2 hx hy e
            go_wp2
            go_ret
            obtain ⟨h1, h2, _⟩ := H.out
            subst h1
            exact ⟨by simp [e1], h2⟩
      · by_cases k3 : k = 3
        · subst k3
          have HR2 := HR.out
          simp only [legalB, hx, hy, if_false, if_true, Int.reduceEq] at HR2
          have H := Lib.hid (And.intro HR2 (And.intro F2 (And.intro hx hy)))
          clear HR HR2 k1 k2 F2 hx hy
          go_wp2
          go_ret
          obtain ⟨h1, h2, _⟩ := H.out
          subst h1
          exact ⟨rfl, h2⟩
        · by_cases k4 : k = 4
          · subst k4
            have HR2 := HR.out
            simp only [legalB, hx, hy, if_false, if_true, Int.reduceEq] at HR2
            have H := Lib.hid (And.intro HR2 (And.intro F2 (And.intro hx hy)))
            clear HR HR2 k1 k2 k3 F2 hx hy
            go_wp2
            go_ret
            obtain ⟨h1, h2, _⟩ := H.out
            subst h1
            exact ⟨rfl, h2⟩
          · have HR2 := HR.out
            simp only [legalB, if_neg k1, if_neg k2, if_neg k3, if_neg k4] at HR2
            have q1 : (k == 1) = false := by simpa using k1
            have q2 : (k == 2) = false := by simpa using k2
            have q3 : (k == 3) = false := by simpa using k3
            have q4 : (k == 4) = false := by simpa using k4
            have H := Lib.hid (And.intro HR2 (And.intro F2 (And.intro hx hy)))
            clear HR HR2 k1 k2 k3 k4 F2 hx hy
            go_wp2
            go_ret
            obtain ⟨h1, h2, _⟩ := H.out
            subst h1
            exact ⟨rfl, h2⟩

end Go.Proofs.Ytlpefbpamgeikaa
