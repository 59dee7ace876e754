/- DERIVED. Chapter 42: eventOf, of the program. -/
import Derived.Test.YtkdmodanfcpcfaaDoorScriptV
namespace Go.Proofs.YtkdmodanfcpcfaaDoor
open Go.RowKit

/-- a block whose cells are known, and may be written -/
structure BF (w : World) (g : Nat) (cs : List Value) : Prop where
  cell : ∀ j, w.cell? ⟨g, j, none⟩ = cs[j]?
  lt : g < w.heap.size
  fz : ∀ j, w.frozen? ⟨g, j, none⟩ = false
theorem BF.keep {w w' : World} {g : Nat} {cs : List Value} (h : BF w g cs) {S : List Nat} (hf : Fr S w w') (hg : g ∉ S) : BF w' g cs :=
  ⟨fun j => by rw [hf.cell h.lt hg, h.cell], Nat.lt_of_lt_of_le h.lt hf.size, fun j => by rw [hf.frozen h.lt hg]; exact h.fz j⟩
theorem BF.keep0 {w w' : World} {g : Nat} {cs : List Value} (h : BF w g cs) (hf : Fr [] w w') : BF w' g cs := h.keep hf (by simp)
theorem BF.set {w : World} {g : Nat} {cs : List Value} (h : BF w g cs) (k : Nat) (hk : k < cs.length) (v : Value) : BF (w.setCell ⟨g, k, none⟩ v) g (cs.set k v) := by
  refine ⟨fun j => ?_, by simp [World.setCell]; exact h.lt, fun j => by rw [World.frozen?_setCell]; exact h.fz j⟩
  by_cases e : j = k
  · subst e
    rw [World.cell?_setCell_same' _ _ _ (by rw [h.cell]; simp [hk])]
    simp [hk]
  · rw [World.cell?_setCell_other _ _ _ _ (other (Ne.symm e)), h.cell]
    simp [List.getElem?_set, Ne.symm e]
theorem BF.new (w : World) (cs : Array Value) (t : TypeId) : BF (w.alloc (.cells cs t)) w.heap.size cs.toList :=
  ⟨fun j => by rw [World.cell?_alloc_at _ _ _ _ rfl]; simp, by simp, fun j => by simp [go_sem]⟩

def set8 (W : World) (g : Nat) (e : EventA) : World := (((((((W.setCell ⟨g, 0, none⟩ (.int .i64 e.kind)).setCell ⟨g, 1, none⟩ (.int .i64 e.thread)).setCell ⟨g, 2, none⟩ (.int .i64 e.call.kind)).setCell ⟨g, 3, none⟩ (.int .i64 e.call.deadline)).setCell ⟨g, 4, none⟩ (.int .u64 e.call.draw)).setCell ⟨g, 5, none⟩ (.int .u64 e.call.handle)).setCell ⟨g, 6, none⟩ (.int .i64 e.call.count)).setCell ⟨g, 7, none⟩ (.int .i64 e.ticks)
theorem BF.set8 {w : World} {g : Nat} {e0 : EventA} (h : BF w g e0.cs) (e : EventA) : BF (set8 w g e) g e.cs :=
  (((((((h.set 0 (by simp [EventA.cs]) _).set 1 (by simp [EventA.cs]) _).set 2 (by simp [EventA.cs]) _).set 3 (by simp [EventA.cs]) _).set 4 (by simp [EventA.cs]) _).set 5 (by simp [EventA.cs]) _).set 6 (by simp [EventA.cs]) _).set 7 (by simp [EventA.cs]) _
theorem Fr.set8 {S : List Nat} {w wd : World} {g : Nat} (h : Fr S w wd) (hg : g ∈ S ∨ w.heap.size ≤ g) (e : EventA) : Fr S w (set8 wd g e) :=
  (((((((h.setCell (p := ⟨g, 0, none⟩) hg _).setCell (p := ⟨g, 1, none⟩) hg _).setCell (p := ⟨g, 2, none⟩) hg _).setCell (p := ⟨g, 3, none⟩) hg _).setCell (p := ⟨g, 4, none⟩) hg _).setCell (p := ⟨g, 5, none⟩) hg _).setCell (p := ⟨g, 6, none⟩) hg _).setCell (p := ⟨g, 7, none⟩) hg _

theorem BF.ev {w : World} {g : Nat} {e : EventA} (h : BF w g e.cs) :
    (w.cell? ⟨g, 0, none⟩ = some (.int .i64 e.kind) ∧ w.cell? ⟨g, 1, none⟩ = some (.int .i64 e.thread) ∧ w.cell? ⟨g, 2, none⟩ = some (.int .i64 e.call.kind) ∧ w.cell? ⟨g, 3, none⟩ = some (.int .i64 e.call.deadline) ∧ w.cell? ⟨g, 4, none⟩ = some (.int .u64 e.call.draw) ∧ w.cell? ⟨g, 5, none⟩ = some (.int .u64 e.call.handle) ∧ w.cell? ⟨g, 6, none⟩ = some (.int .i64 e.call.count) ∧ w.cell? ⟨g, 7, none⟩ = some (.int .i64 e.ticks)) ∧
    (w.frozen? ⟨g, 0, none⟩ = false ∧ w.frozen? ⟨g, 1, none⟩ = false ∧ w.frozen? ⟨g, 2, none⟩ = false ∧ w.frozen? ⟨g, 3, none⟩ = false ∧ w.frozen? ⟨g, 4, none⟩ = false ∧ w.frozen? ⟨g, 5, none⟩ = false ∧ w.frozen? ⟨g, 6, none⟩ = false ∧ w.frozen? ⟨g, 7, none⟩ = false) :=
  ⟨⟨h.cell 0, h.cell 1, h.cell 2, h.cell 3, h.cell 4, h.cell 5, h.cell 6, h.cell 7⟩, h.fz 0, h.fz 1, h.fz 2, h.fz 3, h.fz 4, h.fz 5, h.fz 6, h.fz 7⟩

theorem event_door (w wd : World) (tmps : Array Value) (g : Nat) (p : EventA) (s : List UInt8) (b : Bool) (h2 : tmps[2]?.getD undef = .pointer (some ⟨g, 0, none⟩)) (h3 : tmps[3]?.getD undef = .bool b) (hc : BF wd g p.cs) (hf : Fr [] w wd) (hb : b = (eventV s).isSome) (hq : ∀ q, eventV s = some q → p = q) :
    bodyPost Tryd.prog Tryd.f35 (fun e w' => EventR s e ∧ Fr [] w w') Exit.ret { tmps := tmps, defers := [] } wd := by
  refine bodyPost_ret (v := .tuple #[eventAgg p, .bool b]) ?_ rfl ⟨⟨p, by rw [hb], hq⟩, hf⟩
  simp [results, Tryd.results35, go_sem, h2, h3, hc.cell, eventAgg, callAgg, EventA.cs]

def zeros8 : Array Value := #[.int .i64 0, .int .i64 0, .int .i64 0, .int .i64 0, .int .u64 0, .int .u64 0, .int .i64 0, .int .i64 0]
set_option maxRecDepth 20000 in
set_option maxHeartbeats 4000000 in
theorem eventOf_any (s : List UInt8) (hs : s.length ≤ 1000000) (w : World) (hg : Glob w) :
    Calls Tryd.prog 35 #[.string (Str s)] w fun e w' => EventR s e ∧ Fr [] w w' := by
  have F0 : Fr [] w (w.alloc (.cells #[.int .i64 0, .int .i64 0, .int .i64 0, .int .i64 0, .int .u64 0, .int .u64 0, .int .i64 0, .int .i64 0] 49)) := (Fr.refl _ _).alloc _
  have C0 : BF (w.alloc (.cells #[.int .i64 0, .int .i64 0, .int .i64 0, .int .i64 0, .int .u64 0, .int .u64 0, .int .i64 0, .int .i64 0] 49)) w.heap.size noEvent.cs := BF.new w _ _
  obtain ⟨h1, h2, _⟩ := cutV_len 32 s
  obtain ⟨h3, h4, _⟩ := cutV_len 32 (cutV 32 s).2.1
  have P1 := cut_any 32 s hs _ (hg.keep F0)
  have P2 := fun W hW => cut_any 32 (cutV 32 s).2.1 (by omega) W hW
  have P3 := fun W hW => scriptWhole63 (cutV 32 (cutV 32 s).2.1).1 (by omega) W hW
  have P4 := fun W hW => callParse_any (cutV 32 (cutV 32 s).2.1).2.1 (by omega) W hW
  have hV : eventV s = eventU (cutV 32 s).1 (cutV 32 (cutV 32 s).2.1).1 (cutV 32 (cutV 32 s).2.1).2.1 (cutV 32 (cutV 32 s).2.1).2.2 := rfl
  obtain ⟨wd, hwd⟩ : ∃ x, (cutV 32 s).1 = x := ⟨_, rfl⟩
  obtain ⟨nu, hnu⟩ : ∃ x, (cutV 32 (cutV 32 s).2.1).1 = x := ⟨_, rfl⟩
  obtain ⟨tx, htx⟩ : ∃ x, (cutV 32 (cutV 32 s).2.1).2.1 = x := ⟨_, rfl⟩
  obtain ⟨mo, hmo⟩ : ∃ x, (cutV 32 (cutV 32 s).2.1).2.2 = x := ⟨_, rfl⟩
  obtain ⟨b0, hb0⟩ : ∃ x, (cutV 32 s).2.2 = x := ⟨_, rfl⟩
  rw [hwd, hnu, htx, hmo] at hV
  rw [hnu, htx, hmo] at P2
  rw [hnu] at P3
  rw [htx] at P4
  rw [hwd, hb0] at P1
  obtain ⟨re, hre⟩ : ∃ x, (cutV 32 s).2.1 = x := ⟨_, rfl⟩
  rw [hre] at P1 P2
  unfold WholeR at P3
  generalize hn : numB 9223372036854775808 nu = o at P3
  have hU : eventU wd nu tx mo = o.bind fun n => if mo ≠ decide (wd = wCall) then none else if wd = wStep then some ⟨2, n, noCall, 0⟩ else if wd = wTick then some ⟨3, 0, noCall, n⟩ else if wd = wCall then (callV tx).map fun c => ⟨1, n, c, 0⟩ else none := by
    rw [← hn]; rfl
  have hlt : ∀ n, o = some n → n < 9223372036854775808 := by rw [← hn]; exact fun n h => numB_lt h
  have hV2 := hV.trans hU
  obtain ⟨S, hS⟩ : ∃ S, Str s = S := ⟨_, rfl⟩
  obtain ⟨SW, hSW⟩ : ∃ S, Str wd = S := ⟨_, rfl⟩
  obtain ⟨SN, hSN⟩ : ∃ S, Str nu = S := ⟨_, rfl⟩
  obtain ⟨ST, hST⟩ : ∃ S, Str tx = S := ⟨_, rfl⟩
  obtain ⟨SR, hSR⟩ : ∃ S, Str re = S := ⟨_, rfl⟩
  rw [hS, hSW, hSR] at P1
  rw [hSR, hSN, hST] at P2
  rw [hSN] at P3
  rw [hST] at P4
  rw [hS]
  have eqw : ∀ x : List UInt8, SW = Str x ↔ wd = x := fun x => ⟨fun h => by have := congrArg (fun b => b.data.toList) (hSW.trans h); simpa [Str] using this, fun h => by rw [← hSW, h]⟩
  have HP1 := Lib.hid P1
  have HP2 := Lib.hid P2
  have HP3 := Lib.hid P3
  have HP4 := Lib.hid P4
  have H0 := Lib.hid (And.intro F0 (And.intro C0 (And.intro hg (And.intro hV2 (And.intro eqw hlt)))))
  clear P1 P2 P3 P4 F0 C0 hg hV2 eqw hlt hU hV hS hSW hSN hST hSR hwd hnu htx hmo hb0 hre hn h1 h2 h3 h4
  go_enter Tryd.func35, Tryd.ntmps35
  go_wp2_with fail
  rw [show (⟨#[32]⟩ : ByteArray) = Str [32] from rfl]
  refine HP1.out.mono ?_
  clear HP1
  rintro e w1 ⟨rfl, f1⟩
  have C1 := H0.out.2.1.keep0 f1
  obtain ⟨g, hgg⟩ : ∃ g, w.heap.size = g := ⟨_, rfl⟩
  have gw : w.heap.size ≤ g := by omega
  rw [hgg] at C1
  rw [hgg]
  clear hgg
  have F1 := Lib.hid (And.intro (H0.out.1.trans0 f1) C1)
  clear f1 C1
  go_wp2_with fail
  refine (HP2.out _ (H0.out.2.2.1.keep F1.out.1)).mono ?_
  clear HP2
  rintro e w2 ⟨rfl, f2⟩
  have F2 := Lib.hid (And.intro (F1.out.1.trans0 f2) (F1.out.2.keep0 f2))
  clear f2 F1
  go_wp2_with fail
  refine (HP3.out _ (H0.out.2.2.1.keep F2.out.1)).mono ?_
  clear HP3
  rintro e w3 ⟨⟨n, rfl, hn⟩, f3⟩
  have F3 := Lib.hid (And.intro (F2.out.1.trans0 f3) (F2.out.2.keep0 f3))
  clear f3 F2
  obtain ⟨⟨g0, g1, g2, g3, g4, g5, g6, g7⟩, ⟨z0, z1, z2, z3, z4, z5, z6, z7⟩⟩ := F3.out.2.ev
  have NO : eventV s = none → ∀ (tmps : Array Value), tmps[2]?.getD undef = .pointer (some ⟨g, 0, none⟩) → tmps[3]?.getD undef = .bool false → bodyPost Tryd.prog Tryd.f35 (fun e w' => EventR s e ∧ Fr [] w w') Exit.ret { tmps := tmps, defers := [] } (set8 w3 g noEvent) := by
    intro hno tmps h2 h3
    exact event_door w _ tmps g noEvent s false h2 h3 (F3.out.2.set8 noEvent) (F3.out.1.set8 (.inr gw) noEvent) (by rw [hno]; rfl) (fun q hq => by rw [hno] at hq; cases hq)
  have YES : ∀ e, eventV s = some e → ∀ (tmps : Array Value), tmps[2]?.getD undef = .pointer (some ⟨g, 0, none⟩) → tmps[3]?.getD undef = .bool true → bodyPost Tryd.prog Tryd.f35 (fun e w' => EventR s e ∧ Fr [] w w') Exit.ret { tmps := tmps, defers := [] } (set8 w3 g e) := by
    intro e hyes tmps h2 h3
    exact event_door w _ tmps g e s true h2 h3 (F3.out.2.set8 e) (F3.out.1.set8 (.inr gw) e) (by rw [hyes]; rfl) (fun q hq => by rw [hyes] at hq; injection hq)
  have HNO := Lib.hid NO
  have HYES := Lib.hid YES
  clear NO YES
  cases o with
  | none =>
    have HN := Lib.hid (show eventV s = none by rw [H0.out.2.2.2.1]; rfl)
    clear hn HP4
    simp only [Option.isSome_none]
    go_wp2
    exact HNO.out HN.out _ rfl rfl
  | some m =>
    obtain rfl := hn m rfl
    have hw64 : wrap64 (n : Int) = n := by have := H0.out.2.2.2.2.2 n rfl; unfold wrap64; omega
    have HV := Lib.hid H0.out.2.2.2.1
    rw [Option.bind_some] at HV
    simp only [Option.isSome_some]
    clear hn
    by_cases hc : wd = wCall
    · obtain rfl : SW = ⟨#[99, 97, 108, 108]⟩ := (H0.out.2.2.2.2.1 wCall).2 hc
      cases mo with
      | false =>
        have HN := Lib.hid (show eventV s = none by rw [HV.out, if_pos (by simp [hc])])
        clear HP4 hc
        go_wp2
        exact HNO.out HN.out _ rfl rfl
      | true =>
        have HN := Lib.hid (show eventV s = (callV tx).map fun c => ⟨1, n, c, 0⟩ by rw [HV.out, if_neg (by simp [hc]), if_neg (by rw [hc]; decide), if_neg (by rw [hc]; decide), if_pos hc])
        clear hc
        go_wp2_with fail
        refine (HP4.out _ (H0.out.2.2.1.keep F3.out.1)).mono ?_
        clear HP4
        rintro e w4 ⟨rfl, f4⟩
        have F4 := Lib.hid (And.intro (F3.out.1.trans0 f4) (F3.out.2.keep0 f4))
        clear f4 g0 g1 g2 g3 g4 g5 g6 g7 z0 z1 z2 z3 z4 z5 z6 z7
        cases hr : callV tx with
        | none =>
          have HN2 := Lib.hid (show eventV s = none by rw [HN.out, hr]; rfl)
          have B4 := Box.new w4 #[.int .i64 0, .int .i64 0, .int .u64 0, .int .u64 0, .int .i64 0] 24
          have A4 : Fr [] w4 (w4.alloc (.cells #[.int .i64 0, .int .i64 0, .int .u64 0, .int .u64 0, .int .i64 0] 24)) := (Fr.refl _ _).alloc _
          have F5 := Lib.hid (And.intro (F4.out.1.trans0 A4) (F4.out.2.keep0 A4))
          obtain ⟨⟨g0, g1, g2, g3, g4, g5, g6, g7⟩, ⟨z0, z1, z2, z3, z4, z5, z6, z7⟩⟩ := F5.out.2.ev
          clear B4 A4 hr
          simp only [Option.getD_none, Option.isSome_none, callAgg, noCall]
          go_wp2
          exact event_door w _ _ g ⟨1, n, noCall, 0⟩ s false rfl rfl (F5.out.2.set8 ⟨1, n, noCall, 0⟩) (F5.out.1.set8 (.inr gw) ⟨1, n, noCall, 0⟩) (by rw [HN2.out]; rfl) (fun q hq => by rw [HN2.out] at hq; cases hq)
        | some c =>
          have HN2 := Lib.hid (show eventV s = some ⟨1, n, c, 0⟩ by rw [HN.out, hr]; rfl)
          have B4 := Box.new w4 #[.int .i64 c.kind, .int .i64 c.deadline, .int .u64 c.draw, .int .u64 c.handle, .int .i64 c.count] 24
          have A4 : Fr [] w4 (w4.alloc (.cells #[.int .i64 c.kind, .int .i64 c.deadline, .int .u64 c.draw, .int .u64 c.handle, .int .i64 c.count] 24)) := (Fr.refl _ _).alloc _
          have F5 := Lib.hid (And.intro (F4.out.1.trans0 A4) (F4.out.2.keep0 A4))
          obtain ⟨⟨g0, g1, g2, g3, g4, g5, g6, g7⟩, ⟨z0, z1, z2, z3, z4, z5, z6, z7⟩⟩ := F5.out.2.ev
          clear B4 A4 hr
          simp only [Option.getD_some, Option.isSome_some, callAgg]
          go_wp2
          exact event_door w _ _ g ⟨1, n, c, 0⟩ s true rfl rfl (F5.out.2.set8 ⟨1, n, c, 0⟩) (F5.out.1.set8 (.inr gw) ⟨1, n, c, 0⟩) (by rw [HN2.out]; rfl) (fun q hq => by rw [HN2.out] at hq; injection hq)
    · have hq : (SW.toList == [99, 97, 108, 108]) = false := by simpa using (Lib.bytes_beq_false_iff SW ⟨#[99, 97, 108, 108]⟩).2 (fun e => hc ((H0.out.2.2.2.2.1 wCall).1 e))
      cases mo with
      | true =>
        have HN := Lib.hid (show eventV s = none by rw [HV.out, if_pos (by simp [hc])])
        clear HP4 hc
        go_wp2
        exact HNO.out HN.out _ rfl rfl
      | false =>
        have HV2 := Lib.hid (HV.out.trans (if_neg (by simp [hc])))
        by_cases hs2 : wd = wStep
        · obtain rfl : SW = ⟨#[115, 116, 101, 112]⟩ := (H0.out.2.2.2.2.1 wStep).2 hs2
          have HN := Lib.hid (show eventV s = some ⟨2, n, noCall, 0⟩ by rw [HV2.out, if_pos hs2])
          clear HP4 hc hs2
          go_wp2
          exact HYES.out _ HN.out _ rfl rfl
        · have hq2 : (SW.toList == [115, 116, 101, 112]) = false := by simpa using (Lib.bytes_beq_false_iff SW ⟨#[115, 116, 101, 112]⟩).2 (fun e => hs2 ((H0.out.2.2.2.2.1 wStep).1 e))
          by_cases ht : wd = wTick
          · obtain rfl : SW = ⟨#[116, 105, 99, 107]⟩ := (H0.out.2.2.2.2.1 wTick).2 ht
            have HN := Lib.hid (show eventV s = some ⟨3, 0, noCall, n⟩ by rw [HV2.out, if_neg hs2, if_pos ht])
            clear HP4 hc hs2 ht
            go_wp2
            exact HYES.out _ HN.out _ rfl rfl
          · have hq3 : (SW.toList == [116, 105, 99, 107]) = false := by simpa using (Lib.bytes_beq_false_iff SW ⟨#[116, 105, 99, 107]⟩).2 (fun e => ht ((H0.out.2.2.2.2.1 wTick).1 e))
            have HN := Lib.hid (show eventV s = none by rw [HV2.out, if_neg hs2, if_neg ht, if_neg hc])
            clear HP4 hc hs2 ht
            go_wp2
            exact HNO.out HN.out _ rfl rfl
end Go.Proofs.YtkdmodanfcpcfaaDoor
