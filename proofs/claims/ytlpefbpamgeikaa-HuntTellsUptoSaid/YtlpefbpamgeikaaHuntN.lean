/- DERIVED. Chapter 44: the model in memory: Do, Copy. -/
import Derived.Test.YtlpefbpamgeikaaHuntM
namespace Go.Proofs.Ytlpefbpamgeikaa
open Go.RowKit
open Go.ChangeMaps (setBlock)

def doM (lv wr : Timers) (k h d : Int) : Timers × Timers := if k = 1 then (upd lv h (some d), upd wr h (some d)) else if k = 2 ∨ k = 3 then (upd lv h none, wr) else (lv, wr)

theorem entry_ok (es : Array MapEntry) (clock : Nat) (f : Timers) (h d : Int) (hh : uok h) (E : Ents (Value.int .u64) evD uok f es clock) :
    ∃ (es1 : Array MapEntry) (clock1 st : Nat) (es2 : Array MapEntry), Ents (Value.int .u64) evD uok (upd f h (some d)) es2 clock1 ∧
      (∀ (W : World) (b : Nat), W.heap[b]? = some (.map es clock) → Sem.run Try.prog (Instr.mapEntry 80 (.map (some b)) (.int .u64 h)) W = .ok (.tuple #[.agg #[.int .i64 ((f h).getD 0)], .int .i64 st]) (setBlock W b (.map es1 clock1))) ∧
      ∀ (W : World) (b : Nat), W.heap[b]? = some (.map es1 clock1) → Sem.run Try.prog (Instr.entryStore 80 (.map (some b)) (.int .i64 st) (.agg #[.int .i64 d])) W = .ok () (setBlock W b (.map es2 clock1)) := by
  obtain ⟨es1, c1, st, _, h2, h3⟩ := E.entry keyU Try.underlying80 zeroD hh
  obtain ⟨es2, h4, h5⟩ := h3 d
  exact ⟨es1, c1, st, es2, h4, h2, h5⟩

theorem map_nil (b : Nat) (W : World) : Sem.run Try.prog (binOp BinOp.eql 80 (.map (some b)) (.map none)) W = .ok (.bool false) W := by kernel_rfl
set_option maxRecDepth 20000 in
set_option maxHeartbeats 1000000 in
theorem do_any (p bl bw : Nat) (lv wr : Timers) (k h d s now : Int) (w : World) (hm : ModAt w p bl bw lv wr) (hh : uok h) :
    Calls Try.prog 42 #[.pointer (some ⟨p, 0, none⟩), .agg #[.int .i64 k, .int .u64 h, .int .i64 d, .int .i64 s], .int .i64 now] w fun e w' => e = .returned (.bool (legalB lv wr k h d now)) ∧ Fr [bl, bw] w w' ∧
      (legalB lv wr k h d now = true → ModAt w' p bl bw (doM lv wr k h d).1 (doM lv wr k h d).2) := by
  have F0 : Fr [] w (w.alloc (.cells #[.int .i64 k, .int .u64 h, .int .i64 d, .int .i64 s] 65)) := (Fr.refl _ _).alloc _
  have B0 := Box.new w #[.int .i64 k, .int .u64 h, .int .i64 d, .int .i64 s] 65
  have M0 := hm.keep0 F0
  have H := Lib.hid (And.intro F0 (And.intro B0 (And.intro M0 hh)))
  have HB := Lib.hid (And.intro (Nat.ne_of_gt hm.live.lt) (Nat.ne_of_gt hm.were.lt))
  have LG := legal_any p bl bw lv wr k h d s now _ M0 hh
  have LH := Lib.hid LG
  clear LG
  clear F0 B0 M0 hm hh
  obtain ⟨r, hr⟩ : ∃ r, legalB lv wr k h d now = r := ⟨_, rfl⟩
  rw [hr] at LH ⊢
  clear hr
  go_enter Try.func42, Try.ntmps42
  go_wp2_with fail
  refine LH.out.mono ?_
  clear LH
  have hn := map_nil bw
  rintro e w1 ⟨rfl, f1⟩
  obtain ⟨F0, B0, M0, hh⟩ := H.out
  have M1 := M0.keep0 f1
  have B1 := B0.keep0 f1
  have F1 := F0.trans0 f1
  clear H F0 B0 M0 f1
  obtain ⟨g, hg⟩ : ∃ g, w.heap.size = g := ⟨_, rfl⟩
  rw [hg] at B1 HB ⊢
  clear hg
  have b1 := B1.cell
  have b2 := M1.box.cell
  cases r
  · have H := Lib.hid F1
    clear F1 M1 B1 hh
    go_wp2
    go_ret
    exact ⟨rfl, H.out.mono (by simp), by simp⟩
  · by_cases k1 : k = 1
    · subst k1
      have H := Lib.hid (And.intro F1 (And.intro B1 (And.intro M1 hh)))
      clear F1 M1 B1 hh
      go_wp2_with fail
      obtain ⟨F1, B1, M1, hh⟩ := H.out
      clear b1 b2 hn
      have G1 : Fr [] w1 (w1.alloc (.cells #[.int .i64 d] 88)) := (Fr.refl _ _).alloc _
      have B3 := Box.new w1 #[.int .i64 d] 88
      have M2 := M1.keep0 G1
      have B2 := B1.keep0 G1
      have F2 := F1.trans0 G1
      have e1 : w1.heap.size ≠ bl := Nat.ne_of_gt M1.live.lt
      have e2 : w1.heap.size ≠ bw := Nat.ne_of_gt M1.were.lt
      have ee : ∀ j, w1.heap.size ≠ j → True := by simp
      obtain ⟨q, hq⟩ : ∃ q, w1.heap.size = q := ⟨_, rfl⟩
      rw [hq] at B3 e1 e2 ⊢
      clear hq
      obtain ⟨u, hu⟩ : ∃ u, (w1.alloc (.cells #[.int .i64 d] 88)) = u := ⟨_, rfl⟩
      rw [hu] at F2 B2 B3 M2 ⊢
      clear hu G1 M1 B1 F1 ee
      obtain ⟨n1, n2⟩ := HB.out
      clear HB
      obtain ⟨es, c, hes, E⟩ := M2.live
      obtain ⟨et, ct, het, T⟩ := M2.were
      obtain ⟨es1, c1, st, es2, E2, r1, r2⟩ := entry_ok es c lv h d hh E
      obtain ⟨et1, ct1, tt, et2, T2, r3, r4⟩ := entry_ok et ct wr h d hh T
      have r1 := r1 u.drew bl hes
      have f1 := sb_fr u.drew bl (.map es1 c1)
      have g1 := sb_same (w := u.drew) (b := bl) M2.live.lt (.map es1 c1)
      have g3 := (sb_other (w := u.drew) (Ne.symm M2.ne) (.map es1 c1)).trans het
      obtain ⟨v1, hv⟩ : ∃ v, setBlock u.drew bl (.map es1 c1) = v := ⟨_, rfl⟩
      rw [hv] at r1 f1 g1 g3
      clear hv
      have r2 := r2 v1 bl g1
      have f2 := sb_fr v1 bl (.map es2 c1)
      have g2 := sb_same (w := v1) (b := bl) (Array.getElem?_eq_some_iff.1 g1).1 (.map es2 c1)
      have g4 := (sb_other (w := v1) (Ne.symm M2.ne) (.map es2 c1)).trans g3
      obtain ⟨v2, hv⟩ : ∃ v, setBlock v1 bl (.map es2 c1) = v := ⟨_, rfl⟩
      rw [hv] at r2 f2 g2 g4
      clear hv
      have r3 := r3 v2 bw g4
      have f3 := sb_fr v2 bw (.map et1 ct1)
      have g5 := sb_same (w := v2) (b := bw) (Array.getElem?_eq_some_iff.1 g4).1 (.map et1 ct1)
      have g6 := (sb_other (w := v2) M2.ne (.map et1 ct1)).trans g2
      obtain ⟨v3, hv⟩ : ∃ v, setBlock v2 bw (.map et1 ct1) = v := ⟨_, rfl⟩
      rw [hv] at r3 f3 g5 g6
      clear hv
      have r4 := r4 v3 bw g5
      have f4 := sb_fr v3 bw (.map et2 ct1)
      have g7 := sb_same (w := v3) (b := bw) (Array.getElem?_eq_some_iff.1 g5).1 (.map et2 ct1)
      have g8 := (sb_other (w := v3) M2.ne (.map et2 ct1)).trans g6
      obtain ⟨v4, hv⟩ : ∃ v, setBlock v3 bw (.map et2 ct1) = v := ⟨_, rfl⟩
      rw [hv] at r4 f4 g7 g8
      clear hv
      have F0 : Fr [bl, bw] w u.drew := (F2.drew).mono (by simp)
      have h1 : Fr [bl, bw] u.drew v1 := f1.mono (by simp)
      have h2 := h1.transS (f2.mono (S' := [bl, bw]) (by simp))
      have h3 := h2.transS (f3.mono (S' := [bl, bw]) (by simp))
      have h4 := h3.transS (f4.mono (S' := [bl, bw]) (by simp))
      have hp : p ∉ [bl, bw] := by simp [M2.pl, M2.pw]
      have hg : g ∉ [bl, bw] := by simp [n1, n2]
      have hq : q ∉ [bl, bw] := by simp [e1, e2]
      have p0 := M2.box.drew
      have q0 := B3.drew
      have g0 := B2.drew
      have c0 := p0.cell
      have c1' := (p0.keep h1 hp).cell
      have c2 := (p0.keep h2 hp).cell
      have c3 := (p0.keep h3 hp).cell
      have d0 := q0.cell
      have d1 := (q0.keep h1 hq).cell
      have d2 := (q0.keep h2 hq).cell
      have d3 := (q0.keep h3 hq).cell
      have k0 := g0.cell
      have k1 := (g0.keep h1 hg).cell
      have k2 := (g0.keep h2 hg).cell
      have k3 := (g0.keep h3 hg).cell
      have MF : ModAt v4 p bl bw (upd lv h (some d)) (upd wr h (some d)) := ⟨p0.keep h4 hp, ⟨_, _, g8, E2⟩, ⟨_, _, g7, T2⟩, M2.ne, M2.pl, M2.pw⟩
      have H := Lib.hid (And.intro (F0.transS h4) MF)
      clear MF F0 h1 h2 h3 h4 f1 f2 f3 f4 g1 g2 g3 g4 g5 g6 g7 g8 p0 q0 g0 hp hg hq n1 n2 E2 T2 E T hes het M2 B2 B3 F2 e1 e2 hh
      go_region
      all_goals
        go_wp2
        go_ret
        exact ⟨rfl, H.out.1, by simpa [doM] using H.out.2⟩
    · by_cases k23 : k = 2 ∨ k = 3
      · obtain ⟨n1, n2⟩ := HB.out
        have e1 : doM lv wr k h d = (upd lv h none, wr) := by simp [doM, k1, k23]
        obtain ⟨es, c, hes, E⟩ := M1.live
        obtain ⟨es1, E1, r1⟩ := E.delete keyU Try.underlying80 hh
        have r1 := r1 w1.drew bl 0 hes
        have f1 := sb_fr w1.drew bl (.map es1 c)
        have g1 := sb_same (w := w1.drew) (b := bl) M1.live.lt (.map es1 c)
        obtain ⟨v1, hv⟩ : ∃ v, setBlock w1.drew bl (.map es1 c) = v := ⟨_, rfl⟩
        rw [hv] at r1 f1 g1
        clear hv
        have F0 : Fr [bl, bw] w w1.drew := (F1.drew).mono (by simp)
        have h1 : Fr [bl, bw] w1.drew v1 := f1.mono (by simp)
        have MF : ModAt v1 p bl bw (doM lv wr k h d).1 (doM lv wr k h d).2 := by
          rw [e1]
          exact ⟨M1.box.drew.keep f1 (by simpa using M1.pl), ⟨_, _, g1, E1⟩, M1.were.keep (w := w1.drew) f1 (by simpa using M1.ne.symm), M1.ne, M1.pl, M1.pw⟩
        have H := Lib.hid (And.intro (F0.transS h1) MF)
        have q1 : (k == 1) = false := by simpa using k1
        clear F1 M1 B1 hh n1 n2 E E1 hes f1 g1 F0 h1 MF e1 k1 HB
        rcases k23 with rfl | rfl
        · clear q1
          go_wp2_with fail
          go_region
          all_goals
            go_wp2
            go_ret
            exact ⟨rfl, H.out.1, H.out.2⟩
        · clear q1
          go_wp2_with fail
          go_region
          all_goals
            go_wp2
            go_ret
            exact ⟨rfl, H.out.1, H.out.2⟩
      · have e1 : doM lv wr k h d = (lv, wr) := by simp [doM, k1, k23]
        have MF : ModAt w1 p bl bw (doM lv wr k h d).1 (doM lv wr k h d).2 := by rw [e1]; exact M1
        have q1 : (k == 1) = false := by simpa using k1
        have q2 : (k == 2) = false := by simp; omega
        have q3 : (k == 3) = false := by simp; omega
        have H := Lib.hid (And.intro F1 MF)
        clear F1 M1 B1 hh HB k1 k23 e1 MF
        go_wp2
        go_ret
        exact ⟨rfl, H.out.1.mono (by simp), H.out.2⟩
end Go.Proofs.Ytlpefbpamgeikaa
