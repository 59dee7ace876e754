/- DERIVED. Chapter 30: half, with its deferred closure; Parse. -/
import Derived.Test.YtkdmodanfcpcfaaDoorWhol
import Derived.Defers
namespace Go.Proofs.YtkdmodanfcpcfaaDoor
open Go.RowKit

theorem half1 (a b : Addr) (ok : Bool) (n : Int) (u : FrameMode) (w : World) (ha : w.cell? a = some (.bool ok)) (hb : w.cell? b = some (.int .u64 n)) (hz : w.frozen? b = false) :
    CallsD Tryd.prog 111 #[.pointer (some a), .pointer (some b)] u w fun e u' w' => u' = u ∧ (e = .returned (.tuple #[]) ∧ w' = if ok then w else w.setCell b (.int .u64 0)) := by
  cases ok
  · go_enter_d Tryd.func111, Tryd.ntmps111
    go_wp2
    go_end0
    exact ⟨rfl, rfl⟩
  · go_enter_d Tryd.func111, Tryd.ntmps111
    go_wp2
    go_end0
    exact ⟨rfl, rfl⟩

theorem cell_lt {w : World} {a : Addr} {v : Value} (h : w.cell? a = some v) : a.block < w.heap.size := block_lt_of_cell h

theorem half_door (w wd : World) (tmps : Array Value) (g : Nat) (ok : Bool) (n : Int) (o : Option Nat) (hg : w.heap.size ≤ g) (h2 : tmps[2]?.getD undef = .pointer (some ⟨g, 0, none⟩)) (h3 : tmps[3]?.getD undef = .pointer (some ⟨g + 1, 0, none⟩))
    (ca : wd.cell? ⟨g + 1, 0, none⟩ = some (.bool ok)) (cb : wd.cell? ⟨g, 0, none⟩ = some (.int .u64 n)) (hz : wd.frozen? ⟨g, 0, none⟩ = false) (hf : Fr [] w wd) (ho : ok = o.isSome) (hn : ok = true → n = ((o.getD 0 : Nat) : Int)) :
    Leaves Tryd.prog Tryd.f90 tmps (fun e w' => e = .returned (.tuple #[.int .u64 ((o.getD 0 : Nat) : Int), .bool o.isSome]) ∧ Fr [] w w') [{ target := Target.fn (Fn.func 111) #[.pointer (some ⟨g + 1, 0, none⟩), .pointer (some ⟨g, 0, none⟩)], args := #[] }] .returning wd := by
  refine leaves_cons (f := 111) (args := #[.pointer (some ⟨g + 1, 0, none⟩), .pointer (some ⟨g, 0, none⟩)]) (by simp) (by simp [go_sem]) ?_
  refine (half1 ⟨g + 1, 0, none⟩ ⟨g, 0, none⟩ ok n .returning _ ca cb hz).mono ?_
  rintro e u' w'' ⟨rfl, rfl, rfl⟩
  cases ok
  · have hne : (⟨g + 1, 0, none⟩ : Addr) ≠ ⟨g, 0, none⟩ := by intro e; injection e with e _; omega
    have hne := hne.symm
    have c1 : (wd.setCell ⟨g, 0, none⟩ (.int .u64 0)).cell? ⟨g + 1, 0, none⟩ = some (.bool false) := by rw [World.cell?_setCell_other _ _ _ _ hne]; exact ca
    have c2 : (wd.setCell ⟨g, 0, none⟩ (.int .u64 0)).cell? ⟨g, 0, none⟩ = some (.int .u64 0) := World.cell?_setCell_same' _ _ _ (by rw [cb]; rfl)
    have hnone : o = none := by cases o with | none => rfl | some x => cases ho
    subst hnone
    refine ⟨.tuple #[.int .u64 0, .bool false], ?_, rfl, hf.setCell (p := ⟨g, 0, none⟩) (.inr hg) _⟩
    simp [results, Tryd.results90, go_sem, h2, h3, c1, c2]
  · have hn := hn rfl
    cases o with
    | none => cases ho
    | some x =>
      subst hn
      refine ⟨.tuple #[.int .u64 (((some x).getD 0 : Nat) : Int), .bool true], ?_, rfl, hf⟩
      simp [results, Tryd.results90, go_sem, h2, h3, ca, cb]

set_option maxRecDepth 20000 in
set_option maxHeartbeats 2000000 in
theorem half_any (s : List UInt8) (hs : s.length ≤ 1000000) (w : World) :
    Calls Tryd.prog 90 #[.string (Str s)] w fun e w' =>
      e = .returned (.tuple #[.int .u64 (((numB 4294967296 s).getD 0 : Nat) : Int), .bool (numB 4294967296 s).isSome]) ∧ Fr [] w w' := by
  obtain ⟨o, ho⟩ : ∃ o, numB 4294967296 s = o := ⟨_, rfl⟩
  rw [ho]
  have HO := Lib.hid ho
  clear ho
  have l1 := strLen s
  have hmf : ∀ (fn : Fn) (first cap : Array Value) (w : World), (Instr.makeFunc fn first cap).run Tryd.prog w = .ok (.func fn first cap) w := fun _ _ _ _ => rfl
  by_cases hz : s = []
  · subst hz
    have hn : o = none := by rw [← HO.out]; exact numB_nil
    have HN := Lib.hid hn
    clear hn HO l1
    rw [show Str [] = ⟨#[]⟩ from rfl]
    go_enter_defers Tryd.func90, Tryd.ntmps90
    go_wp2
    refine half_door w _ _ w.heap.size false 0 o (Nat.le_refl _) rfl rfl (by simp) (by simp) (by simp [go_sem]) (((Fr.refl _ _).alloc _).alloc _) (by rw [HN.out]; rfl) (by simp)
  obtain ⟨c0, h0⟩ := at_of s (k := 0) (List.length_pos_iff.2 hz)
  have i0 := strIdx0 h0
  have hlen : 1 ≤ s.length := List.length_pos_iff.2 hz
  have hemp : (Str s).toList.isEmpty = false := by
    rw [← decide_eq_emptyBytes]
    refine decide_eq_false (fun h => hz ?_)
    have := congrArg ByteArray.size h
    rw [Str.size] at this
    exact List.eq_nil_of_length_eq_zero this
  by_cases hbad : 10 < s.length ∨ (c0 = 48 ∧ 1 < s.length)
  · have hn : o = none := by
      rw [← HO.out]
      rcases hbad with h | ⟨rfl, h1⟩
      · exact numB_long32 h
      · cases s with
        | nil => simp at h0
        | cons c r => simp at h0; subst h0; exact numB_zero (by rintro rfl; simp at h1)
    have HN := Lib.hid hn
    clear hn HO
    have hcase : decide ((10 : Int) < s.length) = true ∨ (decide ((10 : Int) < s.length) = false ∧ ((c0.toNat : Int) == 48) = true ∧ decide ((1 : Int) < s.length) = true) := by
      rcases hbad with h | ⟨rfl, h1⟩
      · left; simp; omega
      · by_cases h : 10 < s.length
        · left; simp; omega
        · right; refine ⟨by simp; omega, rfl, by simp; omega⟩
    clear hbad h0
    rcases hcase with e1 | ⟨e1, e2, e3⟩
    all_goals
      go_enter_defers Tryd.func90, Tryd.ntmps90
      go_wp2
      refine half_door w _ _ w.heap.size false 0 o (Nat.le_refl _) rfl rfl (by simp) (by simp) (by simp [go_sem]) (((Fr.refl _ _).alloc _).alloc _) (by rw [HN.out]; rfl) (by simp)
  have hs10 : s.length ≤ 10 := by omega
  have hz0 : ∀ r, s = 48 :: r → r = [] := by
    rintro r rfl
    simp at h0
    cases r with
    | nil => rfl
    | cons a r => exact absurd (Or.inr ⟨h0.symm, by simp⟩) hbad
  have e1 : decide ((10 : Int) < s.length) = false := by simp; omega
  have hcase : decide ((1 : Int) < s.length) = false ∨ (decide ((1 : Int) < s.length) = true ∧ ((c0.toNat : Int) == 48) = false) := by
    by_cases h1 : 1 < s.length
    · right
      refine ⟨by simp; omega, ?_⟩
      have h48 : ¬ c0 = 48 := fun e => hbad (.inr ⟨e, h1⟩)
      have : ¬ c0.toNat = 48 := fun e => h48 (by apply UInt8.toNat_inj.1; exact e)
      simp; omega
    · left; simp; omega
  have HZ := Lib.hid (And.intro hz0 hz)
  obtain ⟨cp, w1, hcv, f1, hrd⟩ := conv_ok s hs ((w.alloc (.cells #[.int .u64 0] 22)).alloc (.cells #[.bool false] 4))
  have ca : w1.cell? ⟨w.heap.size + 1, 0, none⟩ = some (.bool false) := by rw [f1.cell (by simp) (by simp)]; simp
  have cb : w1.cell? ⟨w.heap.size, 0, none⟩ = some (.int .u64 0) := by rw [f1.cell (by simp; omega) (by simp)]; simp
  have fz : w1.frozen? ⟨w.heap.size, 0, none⟩ = false := by rw [f1.frozen (by simp; omega) (by simp)]; simp [go_sem]
  have fy : w1.frozen? ⟨w.heap.size + 1, 0, none⟩ = false := by rw [f1.frozen (by simp) (by simp)]; simp [go_sem]
  have F1 : Fr [] w w1 := (((Fr.refl _ w).alloc _).alloc _).trans0 f1
  have hbs : ((w.alloc (.cells #[.int .u64 0] 22)).alloc (.cells #[.bool false] 4)).heap.size = w.heap.size + 2 := by simp
  rw [hbs] at hrd
  have HF := Lib.hid (And.intro F1 (And.intro ca (And.intro cb (And.intro fz (And.intro fy hrd)))))
  clear hbad h0 hz0 hz F1 ca cb fz fy hrd f1
  obtain ⟨g, hg⟩ : ∃ g, w.heap.size = g := ⟨_, rfl⟩
  have hgw : w.heap.size ≤ g := by omega
  rw [hbs] at hcv
  rw [hg] at HF hcv
  clear hbs
  rcases hcase with e3 | ⟨e3, e2⟩
  all_goals
    go_enter_defers Tryd.func90, Tryd.ntmps90
    go_wp2
    try rw [hg]
    clear hcv hg
    go_loopw [27] (fun vi wr => ∃ (k acc : Nat), vi = .int .i64 k ∧ k ≤ s.length ∧ acc < 10 ^ k ∧ wr.cell? ⟨g, 0, none⟩ = some (.int .u64 acc) ∧ wr.frozen? ⟨g, 0, none⟩ = false ∧ wr.cell? ⟨g + 1, 0, none⟩ = some (.bool false) ∧ wr.frozen? ⟨g + 1, 0, none⟩ = false ∧ Hid (acc = valV (s.take k) ∧ ∀ c ∈ s.take k, isD c) ∧ Hid (Fr [] w wr ∧ Fr [g] w1 wr)) (fun vi _ => s.length - (intOf vi).toNat)
    case atStart => exact ⟨0, 0, rfl, by omega, by omega, HF.out.2.2.1, HF.out.2.2.2.1, HF.out.2.1, HF.out.2.2.2.2.1, ⟨by rw [List.take_zero, valV, valF_nil], by simp⟩, ⟨HF.out.1, Fr.refl _ _⟩⟩
    case round =>
      obtain ⟨k, acc, rfl, hk, hacc, cb, fz, ca, fy, hh, hfr⟩ := hrel
      by_cases hlt : k < s.length
      · obtain ⟨c, hc⟩ := at_of s hlt
        have hrd := HF.out.2.2.2.2.2
        have ik := idxB hrd hlt
        have ck := cellB (hrd.keep hfr.out.2 (by intro x hx; simp [sblk] at hx; simp; omega)) hc
        rw [Nat.zero_add] at ik ck
        have HC := Lib.hid hc
        clear hc hrd
        have hpow : (10 : Nat) ^ k ≤ 10 ^ 9 := Nat.pow_le_pow_right (by omega) (by omega)
        have hsm : acc < 1000000000 := by omega
        by_cases hd : isD c
        · have hl := dV_lt hd
          have hcD : (c.toNat : Int) - 48 = (dV c : Nat) := by unfold isD at hd; unfold dV; omega
          have hd' : (48 : Int) ≤ c.toNat ∧ (c.toNat : Int) ≤ 57 := by unfold isD at hd; omega
          have htk : s.take (k + 1) = s.take k ++ [c] := take_at HC.out
          have hval : valV (s.take (k + 1)) = 10 * acc + dV c := by rw [htk, valV, valF_snoc, hh.out.1]; rfl
          have hdg : ∀ x ∈ s.take (k + 1), isD x := by
            rw [htk]; intro x hx
            rcases List.mem_append.1 hx with h1 | h1
            · exact hh.out.2 x h1
            · simp at h1; subst h1; exact hd
          have hnx : 10 * acc + dV c < 10 ^ (k + 1) := by rw [Nat.pow_succ]; omega
          have HH := Lib.hid (And.intro hval (And.intro hdg hnx))
          clear hval hdg htk hh hd hnx hpow
          go_wp2
          go_roundw
          case rel =>
            refine ⟨k + 1, 10 * acc + dV c, by first | rfl | (congr 1; omega), by omega, HH.out.2.2, ?_, ?_, ?_, ?_, ⟨HH.out.1.symm, HH.out.2.1⟩, ⟨hfr.out.1.setCell (p := ⟨g, 0, none⟩) (.inr hgw) _, hfr.out.2.setCell (p := ⟨g, 0, none⟩) (.inl (by simp)) _⟩⟩
            · rw [World.cell?_setCell_same' _ _ _ (by rw [cb]; rfl)]
              first | rfl | (congr 2; omega)
            · rw [World.frozen?_setCell]; exact fz
            · rw [World.cell?_setCell_other _ _ _ _ (by intro e; injection e with e _; omega)]; exact ca
            · rw [World.frozen?_setCell]; exact fy
          case measure => simp [intOf]; omega
        · have hn : o = none := by rw [← HO.out]; exact numB_nodig (List.mem_of_getElem? HC.out) hd
          have HN := Lib.hid hn
          have hd' : (c.toNat : Int) < 48 ∨ 57 < (c.toNat : Int) := by unfold isD at hd; omega
          clear hn HO hd hpow
          go_wp2
          all_goals refine half_door w _ _ g false acc o hgw rfl rfl ca cb fz hfr.out.1 (by rw [HN.out]; rfl) (by simp)
      · have hkl : k = s.length := by omega
        have h2 := hh.out
        rw [hkl, List.take_length] at h2
        have hpow : (10 : Nat) ^ k ≤ 10 ^ 10 := Nat.pow_le_pow_right (by omega) (by omega)
        have hsm : acc < 10000000000 := by omega
        obtain ⟨q, hq, hqz⟩ : ∃ q : Int, (acc : Int) / 4294967296 = q ∧ ((q == 0) = true ↔ acc < 4294967296) := ⟨_, rfl, by simp; omega⟩
        have H2 := Lib.hid (And.intro h2 hqz)
        clear hkl h2 hh hpow hqz hacc
        go_wp2
        have ho : (q == 0) = o.isSome ∧ ((q == 0) = true → (acc : Int) = ((o.getD 0 : Nat) : Int)) := by
          obtain ⟨⟨hv, hd⟩, hz⟩ := H2.out
          by_cases hb : acc < 4294967296
          · have hn : o = some acc := by
              rw [← HO.out, hv]
              exact numB_canon HZ.out.2 hd HZ.out.1 (by rw [← hv]; exact hb)
            subst hn
            exact ⟨by rw [hz.2 hb]; rfl, fun _ => rfl⟩
          · have hn : o = none := by
              rw [← HO.out]
              exact numB_none_of fun n e => by
                have : valV s = n := by rw [e, val_dec]
                omega
            subst hn
            have : (q == 0) = false := by
              cases h : (q == 0) with
              | false => rfl
              | true => exact absurd (hz.1 h) hb
            exact ⟨by rw [this]; rfl, fun h => by rw [this] at h; cases h⟩
        have hne : (⟨g, 0, none⟩ : Addr) ≠ ⟨g + 1, 0, none⟩ := by intro e; injection e with e _; omega
        refine half_door w _ _ g (q == 0) acc o hgw rfl rfl ?_ ?_ ?_ ((hfr.out.1.setCell (p := ⟨g, 0, none⟩) (.inr hgw) _).setCell (p := ⟨g + 1, 0, none⟩) (.inr (Nat.le_succ_of_le hgw)) _) ho.1 ho.2
        · exact World.cell?_setCell_same' _ _ _ (by rw [World.cell?_setCell_other _ _ _ _ hne, ca]; rfl)
        · rw [World.cell?_setCell_other _ _ _ _ hne.symm]
          exact World.cell?_setCell_same' _ _ _ (by rw [cb]; rfl)
        · rw [World.frozen?_setCell, World.frozen?_setCell]; exact fz
end Go.Proofs.YtkdmodanfcpcfaaDoor
