/- DERIVED. Chapter 44, the reference: Do. -/
import Derived.Test.YtlpefbpamgeikaaHuntT
namespace Go.Proofs.Ytlpefbpamgeikaa
open Go.RowKit

theorem RdAt.kill {w : World} {v : Value} {xs : List Tm} {g j : Nat} {t : Tm} (h : RdAt encTm w v xs g 0) (hj : xs[j]? = some t) : RdAt encTm (w.setCell ⟨g, j * 3 + 2, none⟩ (.bool false)) v (xs.set j ⟨t.handle, t.deadline, false⟩) g 0 := by
  have hlt := (List.getElem?_eq_some_iff.1 hj).1
  have hne : xs ≠ [] := by rintro rfl; simp at hj
  obtain ⟨⟨ao, cap, hv, ha, h1, h2⟩, hc, hl⟩ := h
  refine ⟨⟨ao, cap, by rw [List.length_set]; exact hv, fun _ => ha hne, by rw [List.length_set]; exact h1, h2⟩, fun i x hx m hm => ?_, fun _ => by simpa using hl hne⟩
  have hold := hc j t hj
  by_cases hi : i = j
  · subst hi
    rw [List.getElem?_set_self hlt] at hx
    injection hx with hx
    subst hx
    have hm3 : m = 0 ∨ m = 1 ∨ m = 2 := by simp only [encTm] at hm; omega
    rcases hm3 with rfl | rfl | rfl
    · rw [World.cell?_setCell_other _ _ _ _ (by intro e; injection e with _ e; simp only [encTm] at e; omega), hold 0 (by decide)]; rfl
    · rw [World.cell?_setCell_other _ _ _ _ (by intro e; injection e with _ e; simp only [encTm] at e; omega), hold 1 (by decide)]; rfl
    · have h2 := hold 2 (by decide)
      simp only [encTm, Nat.zero_add] at h2 ⊢
      rw [World.cell?_setCell_same _ _ _ h2]; rfl
  · rw [List.getElem?_set_ne (Ne.symm hi)] at hx
    rw [World.cell?_setCell_other _ _ _ _ (by intro e; injection e with _ e; simp only [encTm] at e hm; omega), hc i x hx m hm]

theorem First.ne {l : List Tm} {h : Int} {j : Nat} {t : Tm} (hf : First l h j t) {j' : Nat} {t' : Tm} (hf' : First l h j' t') : j = j' ∧ t = t' := by
  have : j = j' := by
    rcases Nat.lt_trichotomy j j' with h1 | h1 | h1
    · exact absurd hf.hd (hf'.no j t h1 hf.at_)
    · exact h1
    · exact absurd hf'.hd (hf.no j' t' h1 hf'.at_)
  subst this
  have := hf.at_
  rw [hf'.at_] at this
  injection this with this
  exact ⟨rfl, this.symm⟩
theorem first_push {l : List Tm} {h d : Int} (hn : ∀ t ∈ l, t.handle ≠ h) {h' : Int} {j : Nat} {t : Tm} : First (l ++ [⟨h, d, true⟩]) h' j t ↔ First l h' j t ∨ (h' = h ∧ j = l.length ∧ t = ⟨h, d, true⟩) := by
  constructor
  · rintro ⟨h1, h2, h3⟩
    by_cases hj : j < l.length
    · rw [List.getElem?_append_left hj] at h1
      refine .inl ⟨h1, h2, fun m t' hm ht => h3 m t' hm (by rw [List.getElem?_append_left (by omega)]; exact ht)⟩
    · have hj2 := (List.getElem?_eq_some_iff.1 h1).1
      simp at hj2
      obtain rfl : j = l.length := by omega
      rw [List.getElem?_append_right (by omega)] at h1
      simp at h1
      subst h1
      exact .inr ⟨h2.symm, rfl, rfl⟩
  · rintro (⟨h1, h2, h3⟩ | ⟨rfl, rfl, rfl⟩)
    · have hj := (List.getElem?_eq_some_iff.1 h1).1
      refine ⟨by rw [List.getElem?_append_left hj]; exact h1, h2, fun m t' hm ht => h3 m t' hm ?_⟩
      rw [List.getElem?_append_left (by omega)] at ht; exact ht
    · refine ⟨by rw [List.getElem?_append_right (by omega)]; simp, rfl, fun m t' hm ht => ?_⟩
      rw [List.getElem?_append_left hm] at ht
      exact hn t' (List.mem_of_getElem? ht)
theorem RefM.push {l : List Tm} {lv wr : Timers} (hR : RefM l lv wr) {h d : Int} (hn : ∀ t ∈ l, t.handle ≠ h) : RefM (l ++ [⟨h, d, true⟩]) (upd lv h (some d)) (upd wr h (some d)) := by
  intro h'
  constructor
  · intro hno
    have hne : h' ≠ h := by rintro rfl; exact hno ⟨h', d, true⟩ (by simp) rfl
    obtain ⟨h1, h2⟩ := (hR h').1 (fun t ht => hno t (by simp [ht]))
    simp only [upd, if_neg hne]; exact ⟨h1, h2⟩
  · intro j t hf
    rcases (first_push hn).1 hf with hf2 | ⟨rfl, _, rfl⟩
    · have hne : h' ≠ h := by rintro rfl; exact hn t (List.mem_of_getElem? hf2.at_) hf2.hd
      obtain ⟨h1, h2⟩ := (hR h').2 j t hf2
      simp only [upd, if_neg hne]; exact ⟨h1, h2⟩
    · simp [upd]
theorem RefM.kill {l : List Tm} {lv wr : Timers} (hR : RefM l lv wr) {h : Int} {j : Nat} {t : Tm} (hf : First l h j t) : RefM (l.set j ⟨t.handle, t.deadline, false⟩) (upd lv h none) wr := by
  have hlt := (List.getElem?_eq_some_iff.1 hf.at_).1
  have hset : ∀ (m : Nat) (t' : Tm), (l.set j ⟨t.handle, t.deadline, false⟩)[m]? = some t' → ∃ t0 : Tm, l[m]? = some t0 ∧ t0.handle = t'.handle ∧ t0.deadline = t'.deadline ∧ (m ≠ j → t0 = t') ∧ (m = j → t'.live = false) := by
    intro m t' ht
    by_cases hm : m = j
    · subst hm
      rw [List.getElem?_set_self hlt] at ht
      injection ht with ht; subst ht
      exact ⟨t, hf.at_, rfl, rfl, by simp, by simp⟩
    · rw [List.getElem?_set_ne (Ne.symm hm)] at ht
      exact ⟨t', ht, rfl, rfl, by simp, fun e => absurd e hm⟩
  have hback : ∀ (m : Nat) (t0 : Tm), l[m]? = some t0 → ∃ t' : Tm, (l.set j ⟨t.handle, t.deadline, false⟩)[m]? = some t' ∧ t'.handle = t0.handle := by
    intro m t0 ht
    by_cases hm : m = j
    · subst hm
      rw [hf.at_] at ht; injection ht with ht; subst ht
      exact ⟨_, List.getElem?_set_self hlt, rfl⟩
    · exact ⟨t0, by rw [List.getElem?_set_ne (Ne.symm hm)]; exact ht, rfl⟩
  intro h'
  constructor
  · intro hno
    have hne : h' ≠ h := by
      rintro rfl
      obtain ⟨t', h1, h2⟩ := hback j t hf.at_
      exact hno t' (List.mem_of_getElem? h1) (h2.trans hf.hd)
    obtain ⟨h1, h2⟩ := (hR h').1 (fun t0 ht0 => by
      obtain ⟨m, hm⟩ := List.mem_iff_getElem?.1 ht0
      obtain ⟨t', h1, h2⟩ := hback m t0 hm
      rw [← h2]; exact hno t' (List.mem_of_getElem? h1))
    simp only [upd, if_neg hne]; exact ⟨h1, h2⟩
  · intro j' t' hf'
    obtain ⟨t0, e1, e2, e3, e4, e5⟩ := hset j' t' hf'.at_
    have hf0 : First l h' j' t0 := ⟨e1, e2.trans hf'.hd, fun m tm hm htm => by
      obtain ⟨t'', h1, h2⟩ := hback m tm htm
      rw [← h2]; exact hf'.no m t'' hm h1⟩
    obtain ⟨h1, h2⟩ := (hR h').2 j' t0 hf0
    by_cases hh : h' = h
    · subst hh
      obtain ⟨rfl, rfl⟩ := hf.ne hf0
      simp only [upd, if_true]
      rw [e5 rfl, h1, e3]; simp
    · have hjj : j' ≠ j := by
        rintro rfl
        rw [hf.at_] at e1; injection e1 with e1; subst e1
        exact hh (hf0.hd.symm.trans hf.hd)
      rw [← e4 hjj]
      simp only [upd, if_neg hh]; exact ⟨h1, h2⟩

theorem Own.rd' {α : Type} {E : Enc α} {e : TypeId} {w : World} {v : Value} {xs : List α} (h : Own E e w v xs) (hne : xs ≠ []) : ∃ g, RdAt E w v xs g 0 ∧ (∀ j, w.frozen? ⟨g, j, none⟩ = false) ∧ sblk v = [g] := by
  obtain ⟨g0, hr⟩ := h.rd
  rcases h with ⟨rfl, rfl⟩ | ⟨g, cap, cur, rfl, h1, h2⟩
  · exact absurd rfl hne
  · obtain ⟨rfl, _⟩ := hr.base hne
    exact ⟨g0, hr, fun j => frozen_of_row w g0 j cur e h1, rfl⟩
set_option maxRecDepth 20000 in
set_option maxHeartbeats 1000000 in
theorem do_ref {l : List Tm} {lv wr : Timers} (hR : RefM l lv wr) (v : Value) (k h d s now : Int) (w : World) (hl : Rd encTm w v l) (hlen : l.length ≤ 100) (hleg : legalB lv wr k h d now = true) :
    Calls Try.prog 45 #[v, .agg #[.int .i64 k, .int .u64 h, .int .i64 d, .int .i64 s], .int .i64 now] w fun e w' => ∃ v' l', e = .returned v' ∧ Fr [] w w' ∧ Rd encTm w' v' l' ∧ l'.length ≤ l.length + 1 ∧ RefM l' (doM lv wr k h d).1 (doM lv wr k h d).2 := by
  have F0 : Fr [] w (w.alloc (.cells #[.int .i64 k, .int .u64 h, .int .i64 d, .int .i64 s] 65)) := (Fr.refl _ _).alloc _
  have B0 := Box.new w #[.int .i64 k, .int .u64 h, .int .i64 d, .int .i64 s] 65
  have hl0 := hl.keep0 F0
  have LG := legal_ref hR v k h d s now _ hl0
  rw [hleg] at LG
  have b0 := B0.cell
  have HL := Lib.hid LG
  have HH := Lib.hid (And.intro hR (And.intro F0 (And.intro B0 (And.intro hl0 (And.intro hleg hlen)))))
  clear hR F0 B0 hl0 LG hl hleg hlen
  obtain ⟨g, hg⟩ : ∃ g, w.heap.size = g := ⟨_, rfl⟩
  rw [hg] at b0 HH
  have HG := Lib.hid hg
  clear hg
  by_cases k3 : 3 < k
  · have p1 : decide (3 < k) = true := by simpa using k3
    have HK := Lib.hid k3
    clear k3
    go_enter Try.func45, Try.ntmps45
    go_wp2_with fail
    rw [HG.out]
    refine HL.out.mono ?_
    clear HL
    rintro e w1 ⟨rfl, f1⟩
    have b1 := ((HH.out.2.2.1).keep0 f1).cell
    have HF := Lib.hid f1
    clear f1
    go_wp2
    go_ret
    have k3 := HK.out
    have e1 : doM lv wr k h d = (lv, wr) := by simp only [doM]; rw [if_neg (by omega), if_neg (by omega)]
    rw [e1]
    exact ⟨v, l, rfl, HH.out.2.1.trans0 HF.out, HH.out.2.2.2.1.keep0 HF.out, by omega, HH.out.1⟩
  · have p1 : decide (3 < k) = false := by simpa using k3
    go_enter Try.func45, Try.ntmps45
    go_wp2_with fail
    rw [HG.out]
    refine HL.out.mono ?_
    clear HL
    rintro e w1 ⟨rfl, f1⟩
    have b1 := ((HH.out.2.2.1).keep0 f1).cell
    obtain ⟨hR, F0, B0, hl0, hleg, hlen⟩ := HH.out
    have F1 := F0.trans0 f1
    have hl1 := hl0.keep0 f1
    have B1 := B0.keep0 f1
    have G1 : Fr [] w1 (w1.alloc (.cells #[] 91)) := (Fr.refl _ _).alloc _
    have hown : Own encTm 91 (w1.alloc (.cells #[] 91)) (.slice (some ⟨w1.heap.size, 0, none⟩) 0 0) [] := Own.lit (xs := []) (heap_alloc_new w1 _) rfl (by simp [maxLen])
    have hl2 := hl1.keep0 G1
    have F2 := F1.trans0 G1
    have B2 := B1.keep0 G1
    have hgw : g < w1.heap.size := B1.lt
    have ng : g ∉ sblk (.slice (some ⟨w1.heap.size, 0, none⟩) 0 0) := by simp [sblk]; omega
    have hsl : l ≠ [] → ∀ x ∈ sblk v, x ∉ sblk (.slice (some ⟨w1.heap.size, 0, none⟩) 0 0) := by
      intro hne x hx
      have := hl1.lt hne x hx
      simp [sblk]; omega
    have hww : w.heap.size ≤ w1.heap.size := F1.size
    have HP := Lib.hid (And.intro hown (And.intro hl2 (And.intro F2 (And.intro B2 (And.intro ng (And.intro hsl hww))))))
    clear hR F0 B0 hl0 hleg hlen f1 F1 hl1 B1 G1 hown hl2 F2 B2 k3 hgw ng hsl hww
    by_cases k1 : k = 1
    · subst k1
      clear p1
      go_wp2_with (first
        | (at_builtin; refine wpList_apps encTm slTm rfl _ _ rfl HP.out.1 HP.out.2.1 rfl rfl (by have := HH.out.2.2.2.2.2; simp; omega) ?_; intro v2 w2 hown2 f2 hw2; have b2 := (HP.out.2.2.2.1.keep f2 HP.out.2.2.2.2.1).cell; have HO := Lib.hid (And.intro hown2 (And.intro f2 hw2)); clear hown2 f2 hw2)
        | (at_builtin; refine wpList_app encTm slTm rfl _ _ rfl HO.out.1 ⟨h, d, true⟩ rfl rfl (by have := HH.out.2.2.2.2.2; simp; omega) ?_ rfl; intro v3 w3 hown3 f3 hw3 _))
      go_ret
      obtain ⟨hR, F0, B0, hl0, hleg, hlen⟩ := HH.out
      obtain ⟨hown, hl2, F2, B2, ng, hsl, hww⟩ := HP.out
      obtain ⟨hown2, f2, hw2⟩ := HO.out
      have hn : ∀ t ∈ l, t.handle ≠ h := by
        rcases first_or l h with hn | ⟨j, t, hn⟩
        · exact hn
        · have := ((hR h).2 j t hn).1
          simp [legalB, this] at hleg
      have e1 : doM lv wr 1 h d = (upd lv h (some d), upd wr h (some d)) := by simp [doM]
      have nw2 : New w.heap.size v2 := by
        intro x hx
        rcases hw2 with hw2 | ⟨g', hw2, hg'⟩
        · rw [hw2] at hx; simp [sblk] at hx; omega
        · rw [hw2] at hx; simp at hx hg'; omega
      have f23 : Fr [] w w2 := F2.trans f2 (by simp [sblk]; omega)
      obtain ⟨gv, hgv⟩ := hown3.rd
      rw [e1]
      exact ⟨v3, l ++ [⟨h, d, true⟩], rfl, f23.trans f3 (fun x hx => .inr (nw2 x hx)), ⟨gv, 0, by simpa using hgv⟩, by simp, hR.push hn⟩
    · have k23 : (k = 2 ∨ k = 3) ∧ (lv h).isSome = true := by
        have hleg := HH.out.2.2.2.2.1
        have hk3 : ¬ 3 < k := by simpa using p1
        by_cases k2 : k = 2
        · subst k2; simp [legalB] at hleg; exact ⟨.inl rfl, hleg.1⟩
        · by_cases k3 : k = 3
          · subst k3; simp [legalB] at hleg; exact ⟨.inr rfl, hleg⟩
          · by_cases k4 : k = 4
            · omega
            · simp [legalB, k1, k2, k3, k4] at hleg; omega
      obtain ⟨k23, hlv⟩ := k23
      have hf : ∃ j t, First l h j t := by
        rcases first_or l h with hn | hf
        · have := ((HH.out.1 h).1 hn).2
          rw [this] at hlv; cases hlv
        · exact hf
      obtain ⟨j, t, hf⟩ := hf
      have q1 : (k == 1) = false := by simpa using k1
      have FN : ∀ W, Rd encTm W v l → Calls Try.prog 47 #[v, .int .u64 h] W fun e w' => e = .returned (.int .i64 j) ∧ W = w' := fun W hW => find_yes v l h j t W hW hf
      have e1 : doM lv wr k h d = (upd lv h none, wr) := by simp only [doM]; rw [if_neg k1, if_pos k23]
      have HK := Lib.hid (And.intro hf (And.intro FN e1))
      clear k1 k23 hlv hf FN e1
      go_wp2_with (first
        | (at_builtin; refine wpList_apps encTm slTm rfl _ _ rfl HP.out.1 HP.out.2.1 rfl rfl (by have := HH.out.2.2.2.2.2; simp; omega) ?_; intro v2 w2 hown2 f2 hw2; have b2 := (HP.out.2.2.2.1.keep f2 HP.out.2.2.2.2.1).cell; have HO := Lib.hid (And.intro hown2 (And.intro f2 hw2)); clear hown2 f2 hw2))
      refine (HK.out.2.1 w2 (HP.out.2.1.keepN HO.out.2.1 HP.out.2.2.2.2.2.1)).mono ?_
      rintro e w3 ⟨rfl, rfl⟩
      obtain ⟨hown2, f2, hw2⟩ := HO.out
      obtain ⟨hf, FN, e1⟩ := HK.out
      have hj := (List.getElem?_eq_some_iff.1 hf.at_).1
      rw [List.nil_append] at hown2
      obtain ⟨g2, hr2, hfz, hsb⟩ := hown2.rd' (by rintro rfl; simp at hj)
      have i1 := idxT hr2 hj
      have c1 := (tmAt hr2 hf.at_).2.2
      rw [Nat.zero_add] at i1 c1
      have hk2 := RdAt.kill hr2 hf.at_
      have hg2 : w.heap.size ≤ g2 := by
        have hww := HP.out.2.2.2.2.2.2
        rcases hw2 with hw2 | ⟨g', hw2, hg'⟩
        · rw [hsb] at hw2; simp [sblk] at hw2; omega
        · rw [hsb] at hw2; simp at hw2 hg'; omega
      have f23 : Fr [] w w2 := HP.out.2.2.1.trans f2 (by have := HP.out.2.2.2.2.2.2; simp [sblk]; omega)
      have f24 : Fr [] w (w2.setCell ⟨g2, j * 3 + 2, none⟩ (.bool false)) := f23.setCell (.inr hg2) _
      have fz1 := hfz (j * 3 + 2)
      have HQ := Lib.hid (And.intro hk2 f24)
      clear hown2 f2 hw2 hf FN e1 hr2 hfz hsb hk2 hg2 f23 f24 hj
      go_wp2
      go_ret
      obtain ⟨hf, FN, e1⟩ := HK.out
      rw [e1]
      exact ⟨v2, l.set j ⟨t.handle, t.deadline, false⟩, rfl, HQ.out.2, ⟨g2, 0, HQ.out.1⟩, by simp, HH.out.1.kill hf⟩
end Go.Proofs.Ytlpefbpamgeikaa
