/- DERIVED. Chapter 46: from, whole; Linear. -/
import Derived.Test.YtlpefbpamgeikaaHuntH
namespace Go.Proofs.Ytlpefbpamgeikaa
open Go.RowKit
open Go.ChangeMaps (setBlock)

theorem from_all (ps bb : Nat) (vl vt : Value) (x : List Rec) (A : Acts) (ts : List Int) (N : Nat) (hx : Say x A) : ∀ n, n ≤ 8 → FromAt ps bb vl vt x A ts N n
  | 0, _ => from_zero ps bb vl vt x A ts N
  | n + 1, h => from_succ ps bb vl vt x A ts N hx n h (from_all ps bb vl vt x A ts N hx n (by omega))

theorem Rd.lt {α : Type} {E : Enc α} {w : World} {v : Value} {xs : List α} (h : Rd E w v xs) (hne : xs ≠ []) : ∀ y ∈ sblk v, y < w.heap.size := by
  obtain ⟨b, off, ⟨ao, cap, rfl, ha, _⟩, _, hl⟩ := h
  rw [ha hne]
  intro y hy
  simp [sblk] at hy
  subst hy
  exact hl hne

/-- the records that have acts -/
def pos (l : List Rec) : List Rec := l.filter fun r => decide (0 < r.acts.n)
theorem pos_yes (l : List Rec) {k : Nat} {r : Rec} (h : l[k]? = some r) (hr : 0 < r.acts.n) : pos (l.take (k + 1)) = pos (l.take k) ++ [r] := by
  rw [take_at h]; simp [pos, hr]
theorem pos_no (l : List Rec) {k : Nat} {r : Rec} (h : l[k]? = some r) (hr : ¬ 0 < r.acts.n) : pos (l.take (k + 1)) = pos (l.take k) := by
  rw [take_at h]; simp [pos]; omega
theorem pos_len (l : List Rec) : (pos l).length ≤ lens l := by
  induction l with
  | nil => simp [pos, lens]
  | cons r l ih =>
    simp only [pos, lens, List.filter_cons, List.map_cons, List.sum_cons] at ih ⊢
    split
    · rename_i h; simp at h; simp; omega
    · omega
theorem lens_mem {l : List Rec} {r : Rec} (h : r ∈ l) : r.acts.n ≤ lens l := by
  induction l with
  | nil => simp at h
  | cons q l ih =>
    simp only [lens, List.map_cons, List.sum_cons] at ih ⊢
    rcases List.mem_cons.1 h with rfl | h
    · omega
    · have := ih h; omega
theorem pos_mem {l : List Rec} {r : Rec} (h : r ∈ pos l) : r ∈ l ∧ 0 < r.acts.n := by simpa [pos] using h
theorem pos_take (l : List Rec) (k : Nat) : (pos (l.take k)).length ≤ k := by
  have h1 := List.length_filter_le (fun r : Rec => decide (0 < r.acts.n)) (l.take k)
  have h2 : (l.take k).length ≤ k := List.length_take_le _ _
  simp only [pos]; omega

theorem cells0 : cv (List.replicate 8 0) = #[.int .u8 0, .int .u8 0, .int .u8 0, .int .u8 0, .int .u8 0, .int .u8 0, .int .u8 0, .int .u8 0] := rfl

/-- the loop of Linear -/
structure LinAt (ps bb : Nat) (vt : Value) (l : List Rec) (u : World) (k : Nat) (w : World) : Prop where
  box : ∃ v, Box w ps #[v, vt, .map (some bb)] ∧ Own encRec 52 w v (pos (l.take k)) ∧ New u.heap.size v
  fz : w.frozen? ⟨ps, 0, none⟩ = false
  mem : MapAt kvC evI CntOk w bb (fun _ => none)
  fr : Fr [ps] u w

theorem Own.isSlice {α : Type} {E : Enc α} {e : TypeId} {w : World} {v : Value} {xs : List α} (h : Own E e w v xs) : ∃ a n c, v = .slice a n c := by
  rcases h with ⟨rfl, _⟩ | ⟨g, cap, cur, rfl, _⟩
  · exact ⟨_, _, _, rfl⟩
  · exact ⟨_, _, _, rfl⟩
theorem Box.set {w : World} {g : Nat} {cs : Array Value} (h : Box w g cs) {i : Nat} (hi : i < cs.size) (u : Value) : Box (w.setCell ⟨g, i, none⟩ u) g (cs.setIfInBounds i u) := by
  refine ⟨fun j => ?_, by simpa using h.lt⟩
  by_cases hj : j = i
  · subst hj
    have hc := h.cell j
    rw [Array.getElem?_eq_getElem hi] at hc
    rw [World.cell?_setCell_same _ _ _ hc]
    simp [hi]
  · rw [World.cell?_setCell_other _ _ _ _ (by intro e; injection e with _ e; exact hj e.symm), h.cell, Array.getElem?_setIfInBounds_ne (Ne.symm hj)]
theorem LinAt.push {ps bb : Nat} {vt : Value} {l : List Rec} {u wr u1 w' : World} {k : Nat} {q : Rec} {v v' : Value} (h1 : bb < ps) (h2 : ps < u.heap.size) (hm : MapAt kvC evI CntOk wr bb (fun _ => none)) (hf : Fr [ps] u wr) (hq : l[k]? = some q) (hpos : 0 < q.acts.n)
    (F1 : Fr [] wr u1) (hn : New u.heap.size v) (bo : Box u1 ps #[v, vt, .map (some bb)]) (fz : w'.frozen? ⟨ps, 0, none⟩ = false) (hown : Own encRec 52 w' v' (pos (l.take k) ++ [q])) (hf1 : Fr (sblk v) u1.drew w')
    (hw1 : sblk v' = sblk v ∨ ∃ g, sblk v' = [g] ∧ u1.drew.heap.size ≤ g) : LinAt ps bb vt l u (k + 1) (w'.setCell ⟨ps, 0, none⟩ v') := by
  have hs1 : u.heap.size ≤ u1.heap.size := Nat.le_trans hf.size F1.size
  have hn' : New u.heap.size v' := hn.step (w := u1.drew) hs1 hw1
  have np : ps ∉ sblk v := fun h => by have := hn ps h; omega
  have np' : ps ∉ sblk v' := fun h => by have := hn' ps h; omega
  have nb : bb ∉ sblk v := fun h => by have := hn bb h; omega
  have bo' := (bo.drew.keep hf1 np).set (i := 0) (by simp) v'
  have FS : Fr [ps] w' (w'.setCell ⟨ps, 0, none⟩ v') := (Fr.refl _ _).setCell (.inl (by simp)) _
  refine ⟨⟨v', by simpa using bo', ?_, hn'⟩, by simpa using fz, ?_, ?_⟩
  · rw [pos_yes l hq hpos]
    exact hown.keep FS (fun x hx => by simp; rintro rfl; exact np' hx)
  · exact ((hm.keep F1.drew (by simp)).keep hf1 nb).keep FS (by simp; omega)
  · refine ((hf.trans0 F1.drew).trans hf1 (fun x hx => .inr (hn x hx))).transS FS
theorem LinAt.pass {ps bb : Nat} {vt : Value} {l : List Rec} {u wr w' : World} {k : Nat} {q : Rec} (h : LinAt ps bb vt l u k wr) (hq : l[k]? = some q) (hpos : ¬ 0 < q.acts.n) (F1 : Fr [] wr w') : LinAt ps bb vt l u (k + 1) w' := by
  obtain ⟨⟨v, bo, ho, hn⟩, fz, hm, hf⟩ := h
  exact ⟨⟨v, bo.keep0 F1, by rw [pos_no l hq hpos]; exact ho.keep0 F1, hn⟩, (F1.frozen bo.lt (by simp) 0).trans fz, hm.keep F1 (by simp), hf.trans0 F1⟩

set_option maxRecDepth 20000 in
set_option maxHeartbeats 2000000 in
theorem linear_any (vl vt : Value) (l : List Rec) (A : Acts) (ts : List Int) (w : World) (hl : Rd encRec w vl l) (ht : Rd encI w vt ts) (ha : ∀ r ∈ l, Rd encAct w (.slice r.acts.a r.acts.n r.acts.c) (A r)) (hlen : l.length ≤ 100)
    (hfin : ∀ r ∈ l, okInt .i64 r.fin) (hu : ∀ r ∈ l, ∀ a ∈ A r, uok a.handle) (h8 : lens l ≤ 8) :
    Calls Try.prog 25 #[vl, vt] w fun e w' => e = .returned (.tuple #[.bool (srch (pos l) A ts (lens l) (List.replicate 8 0) (fun _ => none) (fun _ => none)), .int .i64 0]) ∧ Fr [] w w' := by
  have AC := acts_any vl l w hl (by omega) hlen (fun r hr => ⟨_, ha r hr⟩)
  obtain ⟨ta, tn, tc, rfl⟩ : ∃ ta tn tc, vt = .slice ta tn tc := by obtain ⟨_, _, ⟨_, _, h, _⟩, _⟩ := ht; exact ⟨_, _, _, h⟩
  obtain ⟨res, hres⟩ : ∃ res, srch (pos l) A ts (lens l) (List.replicate 8 0) (fun _ => none) (fun _ => none) = res := ⟨_, rfl⟩
  rw [hres]
  obtain ⟨N, hN⟩ : ∃ N, lens l = N := ⟨_, rfl⟩
  rw [hN] at AC hres h8
  obtain ⟨bx, ox, hx1⟩ := hl
  have l0 := lenR hx1
  have AH := Lib.hid AC
  have HH := Lib.hid (And.intro hx1 (And.intro ht (And.intro ha (And.intro hfin (And.intro hu (And.intro hN hres))))))
  have hmm := @run_makeMap Try.prog
  clear AC hx1 ht ha hfin hu hN hres
  go_enter Try.func25, Try.ntmps25
  go_wp2_with fail
  refine AH.out.mono ?_
  clear AH
  rintro e w1 ⟨rfl, f1⟩
  have HF := Lib.hid f1
  clear f1
  go_wp2_with fail
  clear hmm
  obtain ⟨hx1, ht, ha, hfin, hu, hN, hres⟩ := HH.out
  have m1 := MapAt.made kvC evI CntOk w1
  have G1 : Fr [] w1 (w1.alloc (.map #[] 0)) := (Fr.refl _ _).alloc _
  have m3 := Box.new (w1.alloc (.map #[] 0)) #[.slice none 0 0, .slice ta tn tc, .map (some w1.heap.size)] 69
  have fz := World.frozen?_alloc_new (w1.alloc (.map #[] 0)) #[.slice none 0 0, .slice ta tn tc, .map (some w1.heap.size)] 69 0
  have G2 : Fr [] (w1.alloc (.map #[] 0)) ((w1.alloc (.map #[] 0)).alloc (.cells #[.slice none 0 0, .slice ta tn tc, .map (some w1.heap.size)] 69)) := (Fr.refl _ _).alloc _
  replace m1 := m1.keep G2 (by simp)
  have G3 := HF.out.trans0 (G1.trans0 G2)
  have e0 : w.heap.size ≤ w1.heap.size := HF.out.size
  have e1 : (w1.alloc (.map #[] 0)).heap.size = w1.heap.size + 1 := by simp
  have e2 : ((w1.alloc (.map #[] 0)).alloc (.cells #[.slice none 0 0, .slice ta tn tc, .map (some w1.heap.size)] 69)).heap.size = w1.heap.size + 2 := by simp
  rw [e1] at m3 fz
  obtain ⟨bb, hbb⟩ : ∃ bb, w1.heap.size = bb := ⟨_, rfl⟩
  rw [hbb] at m1 m3 fz G3 e0 e2 ⊢
  obtain ⟨u, hu0⟩ : ∃ u, (w1.alloc (.map #[] 0)).alloc (.cells #[.slice none 0 0, .slice ta tn tc, .map (some bb)] 69) = u := ⟨_, rfl⟩
  rw [hu0] at m1 m3 fz G3 e2 ⊢
  obtain ⟨ps, hps⟩ : ∃ ps, bb + 1 = ps := ⟨_, rfl⟩
  rw [hps] at m3 fz ⊢
  have hbp : bb < ps ∧ ps < u.heap.size ∧ w.heap.size ≤ bb := by omega
  have LS : LinAt ps bb (.slice ta tn tc) l u 0 u := ⟨⟨_, m3, Own.nil _ _ _, New.nil _⟩, fz, m1, Fr.refl _ _⟩
  have HH2 := Lib.hid (And.intro LS (And.intro G3 hbp))
  clear HF hx1 ht ha hfin hu hN hres m1 G1 m3 fz G2 G3 e0 e1 e2 hbb hu0 hps hbp LS
  go_loopw [20] (fun i wr => ∃ k : Nat, k ≤ l.length ∧ i = .int .i64 k ∧ LinAt ps bb (.slice ta tn tc) l u k wr) (fun i _ => l.length - (intOf i).toNat)
  case atStart => exact ⟨0, by omega, rfl, HH2.out.1⟩
  case round =>
    obtain ⟨k, hk, rfl, hL⟩ := hrel
    have HL := Lib.hid hL
    clear hL
    by_cases hlt : k < l.length
    · obtain ⟨q, hq⟩ := at_of l hlt
      obtain ⟨hx1, ht, ha, hfin, hu, hN, hres⟩ := HH.out
      obtain ⟨LS, G3, h1, h2, h3⟩ := HH2.out
      have FW : Fr [] w wr := G3.trans HL.out.fr (by simp; omega)
      have i1 := idxR hx1 hlt
      have c1 := recAt (hx1.keep0 FW) hq
      obtain ⟨bq, oq, hac⟩ := ha q (List.mem_of_getElem? hq)
      have l2 := lenA hac
      rw [acts_len ⟨_, _, hac⟩] at l2
      have F1 := (Fr.refl [] wr).alloc (.cells #[.int .i64 q.thread, .int .i64 q.call.kind, .int .i64 q.call.deadline, .int .u64 q.call.draw, .int .u64 q.call.handle, .int .i64 q.call.count, .int .i64 q.beg, .int .i64 q.fin, .bool q.done, .int .i64 q.err, .bool q.aok, .int .u64 q.ahandle, .slice q.batch.a q.batch.n q.batch.c, .slice q.acts.a q.acts.n q.acts.c] 52)
      have B1 := Box.new wr #[.int .i64 q.thread, .int .i64 q.call.kind, .int .i64 q.call.deadline, .int .u64 q.call.draw, .int .u64 q.call.handle, .int .i64 q.call.count, .int .i64 q.beg, .int .i64 q.fin, .bool q.done, .int .i64 q.err, .bool q.aok, .int .u64 q.ahandle, .slice q.batch.a q.batch.n q.batch.c, .slice q.acts.a q.acts.n q.acts.c] 52
      have HN := Lib.hid (And.intro F1 (And.intro B1 (And.intro hq FW)))
      clear hx1 ht ha hfin hu hN hres LS G3 h1 h2 h3 FW hac F1 B1 hq
      by_cases hpos : 0 < q.acts.n
      · have d1 : decide ((0 : Int) < q.acts.n) = true := by simp; omega
        go_upto_region 9 with (fail)
        clear i1 c1 l2 d1
        obtain ⟨F1, B1, hq, FW⟩ := HN.out
        obtain ⟨LS, G3, h1, h2, h3⟩ := HH2.out
        obtain ⟨⟨v, bo, ho, hn⟩, fz, hm, hf⟩ := HL.out
        have hul := hf.size
        have hps : wr.heap.size ≠ ps := by have := bo.lt; omega
        have bo1 := bo.keep0 F1
        have ho1 := ho.keep0 F1
        have fz1 : (wr.alloc (.cells #[.int .i64 q.thread, .int .i64 q.call.kind, .int .i64 q.call.deadline, .int .u64 q.call.draw, .int .u64 q.call.handle, .int .i64 q.call.count, .int .i64 q.beg, .int .i64 q.fin, .bool q.done, .int .i64 q.err, .bool q.aok, .int .u64 q.ahandle, .slice q.batch.a q.batch.n q.batch.c, .slice q.acts.a q.acts.n q.acts.c] 52)).frozen? ⟨ps, 0, none⟩ = false := (F1.frozen bo.lt (by simp) 0).trans fz
        have HM := Lib.hid (And.intro hm (And.intro hf (And.intro hq (And.intro hul (And.intro hn F1)))))
        clear F1 FW hq LS G3 fz hm hf ho HN bo HL hul
        obtain ⟨eb, heb⟩ : ∃ eb, wr.heap.size = eb := ⟨_, rfl⟩
        rw [heb] at B1 hps ⊢
        clear heb
        obtain ⟨u1, hu1⟩ : ∃ u1, wr.alloc (.cells #[.int .i64 q.thread, .int .i64 q.call.kind, .int .i64 q.call.deadline, .int .u64 q.call.draw, .int .u64 q.call.handle, .int .i64 q.call.count, .int .i64 q.beg, .int .i64 q.fin, .bool q.done, .int .i64 q.err, .bool q.aok, .int .u64 q.ahandle, .slice q.batch.a q.batch.n q.batch.c, .slice q.acts.a q.acts.n q.acts.c] 52) = u1 := ⟨_, rfl⟩
        rw [hu1] at B1 bo1 ho1 fz1 HM ⊢
        clear hu1
        have np : ps ∉ sblk v := fun h => by have := hn ps h; omega
        have b3 := (box3 bo1.drew).1
        have b4 := (box3 (bo1.drew.keep0 ((Fr.refl [] u1.drew).alloc (.cells #[.int .i64 q.thread, .int .i64 q.call.kind, .int .i64 q.call.deadline, .int .u64 q.call.draw, .int .u64 q.call.handle, .int .i64 q.call.count, .int .i64 q.beg, .int .i64 q.fin, .bool q.done, .int .i64 q.err, .bool q.aok, .int .u64 q.ahandle, .slice q.batch.a q.batch.n q.batch.c, .slice q.acts.a q.acts.n q.acts.c] 52)))).1
        have b5 := (box3 bo1).1
        have b14 := box14 B1.drew
        have lt1 := bo1.lt
        have lt2 := B1.lt
        have ho2 : Own encRec 52 u1.drew v (pos (l.take k)) := ho1.keep0 (Fr.refl [] u1).drew
        have hpl := pos_take l k
        have fz2 : ∀ w', Fr (sblk v) u1.drew w' → w'.frozen? ⟨ps, 0, none⟩ = false := fun w' hw' => (hw'.frozen (show ps < u1.drew.heap.size from lt1) np 0).trans fz1
        have cl2 : ∀ w', Fr (sblk v) u1.drew w' → w'.cell? ⟨ps, 0, none⟩ = some v := fun w' hw' => (bo1.drew.keep hw' np).cell 0
        have HO := Lib.hid (And.intro ho2 (And.intro fz2 (And.intro bo1 (And.intro hpl cl2))))
        clear ho1 ho2 fz1 bo1 B1 hpl fz2 cl2
        go_region_law (first | (refine step_app encRec slRec rfl _ _ rfl HO.out.1 q rfl rfl (by have := HO.out.2.2.2.1; omega) rfl ?_; intro v' w' hown' hf1 hw1 hnn; have fz3 := HO.out.2.1 w' hf1; have cl3 := HO.out.2.2.2.2 w' hf1; obtain ⟨va, vn, vc, rfl⟩ := hown'.isSlice))
        all_goals
          obtain ⟨_, _, bo1, _, _⟩ := HO.out
          obtain ⟨hm, hf, hq, hul, hn, F1⟩ := HM.out
          have HQ := Lib.hid (LinAt.push h1 h2 hm hf hq hpos F1 hn bo1 fz3 hown' hf1 hw1)
          clear HO HM bo1 hm hf hq hul hn F1 fz3 hown' hf1 hw1 b3 b4 b5 b14 lt1 lt2 cl3 hnn hpos
          go_wp2
          go_roundw
          case rel => exact ⟨k + 1, by omega, by go_num, HQ.out⟩
          case measure => simp [intOf]; omega
      · have hz : q.acts.n = 0 := by omega
        have d1 : decide ((0 : Int) < q.acts.n) = false := by simp; omega
        have d2 : decide (0 < q.acts.n) = false := by simp; omega
        have HQ := Lib.hid (HL.out.pass HN.out.2.2.1 hpos HN.out.1)
        clear hz hpos HL HN
        go_wp2
        go_roundw
        case rel => exact ⟨k + 1, by omega, by go_num, HQ.out⟩
        case measure => simp [intOf]; omega
    · obtain rfl : k = l.length := by omega
      obtain ⟨⟨v, bo, ho, hn⟩, fz, hm, hf⟩ := HL.out
      rw [List.take_length] at ho
      obtain ⟨LS, G3, h1, h2, h3⟩ := HH2.out
      obtain ⟨hx1, ht, ha, hfin, hu, hN, hres⟩ := HH.out
      have NW := new_any wr
      have hul := hf.size
      have FW : Fr [] w wr := G3.trans hf (by simp; omega)
      have b0 := (box3 bo).1
      have HZ := Lib.hid (And.intro hm (And.intro bo (And.intro ho (And.intro hn (And.intro FW hul)))))
      have NH := Lib.hid NW
      clear LS G3 hx1 ht ha hfin hu hN hres NW FW hul hm bo ho fz hf hn HL
      go_wp2_with fail
      refine NH.out.mono ?_
      clear NH
      rintro e w2 ⟨p, bl, bw, rfl, f2, M2, z1, z2, z3⟩
      obtain ⟨LS, G3, h1, h2, h3⟩ := HH2.out
      obtain ⟨hx1, ht, ha, hfin, hu, hN, hres⟩ := HH.out
      obtain ⟨hm, bo, ho, hn, FW, hul⟩ := HZ.out
      obtain ⟨gv, hgv⟩ := ho.rd
      have hsay : Say (pos l) A := ⟨by have := pos_len l; omega, fun r hr => by have := lens_mem (pos_mem hr).1; omega, fun r hr => hfin r (pos_mem hr).1, fun r hr => hu r (pos_mem hr).1⟩
      have FW2 := FW.trans0 f2
      have hna : ∀ r ∈ pos l, ∀ y ∈ sblk (.slice r.acts.a r.acts.n r.acts.c), y ≠ bb := by
        intro r hr y hy
        have hrd := ha r (pos_mem hr).1
        have hne : A r ≠ [] := by
          intro e
          have h5 := acts_len hrd
          rw [e] at h5
          have := (pos_mem hr).2
          simp at h5
          omega
        have := hrd.lt hne y hy
        omega
      have SA : SrchAt w2 ps bb v (.slice ta tn tc) (pos l) A ts := ⟨bo.keep0 f2, ⟨_, _, hgv.keep0 f2⟩, ht.keep0 FW2, fun r hr => (ha r (pos_mem hr).1).keep0 FW2, by omega, fun y hy => by have := hn y hy; omega,
        fun hne y hy => by have := ht.lt hne y hy; omega, hna⟩
      have hbb := hm.lt
      have FR := from_all ps bb v (.slice ta tn tc) (pos l) A ts N hsay N h8 (List.replicate 8 0) (fun _ => none) (fun _ => none) p bl bw (fun _ => none) 0 w2 SA M2 (hm.keep f2 (by simp)) ⟨rfl, by simp⟩ (by simp) (Inv.start _ _ 8)
        ⟨by simp⟩ (Int.le_refl 0) (by have := Fn_8 N h8; omega) (by omega) (by omega) (by omega)
      rw [hres, cells0] at FR
      have RH := Lib.hid FR
      have FH := Lib.hid (And.intro FW2 h3)
      clear LS G3 h1 h2 h3 hx1 ht ha hfin hu hN hres hm bo ho hn FW hul hgv hsay FW2 hna SA hbb FR f2 M2 z1 z2 z3 HZ HH HH2 b0
      go_wp2_with fail
      with_reducible refine RH.out.mono ?_
      clear RH
      rintro e w3 ⟨rfl, f3, -⟩
      have F3 : Fr [] w w3 := FH.out.1.trans f3 (by simp; exact FH.out.2)
      have HE := Lib.hid F3
      clear F3 f3 FH
      go_wp2
      go_ret2
      exact ⟨rfl, HE.out⟩
end Go.Proofs.Ytlpefbpamgeikaa
