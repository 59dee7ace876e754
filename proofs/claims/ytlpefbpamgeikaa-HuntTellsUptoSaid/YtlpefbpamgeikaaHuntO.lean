/- DERIVED. Chapter 44: the model in memory: Copy. -/
import Derived.Test.YtlpefbpamgeikaaHuntN
namespace Go.Proofs.Ytlpefbpamgeikaa
open Go.RowKit
open Go.ChangeMaps (setBlock)

/-- what a range loop has handed out lies in the other map -/
def Half (es : Array MapEntry) (f : Timers) (seen : Array Nat) (g : Timers) : Prop :=
  ∀ k, (g k = none ∧ ∃ e ∈ (leftOf es seen).toList, e.key = .int .u64 k) ∨ (g k = f k ∧ ∀ e ∈ (leftOf es seen).toList, e.key ≠ .int .u64 k)
theorem left_mem {es : Array MapEntry} {seen : Array Nat} {e : MapEntry} : e ∈ (leftOf es seen).toList ↔ e ∈ es.toList ∧ e.born ∉ seen := by
  simp [leftOf]
theorem half_start {es : Array MapEntry} {c : Nat} {f : Timers} (E : Ents (Value.int .u64) evD uok f es c) : Half es f #[] (fun _ => none) := by
  intro k
  cases hf : f k with
  | none =>
    refine .inr ⟨rfl, fun e he h => ?_⟩
    obtain ⟨k', v, h1, _, _, h2⟩ := E.keys e (left_mem.1 he).1
    rw [h] at h1; injection h1 with _ h1; subst h1; rw [hf] at h2; cases h2
  | some v =>
    obtain ⟨e, he, h1, _⟩ := E.has k v hf
    exact .inl ⟨rfl, e, left_mem.2 ⟨he, by simp⟩, h1⟩
theorem half_end {es : Array MapEntry} {f g : Timers} {seen : Array Nat} (h : Half es f seen g) (h0 : (leftOf es seen).size = 0) : g = f := by
  funext k
  rcases h k with ⟨_, e, he, _⟩ | ⟨h1, _⟩
  · have : (leftOf es seen).toList.length = 0 := by simpa using h0
    rw [List.length_eq_zero_iff.1 this] at he
    simp at he
  · exact h1
theorem half_step {es : Array MapEntry} {c : Nat} {f g : Timers} {seen : Array Nat} (E : Ents (Value.int .u64) evD uok f es c) (h : Half es f seen g) {e : MapEntry} (he : e ∈ (leftOf es seen).toList) {k v : Int} (hk : e.key = .int .u64 k) (hf : f k = some v) :
    Half es f (seen.push e.born) (upd g k (some v)) ∧ (leftOf es (seen.push e.born)).size < (leftOf es seen).size := by
  have hmem := (left_mem.1 he).1
  refine ⟨fun j => ?_, ?_⟩
  · by_cases hj : j = k
    · subst hj
      refine .inr ⟨by simp [upd, hf], fun x hx hh => ?_⟩
      obtain ⟨h1, h2⟩ := left_mem.1 hx
      obtain ⟨i, hi⟩ := List.mem_iff_getElem?.1 h1
      obtain ⟨i', hi'⟩ := List.mem_iff_getElem?.1 hmem
      have := apart_at E.apart hi hi' (hh.trans hk.symm)
      subst this
      rw [hi] at hi'; injection hi' with hi'; subst hi'
      simp at h2
    · rcases h j with ⟨h1, x, hx, h2⟩ | ⟨h1, h2⟩
      · refine .inl ⟨by simp [upd, hj, h1], x, ?_, h2⟩
        obtain ⟨h3, h4⟩ := left_mem.1 hx
        refine left_mem.2 ⟨h3, ?_⟩
        simp only [Array.mem_push, not_or]
        refine ⟨h4, fun hb => ?_⟩
        obtain ⟨i, hi⟩ := List.mem_iff_getElem?.1 h3
        obtain ⟨i', hi'⟩ := List.mem_iff_getElem?.1 hmem
        have hii : i = i' := by
          have hl : i < (es.toList.map (·.born)).length := by simpa using (List.getElem?_eq_some_iff.1 hi).1
          refine (List.getElem?_inj hl E.borns).1 ?_
          rw [List.getElem?_map, List.getElem?_map, hi, hi']; simp [hb]
        subst hii
        rw [hi] at hi'; injection hi' with hi'; subst hi'
        rw [hk] at h2; injection h2 with _ h2; exact hj h2.symm
      · refine .inr ⟨by simp [upd, hj, h1], fun x hx => h2 x ?_⟩
        obtain ⟨h3, h4⟩ := left_mem.1 hx
        exact left_mem.2 ⟨h3, fun hh => h4 (by simp [hh])⟩
  · have hsub : (leftOf es (seen.push e.born)).toList = (leftOf es seen).toList.filter fun x => !(x.born == e.born) := by
      simp only [leftOf, Array.toList_filter, List.filter_filter]
      congr 1
      funext x
      simp [Bool.and_comm]
      rfl
    have hlt : ((leftOf es seen).toList.filter fun x => !(x.born == e.born)).length < (leftOf es seen).toList.length := by
      refine List.length_filter_lt_length_iff_exists.2 ⟨e, he, by simp⟩
    rw [← hsub] at hlt
    simpa using hlt

theorem wpList_next_my {P : Program} (w : World) {ops : Array Oper} {rest : List Oper} {o : Oper} {a : Act} {Q : Exit → Act → World → Prop} (hg : o.guard = none) (it : Operand) (hop : o.op = Op.next it false)
    (r bm since c0 : Nat) (seen : Array Nat) (es : Array MapEntry) (clock : Nat) (f : Timers) (E : Ents (Value.int .u64) evD uok f es clock)
    (hit : a.eval it = .pointer (some ⟨r, 0, none⟩)) (hr : w.heap[r]? = some (.mapIter (some bm) since seen c0)) (hb : w.heap[bm]? = some (.map es clock)) (hold : ∀ x ∈ es.toList, x.born < since) (hsc : since ≤ c0) (hne : r ≠ bm)
    (hDone : (leftOf es seen).size = 0 → wpList P ops Q rest (a.put o.dst (.tuple #[.bool false])) w)
    (hMore : ∀ (k v : Int) (e : MapEntry) (w2 : World), uok k → f k = some v → e ∈ (leftOf es seen).toList → e.key = .int .u64 k → Fr [r] w w2 → w2.heap[r]? = some (.mapIter (some bm) since (seen.push e.born) clock) →
      (Instr.entry (.pointer (some ⟨r, 0, none⟩))).run P w2 = .ok (.tuple #[.int .u64 k, .agg #[.int .i64 v]]) w2 → wpList P ops Q rest (a.put o.dst (.tuple #[.bool true, .int .u64 k, .agg #[.int .i64 v]])) w2) :
    wpList P ops Q (o :: rest) a w := by
  refine wpList_plain hg fun K' hK' => ?_
  unfold Oper.wp
  rcases run_next_at (P := P) w o.type r bm since c0 seen es clock hr hb hold hsc with ⟨h0, hrun⟩ | ⟨e, he, w1, hw1, hrun⟩
  · simp [execOp, hop, hit, hrun, Result.andThen]
    exact hK' _ _ (hDone h0)
  · obtain ⟨k, v, h1, h2, h3, h4⟩ := E.keys e (left_mem.1 he).1
    have hr1 : w1.heap[r]? = some (.mapIter (some bm) since seen c0) := by rcases hw1 with rfl | rfl <;> exact hr
    have hb1 : w1.heap[bm]? = some (.map es clock) := by rcases hw1 with rfl | rfl <;> exact hb
    have hF : Fr [r] w w1 := by
      rcases hw1 with rfl | rfl
      · exact Fr.refl _ _
      · exact (Fr.refl _ _).drew
    have hr2 := sb_same (w := w1) (b := r) (Array.getElem?_eq_some_iff.1 hr1).1 (.mapIter (some bm) since (seen.push e.born) clock)
    have hb2 := (sb_other (w := w1) (b := r) (Ne.symm hne) (.mapIter (some bm) since (seen.push e.born) clock)).trans hb1
    have hen := run_entry_at (P := P) _ r bm since seen es clock e hr2 hb2 (left_mem.1 he).1 E.borns
    simp [execOp, hop, hit, hrun, Result.andThen]
    rw [h1, h2] at hen ⊢
    exact hK' _ _ (hMore k v e _ h3 h4 he h1 (hF.transS (sb_fr _ _ _)) hr2 hen)

theorem range_ok (w : World) (b : Nat) (es : Array MapEntry) (c : Nat) (hb : w.heap[b]? = some (.map es c)) :
    Sem.run Try.prog (Instr.range 80 (.map (some b))) w = .ok (.pointer (some ⟨w.heap.size, 0, none⟩)) (w.alloc (.mapIter (some b) c #[] c)) :=
  run_range_map w _ _ _ b es c Try.underlying80 hb
def leftN (es : Array MapEntry) (r : Nat) (w : World) : Nat := match w.heap[r]? with | some (.mapIter _ _ seen _) => (leftOf es seen).size | _ => 0
theorem leftN_at {es : Array MapEntry} {r : Nat} {w : World} {m : Option Nat} {s c : Nat} {seen : Array Nat} (h : w.heap[r]? = some (.mapIter m s seen c)) : leftN es r w = (leftOf es seen).size := by simp [leftN, h]

set_option maxRecDepth 20000 in
set_option maxHeartbeats 1000000 in
theorem copy_any (p bl bw : Nat) (lv ws : Timers) (w : World) (hm : ModAt w p bl bw lv ws) :
    Calls Try.prog 41 #[.pointer (some ⟨p, 0, none⟩)] w fun e w' => ∃ p' bl' bw', e = .returned (.pointer (some ⟨p', 0, none⟩)) ∧ Fr [] w w' ∧ ModAt w' p' bl' bw' lv ws ∧ w.heap.size ≤ p' ∧ w.heap.size ≤ bl' ∧ w.heap.size ≤ bw' := by
  have H := Lib.hid hm
  clear hm
  go_enter Try.func41, Try.ntmps41
  go_wp2_with fail
  refine (new_any w).mono ?_
  rintro e w1 ⟨p', bl', bw', rfl, f1, N1, l1, l2, l3⟩
  have M1 := H.out.keep0 f1
  have hlp := Nat.lt_of_lt_of_le H.out.box.lt l1
  have hn : p' ≠ bl ∧ p' ≠ bw ∧ bl' ≠ bl ∧ bl' ≠ bw ∧ bw' ≠ bl ∧ bw' ≠ bw ∧ p' ≠ p ∧ bl' ≠ p ∧ bw' ≠ p := by
    have := H.out.live.lt; have := H.out.were.lt; have := H.out.box.lt; omega
  obtain ⟨es, c, hes, E⟩ := M1.live
  have r1 := range_ok w1 bl es c hes
  have b1 := M1.box.cell
  have HH := Lib.hid (And.intro f1 (And.intro N1 (And.intro M1 (And.intro hn (And.intro hes (And.intro E (And.intro l1 (And.intro l2 l3))))))))
  clear f1 N1 M1 hn hes E l1 l2 l3 hlp H
  go_wp2_with fail
  obtain ⟨f1, N1, M1, hn, hes, E, l1, l2, l3⟩ := HH.out
  clear r1 b1
  have f2 : Fr [] w1 (w1.alloc (.mapIter (some bl) c #[] c)) := (Fr.refl _ _).alloc _
  have hr0 := heap_alloc_new w1 (.mapIter (some bl) c #[] c)
  have N2 := N1.keep0 f2
  have M2 := M1.keep0 f2
  have hes2 := (heap_alloc_old w1 (.mapIter (some bl) c #[] c) M1.live.lt).trans hes
  have hrn : w1.heap.size ≠ p ∧ w1.heap.size ≠ bl ∧ w1.heap.size ≠ bw ∧ w1.heap.size ≠ p' ∧ w1.heap.size ≠ bl' ∧ w1.heap.size ≠ bw' := by
    have := M1.box.lt; have := M1.live.lt; have := M1.were.lt; have := N1.box.lt; have := N1.live.lt; have := N1.were.lt; omega
  have f3 := f1.trans0 f2
  have l4 : w.heap.size ≤ w1.heap.size := f1.size
  have hit : (w1.alloc (.mapIter (some bl) c #[] c)).heap.size = w1.heap.size + 1 := by simp
  obtain ⟨r, hr⟩ : ∃ r, w1.heap.size = r := ⟨_, rfl⟩
  rw [hr] at hr0 hrn l4 hit ⊢
  clear hr
  obtain ⟨u, hu⟩ : ∃ u, w1.alloc (.mapIter (some bl) c #[] c) = u := ⟨_, rfl⟩
  rw [hu] at hr0 N2 M2 hes2 f3 hit ⊢
  clear hu HH f1 f2 N1 M1 hes
  have hlo : r < u.heap.size := by omega
  clear hit
  have K := Lib.hid (And.intro f3 (And.intro N2 (And.intro M2 (And.intro hn (And.intro hes2 (And.intro E (And.intro l1 (And.intro l2 (And.intro l3 (And.intro hr0 (And.intro hrn (And.intro l4 hlo))))))))))))
  clear f3 N2 M2 hn hes2 E l1 l2 l3 hr0 hrn l4 hlo
  go_loopw [16] (fun _ wr => ∃ (seen : Array Nat) (c0 : Nat) (g : Timers), wr.heap[r]? = some (.mapIter (some bl) c seen c0) ∧ c ≤ c0 ∧ Half es lv seen g ∧ MapAt (Value.int .u64) evD uok wr bl' g ∧ Fr [r, bl'] u wr)
    (fun _ wr => leftN es r wr)
  case atStart =>
    obtain ⟨f3, N2, M2, hn, hes2, E, l1, l2, l3, hr0, hrn, l4, hlo⟩ := K.out
    exact ⟨#[], c, _, hr0, Nat.le_refl _, half_start E, N2.live, Fr.refl _ _⟩
  case round =>
    obtain ⟨seen, c0, g, hr, hsc, hhalf, hmap, hF⟩ := hrel
    obtain ⟨f3, N2, M2, hn, hes2, E, l1, l2, l3, hr0, hrn, l4, hlo⟩ := K.out
    have hb : wr.heap[bl]? = some (.map es c) := (hF.block bl M2.live.lt (by simp; omega)).trans hes2
    have hne : r ≠ bl := hrn.2.1
    have R := Lib.hid (And.intro hr (And.intro hsc (And.intro hhalf (And.intro hmap hF))))
    clear f3 N2 M2 hn l1 l2 l3 hr0 hrn hhalf hmap hF l4 hlo hes2
    go_wp2_with (first
      | (at_next; refine wpList_next_my _ rfl _ rfl r bl c c0 seen es c lv E rfl hr hb E.lt hsc hne ?_ ?_)
      | go_in)
    · intro h0
      obtain ⟨-, -, hhalf, hmap, hF⟩ := R.out
      obtain rfl := half_end hhalf (by simp [h0])
      obtain ⟨f3, N2, M2, hn, hes2, -, l1, l2, l3, hr0, hrn, l4, hlo⟩ := K.out
      clear E hr hb hsc hne R K h0 hhalf hes2 hr0
      have N3 : ModAt wr p' bl' bw' g (fun _ => none) := ⟨N2.box.keep hF (by simp [Ne.symm hrn.2.2.2.1, N2.pl]), hmap, N2.were.keep hF (by simp [Ne.symm hrn.2.2.2.2.2, Ne.symm N2.ne]), N2.ne, N2.pl, N2.pw⟩
      have M3 : ModAt wr p bl bw g ws := M2.keep hF (by simp [Ne.symm hrn.1, Ne.symm hn.2.2.2.2.2.2.2.1]) (by simp [Ne.symm hrn.2.1, Ne.symm hn.2.2.1]) (by simp [Ne.symm hrn.2.2.1, Ne.symm hn.2.2.2.1])
      have f4 : Fr [] w wr := f3.trans hF (by simp only [List.mem_cons, List.not_mem_nil, or_false]; rintro x (rfl | rfl) <;> exact .inr (by omega))
      clear hF f3 N2 M2 hrn hlo hmap l4
      obtain ⟨es, c, hes, E⟩ := M3.were
      have r1 := range_ok wr bw es c hes
      have b1 := M3.box.cell
      have HH := Lib.hid (And.intro f4 (And.intro N3 (And.intro M3 (And.intro hn (And.intro hes (And.intro E (And.intro l1 (And.intro l2 l3))))))))
      clear f4 N3 M3 hn hes E l1 l2 l3
      go_wp2_with fail
      obtain ⟨f1, N1, M1, hn, hes, E, l1, l2, l3⟩ := HH.out
      clear r1 b1
      have f2 : Fr [] wr (wr.alloc (.mapIter (some bw) c #[] c)) := (Fr.refl _ _).alloc _
      have hr0 := heap_alloc_new wr (.mapIter (some bw) c #[] c)
      have N2 := N1.keep0 f2
      have M2 := M1.keep0 f2
      have hes2 := (heap_alloc_old wr (.mapIter (some bw) c #[] c) M1.were.lt).trans hes
      have hrn : wr.heap.size ≠ p ∧ wr.heap.size ≠ bl ∧ wr.heap.size ≠ bw ∧ wr.heap.size ≠ p' ∧ wr.heap.size ≠ bl' ∧ wr.heap.size ≠ bw' := by
        have := M1.box.lt; have := M1.live.lt; have := M1.were.lt; have := N1.box.lt; have := N1.live.lt; have := N1.were.lt; omega
      have f3 := f1.trans0 f2
      have l4 : w.heap.size ≤ wr.heap.size := f1.size
      have hit : (wr.alloc (.mapIter (some bw) c #[] c)).heap.size = wr.heap.size + 1 := by simp
      obtain ⟨r, hr⟩ : ∃ r, wr.heap.size = r := ⟨_, rfl⟩
      rw [hr] at hr0 hrn l4 hit ⊢
      clear hr
      obtain ⟨u, hu⟩ : ∃ u, wr.alloc (.mapIter (some bw) c #[] c) = u := ⟨_, rfl⟩
      rw [hu] at hr0 N2 M2 hes2 f3 hit ⊢
      clear hu HH f1 f2 N1 M1 hes
      have hlo : r < u.heap.size := by omega
      clear hit
      have K := Lib.hid (And.intro f3 (And.intro N2 (And.intro M2 (And.intro hn (And.intro hes2 (And.intro E (And.intro l1 (And.intro l2 (And.intro l3 (And.intro hr0 (And.intro hrn (And.intro l4 hlo))))))))))))
      clear f3 N2 M2 hn hes2 E l1 l2 l3 hr0 hrn l4 hlo
      go_loopw [32] (fun _ wr => ∃ (seen : Array Nat) (c0 : Nat) (g : Timers), wr.heap[r]? = some (.mapIter (some bw) c seen c0) ∧ c ≤ c0 ∧ Half es ws seen g ∧ MapAt (Value.int .u64) evD uok wr bw' g ∧ Fr [r, bw'] u wr)
        (fun _ wr => leftN es r wr)
      case atStart =>
        obtain ⟨f3, N2, M2, hn, hes2, E, l1, l2, l3, hr0, hrn, l4, hlo⟩ := K.out
        exact ⟨#[], c, _, hr0, Nat.le_refl _, half_start E, N2.were, Fr.refl _ _⟩
      case round =>
        obtain ⟨seen, c0, g2, hr, hsc, hhalf, hmap, hF⟩ := hrel
        obtain ⟨f3, N2, M2, hn, hes2, E, l1, l2, l3, hr0, hrn, l4, hlo⟩ := K.out
        have hb : wr.heap[bw]? = some (.map es c) := (hF.block bw M2.were.lt (by simp; omega)).trans hes2
        have hne : r ≠ bw := hrn.2.2.1
        have R := Lib.hid (And.intro hr (And.intro hsc (And.intro hhalf (And.intro hmap hF))))
        clear f3 N2 M2 hn l1 l2 l3 hr0 hrn hhalf hmap hF l4 hlo hes2
        go_wp2_with (first
          | (at_next; refine wpList_next_my _ rfl _ rfl r bw c c0 seen es c ws E rfl hr hb E.lt hsc hne ?_ ?_)
          | go_in)
        · intro h0
          obtain ⟨-, -, hhalf, hmap, hF⟩ := R.out
          obtain rfl := half_end hhalf (by simp [h0])
          obtain ⟨f3, N2, M2, hn, hes2, -, l1, l2, l3, hr0, hrn, l4, hlo⟩ := K.out
          clear E hr hb hsc hne R K h0 hhalf hes2 hr0
          have N3 : ModAt wr p' bl' bw' g g2 := ⟨N2.box.keep hF (by simp [Ne.symm hrn.2.2.2.1, N2.pw]), N2.live.keep hF (by simp [Ne.symm hrn.2.2.2.2.1, N2.ne]), hmap, N2.ne, N2.pl, N2.pw⟩
          have f4 : Fr [] w wr := f3.trans hF (by simp only [List.mem_cons, List.not_mem_nil, or_false]; rintro x (rfl | rfl) <;> exact .inr (by omega))
          have HH := Lib.hid (And.intro f4 (And.intro N3 (And.intro l1 (And.intro l2 l3))))
          clear f4 N3 M2 hn hF f3 N2 l1 l2 l3 hrn l4 hlo hmap
          go_wp2
          go_ret
          obtain ⟨h1, h2, h3, h4, h5⟩ := HH.out
          exact ⟨_, _, _, rfl, h1, h2, h3, h4, h5⟩
        · intro k v e w3 hk hf he hek f4 hr3 hen
          clear hr hb
          go_wp2_with fail
          obtain ⟨hr, hsc, hhalf, hmap, hF⟩ := R.out
          obtain ⟨f3, N2, M2, hn, hes2, E, l1, l2, l3, hr0, hrn, l4, hlo⟩ := K.out
          have F5 := hF.transS (f4.mono (S' := [r, bw']) (by simp))
          have F6 : Fr [] w3 (w3.alloc (.cells #[.int .i64 v] 88)) := (Fr.refl _ _).alloc _
          have B3 := Box.new w3 #[.int .i64 v] 88
          have F7 := F5.trans0 F6
          have D1 := (hmap.keep f4 (by simpa using Ne.symm hrn.2.2.2.2.2)).keep F6 (by simp)
          have P1 := N2.box.keep F7 (by simp [Ne.symm hrn.2.2.2.1, N2.pw])
          have R1 := (heap_alloc_old w3 (.cells #[.int .i64 v] 88) (Array.getElem?_eq_some_iff.1 hr3).1).trans hr3
          have e1 : w3.heap.size ≠ bw' := Nat.ne_of_gt (hmap.keep f4 (by simpa using Ne.symm hrn.2.2.2.2.2)).lt
          obtain ⟨q, hq⟩ : ∃ q, w3.heap.size = q := ⟨_, rfl⟩
          rw [hq] at B3 e1 ⊢
          clear hq
          obtain ⟨u3, hu⟩ : ∃ u, (w3.alloc (.cells #[.int .i64 v] 88)) = u := ⟨_, rfl⟩
          rw [hu] at F7 D1 P1 R1 B3 ⊢
          clear hu F6
          obtain ⟨et, ct, het, T⟩ := D1
          obtain ⟨et1, ct1, T1, r1⟩ := T.update keyU Try.underlying80 hk v
          have r1 := r1 u3.drew bw' het
          have g1 := sb_fr u3.drew bw' (.map et1 ct1)
          have g4 := sb_same (w := u3.drew) (b := bw') (Array.getElem?_eq_some_iff.1 het).1 (.map et1 ct1)
          have g3 := (sb_other (w := u3.drew) (k := r) hrn.2.2.2.2.2 (.map et1 ct1)).trans R1
          obtain ⟨v1, hv⟩ : ∃ v, setBlock u3.drew bw' (.map et1 ct1) = v := ⟨_, rfl⟩
          rw [hv] at r1 g1 g4 g3
          clear hv
          obtain ⟨s1, s2⟩ := half_step E hhalf (by simpa using he) hek hf
          have b1 := P1.drew.cell
          have b2 := B3.drew.cell
          unfold evD at r1
          have M9 : MapAt (Value.int .u64) evD uok v1 bw' (upd g2 k (some v)) := ⟨_, _, g4, T1⟩
          have s3 : leftN es r v1 < leftN es r wr := by rw [leftN_at g3, leftN_at hr]; exact s2
          have F9 := F7.drew.transS (g1.mono (S' := [r, bw']) (by simp))
          have HN := Lib.hid (And.intro g3 (And.intro (Nat.le_refl c) (And.intro s1 (And.intro M9 (And.intro F9 s3)))))
          clear M9 s3 F9
          clear R hsc hhalf hmap hF f3 N2 M2 hn hes2 E l1 l2 l3 hr0 hrn F5 f4 P1 R1 B3 e1 T T1 g1 g4 g3 s1 s2 hek hf he hk het hr3 l4 hlo F7 hr hen
          go_region
          all_goals
            go_wp2
            go_roundw
            case rel => obtain ⟨h1, h2, h3, h4, h5, h6⟩ := HN.out; exact ⟨_, _, _, h1, h2, h3, h4, h5⟩
            case measure => exact HN.out.2.2.2.2.2
    · intro k v e w3 hk hf he hek f4 hr3 hen
      clear hr hb
      go_wp2_with fail
      obtain ⟨hr, hsc, hhalf, hmap, hF⟩ := R.out
      obtain ⟨f3, N2, M2, hn, hes2, E, l1, l2, l3, hr0, hrn, l4, hlo⟩ := K.out
      have F5 := hF.transS (f4.mono (S' := [r, bl']) (by simp))
      have F6 : Fr [] w3 (w3.alloc (.cells #[.int .i64 v] 88)) := (Fr.refl _ _).alloc _
      have B3 := Box.new w3 #[.int .i64 v] 88
      have F7 := F5.trans0 F6
      have D1 := (hmap.keep f4 (by simpa using Ne.symm hrn.2.2.2.2.1)).keep F6 (by simp)
      have P1 := N2.box.keep F7 (by simp [Ne.symm hrn.2.2.2.1, N2.pl])
      have R1 := (heap_alloc_old w3 (.cells #[.int .i64 v] 88) (Array.getElem?_eq_some_iff.1 hr3).1).trans hr3
      have e1 : w3.heap.size ≠ bl' := Nat.ne_of_gt (hmap.keep f4 (by simpa using Ne.symm hrn.2.2.2.2.1)).lt
      obtain ⟨q, hq⟩ : ∃ q, w3.heap.size = q := ⟨_, rfl⟩
      rw [hq] at B3 e1 ⊢
      clear hq
      obtain ⟨u3, hu⟩ : ∃ u, (w3.alloc (.cells #[.int .i64 v] 88)) = u := ⟨_, rfl⟩
      rw [hu] at F7 D1 P1 R1 B3 ⊢
      clear hu F6
      obtain ⟨et, ct, het, T⟩ := D1
      obtain ⟨et1, ct1, T1, r1⟩ := T.update keyU Try.underlying80 hk v
      have r1 := r1 u3.drew bl' het
      have g1 := sb_fr u3.drew bl' (.map et1 ct1)
      have g2 := sb_same (w := u3.drew) (b := bl') (Array.getElem?_eq_some_iff.1 het).1 (.map et1 ct1)
      have g3 := (sb_other (w := u3.drew) (k := r) hrn.2.2.2.2.1 (.map et1 ct1)).trans R1
      obtain ⟨v1, hv⟩ : ∃ v, setBlock u3.drew bl' (.map et1 ct1) = v := ⟨_, rfl⟩
      rw [hv] at r1 g1 g2 g3
      clear hv
      obtain ⟨s1, s2⟩ := half_step E hhalf (by simpa using he) hek hf
      have b1 := P1.drew.cell
      have b2 := B3.drew.cell
      unfold evD at r1
      have M9 : MapAt (Value.int .u64) evD uok v1 bl' (upd g k (some v)) := ⟨_, _, g2, T1⟩
      have s3 : leftN es r v1 < leftN es r wr := by rw [leftN_at g3, leftN_at hr]; exact s2
      have F9 := F7.drew.transS (g1.mono (S' := [r, bl']) (by simp))
      have HN := Lib.hid (And.intro g3 (And.intro (Nat.le_refl c) (And.intro s1 (And.intro M9 (And.intro F9 s3)))))
      clear M9 s3 F9
      clear R hsc hhalf hmap hF f3 N2 M2 hn hes2 E l1 l2 l3 hr0 hrn F5 f4 P1 R1 B3 e1 T T1 g1 g2 g3 s1 s2 hek hf he hk het hr3 l4 hlo F7 hr hen
      go_region
      all_goals
        go_wp2
        go_roundw
        case rel => obtain ⟨h1, h2, h3, h4, h5, h6⟩ := HN.out; exact ⟨_, _, _, h1, h2, h3, h4, h5⟩
        case measure => exact HN.out.2.2.2.2.2
end Go.Proofs.Ytlpefbpamgeikaa
