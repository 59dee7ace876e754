/- DERIVED. Chapter 46: from: the walk. -/
import Derived.Test.YtlpefbpamgeikaaHuntF
namespace Go.Proofs.Ytlpefbpamgeikaa
open Go.RowKit
open Go.ChangeMaps (setBlock)

/-- been[c]++ : in memory -/
theorem been_ok (es : Array MapEntry) (clock : Nat) (f : Memo) (c : List Nat) (hc : CntOk c) (E : Ents kvC evI CntOk f es clock) :
    ∃ (es1 : Array MapEntry) (clock1 st : Nat) (es2 : Array MapEntry), Ents kvC evI CntOk (upd f c (some ((f c).getD 0 + 1))) es2 clock1 ∧
      (∀ (W : World) (b : Nat), W.heap[b]? = some (.map es clock) → Sem.run Try.prog (Instr.lookup 67 (.map (some b)) (.agg (cv c)) false) W = .ok (.int .i64 ((f c).getD 0)) W) ∧
      (∀ (W : World) (b : Nat), W.heap[b]? = some (.map es1 clock1) → Sem.run Try.prog (Instr.lookup 67 (.map (some b)) (.agg (cv c)) false) W = .ok (.int .i64 ((f c).getD 0)) W) ∧
      (∀ (W : World) (b : Nat), W.heap[b]? = some (.map es2 clock1) → Sem.run Try.prog (Instr.lookup 67 (.map (some b)) (.agg (cv c)) false) W = .ok (.int .i64 ((f c).getD 0 + 1)) W) ∧
      (∀ (W : World) (b : Nat), W.heap[b]? = some (.map es clock) → Sem.run Try.prog (Instr.mapEntry 67 (.map (some b)) (.agg (cv c))) W = .ok (.tuple #[.int .i64 ((f c).getD 0), .int .i64 st]) (setBlock W b (.map es1 clock1))) ∧
      ∀ (W : World) (b : Nat), W.heap[b]? = some (.map es1 clock1) → Sem.run Try.prog (Instr.entryStore 67 (.map (some b)) (.int .i64 st) (.int .i64 ((f c).getD 0 + 1))) W = .ok () (setBlock W b (.map es2 clock1)) := by
  obtain ⟨es1, c1, st, h1, h2, h3⟩ := E.entry keyC Try.underlying67 zeroI hc
  obtain ⟨es2, h4, h5⟩ := h3 ((f c).getD 0 + 1)
  refine ⟨es1, c1, st, es2, h4, fun W b hb => E.lookup keyC Try.underlying67 zeroI hc W b hb, fun W b hb => ?_, fun W b hb => ?_, h2, h5⟩
  · have := h1.lookup keyC Try.underlying67 zeroI hc W b hb
    simpa [upd, evI, kvC] using this
  · have := h4.lookup keyC Try.underlying67 zeroI hc W b hb
    simpa [upd, evI, kvC] using this

theorem box8 {W : World} {g : Nat} {c : List Nat} {c0 c1 c2 c3 c4 c5 c6 c7 : Nat} (h : Box W g (cv c)) (hc : c = [c0, c1, c2, c3, c4, c5, c6, c7]) :
    W.cell? ⟨g, 0, none⟩ = some (.int .u8 c0) ∧ W.cell? ⟨g, 1, none⟩ = some (.int .u8 c1) ∧ W.cell? ⟨g, 2, none⟩ = some (.int .u8 c2) ∧ W.cell? ⟨g, 3, none⟩ = some (.int .u8 c3) ∧
    W.cell? ⟨g, 4, none⟩ = some (.int .u8 c4) ∧ W.cell? ⟨g, 5, none⟩ = some (.int .u8 c5) ∧ W.cell? ⟨g, 6, none⟩ = some (.int .u8 c6) ∧ W.cell? ⟨g, 7, none⟩ = some (.int .u8 c7) := by
  subst hc
  exact ⟨h.cell 0, h.cell 1, h.cell 2, h.cell 3, h.cell 4, h.cell 5, h.cell 6, h.cell 7⟩
theorem box3 {W : World} {g : Nat} {a b c : Value} (h : Box W g #[a, b, c]) : W.cell? ⟨g, 0, none⟩ = some a ∧ W.cell? ⟨g, 1, none⟩ = some b ∧ W.cell? ⟨g, 2, none⟩ = some c := ⟨h.cell 0, h.cell 1, h.cell 2⟩

theorem idxA8 {w : World} {v : Value} {xs : List ActR} {b off : Nat} (h : RdAt encAct w v xs b off) {k : Nat} (hk : k < xs.length) (W : World) :
    Sem.run Try.prog (Instr.indexAt 50 v (.int .u8 k)) W = .ok (.pointer (some ⟨b, off + k * 4, none⟩)) W := by
  obtain ⟨⟨ao, cap, rfl, ha, _⟩, _⟩ := h
  have hne : xs ≠ [] := by rintro rfl; simp at hk
  obtain ⟨ht, i, z, hi, hz, hsz, hzc, hby⟩ := slAct
  have he : Try.prog.elem 50 = 65 := by simp [Program.elem, ht]
  rw [ha hne, run_indexAt_slice (h := by rw [he]; exact ht), if_pos ⟨by omega, by omega⟩]
  simp [he, sizeOf, typeInfo, hi, hsz, Addr.add, encAct]
theorem box14 {W : World} {g : Nat} {q : Rec} (h : Box W g #[.int .i64 q.thread, .int .i64 q.call.kind, .int .i64 q.call.deadline, .int .u64 q.call.draw, .int .u64 q.call.handle, .int .i64 q.call.count, .int .i64 q.beg, .int .i64 q.fin, .bool q.done, .int .i64 q.err, .bool q.aok, .int .u64 q.ahandle, .slice q.batch.a q.batch.n q.batch.c, .slice q.acts.a q.acts.n q.acts.c]) :
    W.cell? ⟨g, 0, none⟩ = some (.int .i64 q.thread) ∧ W.cell? ⟨g, 1, none⟩ = some (.int .i64 q.call.kind) ∧ W.cell? ⟨g, 2, none⟩ = some (.int .i64 q.call.deadline) ∧ W.cell? ⟨g, 3, none⟩ = some (.int .u64 q.call.draw) ∧ W.cell? ⟨g, 4, none⟩ = some (.int .u64 q.call.handle) ∧ W.cell? ⟨g, 5, none⟩ = some (.int .i64 q.call.count) ∧ W.cell? ⟨g, 6, none⟩ = some (.int .i64 q.beg) ∧ W.cell? ⟨g, 7, none⟩ = some (.int .i64 q.fin) ∧ W.cell? ⟨g, 8, none⟩ = some (.bool q.done) ∧ W.cell? ⟨g, 9, none⟩ = some (.int .i64 q.err) ∧ W.cell? ⟨g, 10, none⟩ = some (.bool q.aok) ∧ W.cell? ⟨g, 11, none⟩ = some (.int .u64 q.ahandle) ∧ W.cell? ⟨g, 12, none⟩ = some (.slice q.batch.a q.batch.n q.batch.c) ∧ W.cell? ⟨g, 13, none⟩ = some (.slice q.acts.a q.acts.n q.acts.c) :=
  ⟨h.cell 0, h.cell 1, h.cell 2, h.cell 3, h.cell 4, h.cell 5, h.cell 6, h.cell 7, h.cell 8, h.cell 9, h.cell 10, h.cell 11, h.cell 12, h.cell 13⟩

/-- what the search says of its own -/
structure Say (x : List Rec) (A : Acts) : Prop where
  len : x.length ≤ 8
  acts : ∀ r ∈ x, r.acts.n ≤ 8
  fin : ∀ r ∈ x, okInt .i64 r.fin
  uok : ∀ r ∈ x, ∀ a ∈ A r, uok a.handle

/-- the claim on a call of from, n acts left -/
def FromAt (ps bb : Nat) (vl vt : Value) (x : List Rec) (A : Acts) (ts : List Int) (N n : Nat) : Prop :=
  ∀ (c : List Nat) (lv ws : Timers) (p bl bw : Nat) (f : Memo) (V : Int) (w : World), SrchAt w ps bb vl vt x A ts → ModAt w p bl bw lv ws → MapAt kvC evI CntOk w bb f → CntOk c → c.sum + n = N → Inv x A c lv ws →
    MemoOk x A ts N f c.sum V → 0 ≤ V → V + Fn n ≤ 4611686018427387904 → p ≠ bb → bl ≠ bb → bw ≠ bb →
    Calls Try.prog 35 #[.pointer (some ⟨ps, 0, none⟩), .agg (cv c), .int .i64 n, .pointer (some ⟨p, 0, none⟩)] w fun e w' => e = .returned (.bool (srch x A ts n c lv ws)) ∧ Fr [bb] w w' ∧
      (srch x A ts n c lv ws = false → ∃ g, MapAt kvC evI CntOk w' bb g ∧ Grew x A ts N f g (V + Fn n))

set_option maxRecDepth 20000 in
set_option maxHeartbeats 1000000 in
theorem from_zero (ps bb : Nat) (vl vt : Value) (x : List Rec) (A : Acts) (ts : List Int) (N : Nat) : FromAt ps bb vl vt x A ts N 0 := by
  intro c lv ws p bl bw f V w h hm hmap hc hsum hI hM hV0 hV hp hl hw
  obtain ⟨cs, hcs⟩ : ∃ cs, cv c = cs := ⟨_, rfl⟩
  rw [hcs]
  have F0 := (Fr.refl [bb] w).alloc (.cells cs 72)
  have H := Lib.hid F0
  clear h hm hmap hM F0 hV
  go_enter Try.func35, Try.ntmps35
  go_wp2
  go_ret
  exact ⟨rfl, H.out, by simp [srch]⟩

/-- c was looked at: it is dead -/
theorem seen_dead {x : List Rec} {A : Acts} {ts : List Int} {N n : Nat} {c : List Nat} {lv ws : Timers} {f : Memo} {V : Int} (hI : Inv x A c lv ws) (hsum : c.sum + n = N) (hM : MemoOk x A ts N f c.sum V) {m : Int} (hf : f c = some m) :
    srch x A ts n c lv ws = false := by
  obtain ⟨_, _, h⟩ := hM.at_ c m hf
  have h : ¬ S x A ts N c := by rcases h with h | h; exact h; omega
  rw [S_iff hI hsum] at h
  simpa using h
theorem seen_grew {x : List Rec} {A : Acts} {ts : List Int} {N : Nat} {c : List Nat} {f : Memo} {V : Int} (hM : MemoOk x A ts N f c.sum V) {m : Int} (hf : f c = some m) {U : Int} (hU : V + 1 ≤ U) :
    Grew x A ts N f (upd f c (some (m + 1))) U := by
  intro c' k h
  unfold upd at h
  split at h
  · rename_i e
    injection h with h
    have := hM.at_ c m hf
    exact ⟨by omega, by omega, .inl (by rw [e, hf]; simp)⟩
  · have := hM.at_ c' k h
    exact ⟨this.1, by omega, .inl (by simp [h])⟩

/-- the loop over the records, k of them looked at -/
structure LoopAt (x : List Rec) (A : Acts) (ts : List Int) (N n : Nat) (c : List Nat) (lv ws : Timers) (f : Memo) (V : Int) (bb : Nat) (u : World) (k : Nat) (g : Memo) (w : World) : Prop where
  mem : MapAt kvC evI CntOk w bb g
  grew : ∀ c' m, g c' = some m → 1 ≤ m ∧ m ≤ V + 1 + k * Fn n ∧ (f c' ≠ none ∨ c' = c ∨ ¬ S x A ts N c')
  nope : ∀ i r a, i < k → StepOk x A ts c lv ws i r a → srch x A ts n (bump c i) (doM lv ws a.kind a.handle a.deadline).1 (doM lv ws a.kind a.handle a.deadline).2 = false
  fr : Fr [bb] u w
section
variable {x : List Rec} {A : Acts} {ts : List Int} {N n : Nat} {c : List Nat} {lv ws : Timers} {f g : Memo} {V : Int} {bb : Nat} {u w : World} {k : Nat}
theorem LoopAt.start (hM : MemoOk x A ts N f c.sum V) (hf : f c = none) (hV : 0 ≤ V) (hm : MapAt kvC evI CntOk w bb (upd f c (some 1))) (hF : Fr [bb] u w) : LoopAt x A ts N n c lv ws f V bb u 0 (upd f c (some 1)) w := by
  refine ⟨hm, fun c' m h => ?_, fun _ _ _ h => by omega, hF⟩
  unfold upd at h
  split at h
  · rename_i e
    injection h with h
    exact ⟨by omega, by simp; omega, .inr (.inl e)⟩
  · have := hM.at_ c' m h
    exact ⟨this.1, by simp; omega, .inl (by simp [h])⟩
theorem LoopAt.child (h : LoopAt x A ts N n c lv ws f V bb u k g w) (hM : MemoOk x A ts N f c.sum V) (hk : k < c.length) : MemoOk x A ts N g (bump c k).sum (V + 1 + k * Fn n) := by
  refine ⟨fun c' m hg => ?_⟩
  obtain ⟨h1, h2, h3⟩ := h.grew c' m hg
  refine ⟨h1, h2, ?_⟩
  rw [bump_sum hk]
  rcases h3 with h3 | rfl | h3
  · obtain ⟨m', hm'⟩ := Option.ne_none_iff_exists'.1 h3
    rcases (hM.at_ c' m' hm').2.2 with h4 | h4
    · exact .inl h4
    · exact .inr (by omega)
  · exact .inr (by omega)
  · exact .inl h3
theorem LoopAt.skip (h : LoopAt x A ts N n c lv ws f V bb u k g w) {w' : World} (hF : Fr [] w w') (hno : ∀ r a, ¬ StepOk x A ts c lv ws k r a) : LoopAt x A ts N n c lv ws f V bb u (k + 1) g w' := by
  have hp := Fn_pos n
  refine ⟨h.mem.keep hF (by simp), fun c' m hg => ?_, fun i r a hi hs => ?_, h.fr.trans0 hF⟩
  · obtain ⟨h1, h2, h3⟩ := h.grew c' m hg
    refine ⟨h1, ?_, h3⟩
    push_cast
    rw [Int.add_mul]
    omega
  · by_cases hik : i < k
    · exact h.nope i r a hik hs
    · obtain rfl : i = k := by omega
      exact absurd hs (hno r a)
theorem LoopAt.next (h : LoopAt x A ts N n c lv ws f V bb u k g w) {w' : World} {g' : Memo} (hF : Fr [bb] w w') (hm : MapAt kvC evI CntOk w' bb g') (hg : Grew x A ts N g g' (V + 1 + k * Fn n + Fn n))
    (hno : ∀ r a, StepOk x A ts c lv ws k r a → srch x A ts n (bump c k) (doM lv ws a.kind a.handle a.deadline).1 (doM lv ws a.kind a.handle a.deadline).2 = false) : LoopAt x A ts N n c lv ws f V bb u (k + 1) g' w' := by
  refine ⟨hm, fun c' m hgg => ?_, fun i r a hi hs => ?_, h.fr.transS hF⟩
  · obtain ⟨h1, h2, h3⟩ := hg c' m hgg
    refine ⟨h1, ?_, ?_⟩
    · push_cast
      rw [Int.add_mul]
      omega
    · rcases h3 with h3 | h3
      · obtain ⟨m', hm'⟩ := Option.ne_none_iff_exists'.1 h3
        exact (h.grew c' m' hm').2.2
      · exact .inr (.inr h3)
  · by_cases hik : i < k
    · exact h.nope i r a hik hs
    · obtain rfl : i = k := by omega
      exact hno r a hs
theorem LoopAt.stop (h : LoopAt x A ts N n c lv ws f V bb u k g w) (hk : x.length ≤ k) (hk8 : k ≤ 8) (hI : Inv x A c lv ws) (hsum : c.sum + (n + 1) = N) : srch x A ts (n + 1) c lv ws = false ∧ Grew x A ts N f g (V + Fn (n + 1)) := by
  have h0 : srch x A ts (n + 1) c lv ws = false := srch_no fun i r a hs => h.nope i r a (by have := (List.getElem?_eq_some_iff.1 hs.rcd).1; omega) hs
  have hd : ¬ S x A ts N c := by rw [S_iff hI hsum, h0]; simp
  refine ⟨h0, fun c' m hg => ?_⟩
  obtain ⟨h1, h2, h3⟩ := h.grew c' m hg
  refine ⟨h1, ?_, ?_⟩
  · have hp := Fn_pos n
    have : (k : Int) * Fn n ≤ 8 * Fn n := Int.mul_le_mul_of_nonneg_right (by omega) (by omega)
    have : Fn (n + 1) = 1 + 8 * Fn n := rfl
    omega
  · rcases h3 with h3 | rfl | h3
    · exact .inl h3
    · exact .inr hd
    · exact .inr h3
theorem LoopAt.room (hk8 : k < 8) (hV : V + Fn (n + 1) ≤ 4611686018427387904) (hV0 : 0 ≤ V) : 0 ≤ V + 1 + k * Fn n ∧ V + 1 + k * Fn n + Fn n ≤ 4611686018427387904 := by
  have hp := Fn_pos n
  have h1 : (k : Int) * Fn n ≤ 7 * Fn n := Int.mul_le_mul_of_nonneg_right (by omega) (by omega)
  have h2 : 0 ≤ (k : Int) * Fn n := Int.mul_nonneg (by omega) (by omega)
  have : Fn (n + 1) = 1 + 8 * Fn n := rfl
  omega
end
theorem bump_ok {c : List Nat} (hc : CntOk c) {k : Nat} (h : c.getD k 0 + 1 ≤ 8) : CntOk (bump c k) := by
  refine ⟨by rw [bump_len, hc.len], fun n hn => ?_⟩
  unfold bump at hn
  rcases List.mem_or_eq_of_mem_set hn with h1 | rfl
  · exact hc.le n h1
  · exact h
end Go.Proofs.Ytlpefbpamgeikaa
