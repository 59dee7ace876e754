/- DERIVED. A range over a function whose iterator keeps its state in one captured cell block B: the law of the statement, over a contract that speaks of states. No function of the program is named here. -/
import Derived.Test.YtkdmodanfcpcfaaDoorLib
import Derived.RangeFuncOwn
import Derived.RangeFuncLeaves
import Derived.RangeFuncCalls
import Derived.Test.YtkdmodanfcpcfaaDoorHnd
import Derived.RangeFuncNested
import Derived.RangeFuncBound
import Derived.Shelf.Abstract
import Derived.Shelf.RegionOpen
import Derived.OwnWalkIn
import Derived.TacticsInMore
import Derived.LoopNIn
import Derived.LoopIn
namespace Go.Proofs.YtkdmodanfcpcfaaDoor
open Go.RowKit

def CellsAt (W : World) (x : Nat) : Prop := ∃ o : Obj, W.heap[x]? = some o ∧ o.isCells = true
theorem cellsAt_of_cell {W : World} {a : Addr} {v : Value} (h : W.cell? a = some v) : CellsAt W a.block := cells_of_cell h
/-- what is said abides a turn of B, of the loop's own objects, and new blocks -/
def Abd {β : Type} (B N : Nat) (I : β → World → Prop) : Prop := ∀ s W W' x, I s W → Fr [x] W W' → (x = B ∨ N ≤ x ∧ ¬ CellsAt W x) → I s W'

def SeqSt {σ : Type} (F : Fence) (n : Nat) (P : Program) (gf : Nat) (lb : Array Value) (B : Nat) (encs : σ → Array Value) (live : σ → Prop) (nxt : σ → σ) (Pre : World → Prop) (s0 : σ) (w : World) : Prop :=
  ∀ (l : Nat) (J : σ → World → Prop) (Jx : World → Prop) (W : World), (∀ s X Y, J s X → Fr [B] X Y → J s Y) → (∀ s X, J s X → Pre X) →
    (∀ s X, J s X → live s → YieldAt F (n - 1) P l (encs s) X fun e Y => (e = .returned (.bool true) ∧ J (nxt s) Y ∧ Y.heap[B]? = X.heap[B]?) ∨ (e = .returned (.bool false) ∧ Jx Y)) →
    J s0 W → W.heap[B]? = w.heap[B]? → B < W.heap.size →
    CallsIn F n P gf (#[.func (.yield l) #[] #[]] ++ lb) W fun e Y => (∃ v, e = .returned v) ∧ ((∃ s, ¬ live s ∧ J s Y) ∨ Jx Y)

/-- how the body of a round may be left -/
def stPost {σ : Type} (B : Nat) (I : σ → World → Prop) (Ix : Code → World → Prop) (s' : σ) (W : World) : Exit → Act → World → Prop
  | .normal, _, W' => ∃ S, Fr S W W' ∧ (∀ x ∈ S, x ≠ B ∧ CellsAt W x) ∧ I s' W'
  | .ret, _, W' => ∃ S, Fr S W W' ∧ (∀ x ∈ S, x ≠ B ∧ CellsAt W x) ∧ Ix .ret W'
  | .exit id, _, W' => ∃ S, Fr S W W' ∧ (∀ x ∈ S, x ≠ B ∧ CellsAt W x) ∧ Ix (.exit id) W'
  | .goto t, _, W' => ∃ S, Fr S W W' ∧ (∀ x ∈ S, x ≠ B ∧ CellsAt W x) ∧ Ix (.goto t) W'
  | .panic _, _, _ => False
  | .outgrown, _, _ => False

theorem Fr.put (W : World) (l : Nat) (o : Obj) : Fr [l] W (W.putObj l o) :=
  ⟨rfl, rfl, rfl, by simp, fun k _ hk => World.putObj_heap_other (by simpa using hk)⟩
theorem not_cells {W : World} {l : Nat} {o : Obj} (h : W.heap[l]? = some o) (ho : o.isCells = false) : ¬ CellsAt W l := by
  rintro ⟨o', h1, h2⟩; rw [h] at h1; cases h1; rw [ho] at h2; cases h2
theorem Fr.others {S : List Nat} {W W' : World} (h : Fr S W W') (hs : ∀ x ∈ S, CellsAt W x) {k : Nat} {o : Obj} (hk : W.heap[k]? = some o) (ho : o.isCells = false) : W'.heap[k]? = some o := by
  rw [h.block k (Array.getElem?_eq_some_iff.1 hk).1 (fun hm => not_cells hk ho (hs k hm))]; exact hk

variable {F : Fence} {n : Nat} {P : Program}

theorem wpIn_rangeFunc_st {σ : Type} {g : Operand} {ps : Array Tmp} {assign body : Code} {Q : Exit → Act → World → Prop} {a : Act} {w : World}
    (hro : F.round = none) (h1 : 1 ≤ n) {gf : Nat} {lb : Array Value} (hg : a.eval g = .func (.func gf) #[] lb) (hFg : F.fn gf) (eg : ∀ args w, (callFunc gf args).run P w = .ok (.enter gf args) w)
    {B : Nat} (hB : B < w.heap.size) {encs : σ → Array Value} {live : σ → Prop} {nxt : σ → σ} {Pre : World → Prop} {s0 : σ} (hseq : SeqSt F (n - 1) P gf lb B encs live nxt Pre s0 w) (hps : ∀ s, (encs s).size = ps.size)
    (I : σ → World → Prop) (Ix : Code → World → Prop) (hI : Abd B w.heap.size I) (hIx : Abd B w.heap.size Ix) (hP : ∀ s W, I s W → Pre W) (h0 : I s0 w) (a₁ : σ → Act)
    (hassign : ∀ (l : Nat) (s : σ) (W : World) (K : Act → World → Prop), K (a₁ s) W →
      assign.wpIn (F.inRound l) (n - 1 - 1) P (Exit.then K (fun _ _ _ => False)) { tmps := (ps.zip (encs s)).foldl (fun t (p, v) => t.setIfInBounds p v) a.tmps, defers := [] } W)
    (hbody : ∀ (l : Nat) (s : σ) (W : World), I s W → live s → body.wpIn (F.inRound l) (n - 1 - 1) P (stPost B I Ix (nxt s) W) (a₁ s) W)
    (hdone : ∀ (D : Nat) (s : σ) (W : World), w.heap.size ≤ D → ¬ live s → I s W → W.heap[D]? = some (.deferred (some [])) → Q .normal { a with defers := { target := .collected D, args := #[] } :: a.defers } W)
    (hstop : ∀ (D : Nat) (c : Code) (W : World), w.heap.size ≤ D → Ix c W → W.heap[D]? = some (.deferred (some [])) → c.wpIn F n P Q { a with defers := { target := .collected D, args := #[] } :: a.defers } W) :
    (Code.rangeFunc g ps assign body).wpIn F n P Q a w := by
  refine wpIn_rangeFunc ?_
  intro fn hfn
  rw [hro]
  obtain ⟨rec, hrec⟩ : ∃ rec : LoopState → Option Code → Loop, rec = fun st pe => { state := st, pending := pe, fn, tmps := a.tmps, params := ps, assign, body, defers := w.heap.size } := ⟨_, rfl⟩
  obtain ⟨W1, hW1⟩ : ∃ W1, (w.alloc (.deferred (some []))).alloc (.loop (rec .ready none)) = W1 := ⟨_, rfl⟩
  have hL1 : W1.heap[w.heap.size + 1]? = some (.loop (rec .ready none)) := by
    rw [← hW1]; have := World.alloc_heap_new (w.alloc (.deferred (some []))) (.loop (rec .ready none)); rwa [World.size_alloc] at this
  have hK1 : W1.heap[w.heap.size]? = some (.deferred (some [])) := by
    rw [← hW1]; exact (Below.heap_alloc _ _ _ (by simp)).trans (World.alloc_heap_new w _)
  have hF1 : Fr [] w W1 := by rw [← hW1]; exact ((Fr.refl _ w).alloc _).alloc _
  have hI1 : I s0 W1 := hI s0 w W1 B h0 (hF1.mono (by simp)) (.inl rfl)
  refine ⟨w.heap.size + 1, [{ target := .collected w.heap.size, args := #[] }], W1, { target := .fn (.func gf) lb, args := #[.func (.yield (w.heap.size + 1)) #[] #[]] }, W1, gf,
    #[.func (.yield (w.heap.size + 1)) #[] #[]] ++ lb, W1, ?_, ?_, ?_, ?_, fun _ => h1, ?_⟩
  · rw [← hW1, hrec]; exact run_enterLoop_outer _ _ _ _ _
  · simp only [resolve, hg]
    simp [go_sem]
  · intro f' hf'; simp [Target.leads] at hf'; subst hf'; exact hFg
  · simp [invoke, go_sem, eg]
  · refine (hseq (w.heap.size + 1)
      (fun s W => I s W ∧ W.heap[w.heap.size + 1]? = some (.loop (rec .ready none)) ∧ W.heap[w.heap.size]? = some (.deferred (some [])))
      (fun W => ∃ c, Ix c W ∧ W.heap[w.heap.size + 1]? = some (.loop (rec .done (some c))) ∧ W.heap[w.heap.size]? = some (.deferred (some [])))
      W1 ?_ (fun s X h => hP s X h.1) ?_ ⟨hI1, hL1, hK1⟩ (hF1.block B hB (by simp)) (Nat.lt_of_lt_of_le hB hF1.size)).mono ?_
    · rintro s X Y ⟨h2, h3, h4⟩ hf
      exact ⟨hI s X Y B h2 hf (.inl rfl), by rw [hf.block _ (Array.getElem?_eq_some_iff.1 h3).1 (by simp; omega)]; exact h3, by rw [hf.block _ (Array.getElem?_eq_some_iff.1 h4).1 (by simp; omega)]; exact h4⟩
    · -- one round
      rintro s W ⟨hi, hl, hk⟩ hlv
      have hlt : w.heap.size + 1 < W.heap.size := (Array.getElem?_eq_some_iff.1 hl).1
      have hy := run_yield (P := P) (args := encs s) hl (by rw [hrec]; exact hps s)
      rw [hrec] at hy
      refine ⟨fn, _, assign, body, hy, roundIn_of_wpIn hfn (hassign _ s W _ ⟨_, run_beginRound hl (by rw [hrec]), ?_⟩)⟩
      obtain ⟨V, hV⟩ : ∃ V, W.putObj (w.heap.size + 1) (.loop { rec .ready none with state := .busy }) = V := ⟨_, rfl⟩
      have hl2 : V.heap[w.heap.size + 1]? = some (.loop { rec .ready none with state := .busy }) := by rw [← hV]; exact World.putObj_heap_same hlt
      have hk2 : V.heap[w.heap.size]? = some (.deferred (some [])) := by rw [← hV]; exact (World.putObj_heap_other (by omega)).trans hk
      have hfV : Fr [w.heap.size + 1] W V := by rw [← hV]; exact Fr.put _ _ _
      have hiV : I s V := hI s W V _ hi hfV (.inr ⟨by omega, not_cells hl rfl⟩)
      rw [hV]
      refine wpIn_mono (hbody _ s V hiV hlv) ?_
      have fin : ∀ (jump : Option Code) (W3 : World) (S : List Nat), Fr S V W3 → (∀ x ∈ S, x ≠ B ∧ CellsAt V x) →
          (Instr.endRound (w.heap.size + 1) jump).run P W3 = .ok (.bool jump.isNone) (W3.putObj (w.heap.size + 1) (.loop (rec (if jump.isNone then .ready else .done) jump))) ∧
          ¬ CellsAt W3 (w.heap.size + 1) ∧
          (W3.putObj (w.heap.size + 1) (.loop (rec (if jump.isNone then .ready else .done) jump))).heap[w.heap.size + 1]? = some (.loop (rec (if jump.isNone then .ready else .done) jump)) ∧
          (W3.putObj (w.heap.size + 1) (.loop (rec (if jump.isNone then .ready else .done) jump))).heap[w.heap.size]? = some (.deferred (some [])) := fun jump W3 S hf3 hs => by
        have hl3 := hf3.others (fun x hx => (hs x hx).2) hl2 rfl
        have hk3 := hf3.others (fun x hx => (hs x hx).2) hk2 rfl
        have := run_endRound (P := P) jump hl3
        rw [hrec] at this ⊢
        exact ⟨this, not_cells hl3 rfl, World.putObj_heap_same (Array.getElem?_eq_some_iff.1 hl3).1, (World.putObj_heap_other (by omega)).trans hk3⟩
      rintro e a3 W3 hp
      cases e with
      | normal =>
        obtain ⟨S, hf3, hs, hi3⟩ := hp
        obtain ⟨hr, hn3, hl4, hk4⟩ := fin none W3 S hf3 hs
        refine ⟨_, _, hr, .inl ⟨rfl, ⟨hI _ W3 _ _ hi3 (Fr.put _ _ _) (.inr ⟨by omega, hn3⟩), hl4, hk4⟩, ?_⟩⟩
        have e1 := (Fr.put W3 (w.heap.size + 1) (.loop (rec (if (none : Option Code).isNone then .ready else .done) none))).block B (by have := hf3.size; have := hfV.size; omega) (by simp; omega)
        have e2 := hf3.block B (by have := hfV.size; omega) (fun hm => (hs B hm).1 rfl)
        have e3 := hfV.block B (by omega) (by simp; omega)
        rw [e1, e2, e3]
      | ret =>
        obtain ⟨S, hf3, hs, hi3⟩ := hp
        obtain ⟨hr, hn3, hl4, hk4⟩ := fin (some .ret) W3 S hf3 hs
        exact ⟨_, _, hr, .inr ⟨rfl, .ret, hIx _ W3 _ _ hi3 (Fr.put _ _ _) (.inr ⟨by omega, hn3⟩), hl4, hk4⟩⟩
      | exit id =>
        obtain ⟨S, hf3, hs, hi3⟩ := hp
        obtain ⟨hr, hn3, hl4, hk4⟩ := fin (some (.exit id)) W3 S hf3 hs
        exact ⟨_, _, hr, .inr ⟨rfl, .exit id, hIx _ W3 _ _ hi3 (Fr.put _ _ _) (.inr ⟨by omega, hn3⟩), hl4, hk4⟩⟩
      | goto t =>
        obtain ⟨S, hf3, hs, hi3⟩ := hp
        obtain ⟨hr, hn3, hl4, hk4⟩ := fin (some (.goto t)) W3 S hf3 hs
        exact ⟨_, _, hr, .inr ⟨rfl, .goto t, hIx _ W3 _ _ hi3 (Fr.put _ _ _) (.inr ⟨by omega, hn3⟩), hl4, hk4⟩⟩
      | panic ch => exact hp.elim
      | outgrown => exact hp.elim
    · -- behind the iterator
      rintro e W2 ⟨⟨v, rfl⟩, (⟨s, hS, hi, hl, hk⟩ | ⟨c, hi, hl, hk⟩)⟩
      · exact ⟨none, _, by have := run_endLoop (P := P) hl (by rw [hrec]; simp); rw [hrec] at this; exact this, hdone _ s _ (Nat.le_refl _) hS (hI _ W2 _ _ hi (Fr.put _ _ _) (.inr ⟨by omega, not_cells hl rfl⟩)) ((World.putObj_heap_other (by omega)).trans hk)⟩
      · exact ⟨some c, _, by have := run_endLoop (P := P) hl (by rw [hrec]; simp); rw [hrec] at this; exact this, hstop _ c _ (Nat.le_refl _) (hIx _ W2 _ _ hi (Fr.put _ _ _) (.inr ⟨by omega, not_cells hl rfl⟩)) ((World.putObj_heap_other (by omega)).trans hk)⟩
end Go.Proofs.YtkdmodanfcpcfaaDoor

/- DERIVED. Chapter 42: a text's lines, told by the function that 'lines' hands back; and lines itself. -/
namespace Go.Proofs.YtkdmodanfcpcfaaDoor
open Go.RowKit Go.Shelf
attribute [local go_sem] Oper.semAt_some

/-- how much is left, read off the box -/
def leftB (B : Nat) (W : World) : Nat := match W.cell? ⟨B, 0, none⟩ with
  | some (.string s) => s.size
  | _ => 0
theorem leftB_eq {B : Nat} {W : World} {s : ByteArray} (h : W.cell? ⟨B, 0, none⟩ = some (.string s)) : leftB B W = s.size := by unfold leftB; rw [h]
def encL (t : List UInt8) : Array Value := #[.string (Str (cutV 10 t).1), .bool (cutV 10 t).2.2]
def nextL (t : List UInt8) : List UInt8 := (cutV 10 t).2.1
theorem nextL_lt {t : List UInt8} (h : t ≠ []) : (nextL t).length < t.length := by
  unfold nextL
  cases t with
  | nil => exact absurd rfl h
  | cons c r =>
    rw [cutV_cons]
    split
    · simp
    · have := (cutV_len 10 r).2.1
      simp; omega

set_option maxRecDepth 100000 in
set_option maxHeartbeats 2000000 in
theorem lines1_in (n : Nat) (hn : 1 ≤ n) (B : Nat) (t0 : List UInt8) (ht0 : t0.length ≤ 1000000) (w : World) (hc0 : w.cell? ⟨B, 0, none⟩ = some (.string (Str t0))) (hz0 : w.frozen? ⟨B, 0, none⟩ = false) :
    SeqSt Fence.wide n Tryd.prog 58 #[.pointer (some ⟨B, 0, none⟩)] B encL (fun t => t ≠ []) nextL Glob t0 w := by
  intro l J Jx W hJ hPre hY h0 hBW hlt
  have hc : W.cell? ⟨B, 0, none⟩ = some (.string (Str t0)) := (World.cell?_of_block (a := ⟨B, 0, none⟩) hBW).trans hc0
  have hz : W.frozen? ⟨B, 0, none⟩ = false := (World.frozen?_of_block (a := ⟨B, 0, none⟩) hBW).trans hz0
  clear hBW hc0 hz0
  refine callsIn_of_wp Tryd.func58 rfl trivial ?_ rfl
  simp only [Tryd.ntmps58, List.size_toArray, List.length_cons, List.length_nil, Nat.reduceAdd, Nat.reduceSub, Array.replicate_succ, Array.replicate_zero, List.push_toArray, List.append_toArray, List.nil_append, List.cons_append]
  gi_wp2
  gi_loopw [3] (fun _ wr => ∃ t : List UInt8, wr.cell? ⟨B, 0, none⟩ = some (.string (Str t)) ∧ wr.frozen? ⟨B, 0, none⟩ = false ∧ t.length ≤ 1000000 ∧ J t wr ∧ B < wr.heap.size) (fun _ wr => leftB B wr)
  case atStart => exact ⟨t0, hc, hz, ht0, h0, hlt⟩
  case round =>
    obtain ⟨t, hct, hzt, htl, hJt, hBt⟩ := hrel
    have hG := hPre t wr hJt
    by_cases hne : t = []
    · subst hne
      replace hct : wr.cell? ⟨B, 0, none⟩ = some (.string ⟨#[]⟩) := hct
      gi_wp2
      go_end0
      exact ⟨⟨_, rfl⟩, .inl ⟨[], by simp, hJt⟩⟩
    · have hq2 : ((Str t).toList == []) = false := by
        have := (Lib.bytes_beq_false_iff (Str t) ⟨#[]⟩).2 (fun e => hne (by have := congrArg (fun b => b.data.toList) e; simpa [Str] using this))
        simpa using this
      have C := cut_any 10 t htl wr hG
      have hm : leftB B wr = t.length := by rw [leftB_eq hct, Str.size]
      have hlt2 := nextL_lt hne
      obtain ⟨x, hx⟩ : ∃ x, (cutV 10 t).1 = x := ⟨_, rfl⟩
      obtain ⟨y, hy⟩ : ∃ x, (cutV 10 t).2.2 = x := ⟨_, rfl⟩
      have hY2 := fun X h => hY t X h hne
      simp only [encL, hx, hy] at hY2
      have hnx : (cutV 10 t).2.1 = nextL t := rfl
      rw [hx, hy, hnx] at C
      obtain ⟨T, hT⟩ : ∃ T, Str t = T := ⟨_, rfl⟩
      obtain ⟨X1, hX1⟩ : ∃ T, Str x = T := ⟨_, rfl⟩
      obtain ⟨R1, hR1⟩ : ∃ T, Str (nextL t) = T := ⟨_, rfl⟩
      rw [hX1] at hY2
      rw [hT] at hct hq2
      rw [hT, hX1, hR1] at C
      have HC := Lib.hid C
      have HY := Lib.hid hY2
      clear C hY2 hT hX1 hx hy hnx hY
      gi_wp2_with (refine ⟨trivial, ?_⟩; gi_at_call 59; rw [show (⟨#[10]⟩ : ByteArray) = Str [10] from rfl]; refine (callsIn_wide.2 HC.out).mono ?_; rintro e w2 ⟨rfl, f2⟩; have hct2 : w2.cell? ⟨B, 0, none⟩ = some (.string T) := (f2.cell hBt (by simp) 0).trans hct; have hzt2 : w2.frozen? ⟨B, 0, none⟩ = false := (f2.frozen hBt (by simp) 0).trans hzt; have hJ2 := hJ t wr w2 hJt (f2.mono (by simp)); obtain ⟨fn, tmps, assign, body, hyy, hRR⟩ := HY.out w2 hJ2)
      refine hRR.mono ?_
      rintro e W3 (⟨rfl, hJ3, hk3⟩ | ⟨rfl, hJx3⟩)
      · have hc3 : W3.cell? ⟨B, 0, none⟩ = some (.string T) := (World.cell?_of_block (a := ⟨B, 0, none⟩) hk3).trans hct2
        have hz3 : W3.frozen? ⟨B, 0, none⟩ = false := (World.frozen?_of_block (a := ⟨B, 0, none⟩) hk3).trans hzt2
        have hb3 : B < W3.heap.size := block_lt_of_cell hc3
        have hs3 : (W3.setCell ⟨B, 0, none⟩ (.string R1)).cell? ⟨B, 0, none⟩ = some (.string R1) := World.cell?_setCell_same' _ _ _ (by rw [hc3]; rfl)
        gi_wp2
        go_roundw
        case rel => exact ⟨nextL t, by rw [hR1]; exact hs3, by rw [World.frozen?_setCell]; exact hz3, by omega, hJ _ W3 _ hJ3 ((Fr.refl _ _).setCell (p := ⟨B, 0, none⟩) (.inl (by simp)) _), by simp [World.setCell]; exact hb3⟩
        case measure => rw [leftB_eq hs3, hm, ← hR1, Str.size]; exact hlt2
      · gi_wp2
        refine bodyPost_ret (results_none rfl _ _ _) rfl ?_
        exact ⟨⟨_, rfl⟩, .inr hJx3⟩

theorem lines_any (s : ByteArray) (w : World) : Calls Tryd.prog 33 #[.string s] w fun e w' => e = .returned (.func (.func 58) #[] #[.pointer (some ⟨w.heap.size, 0, none⟩)]) ∧ w' = w.alloc (.cells #[.string s] 9) := by
  go_enter Tryd.func33, Tryd.ntmps33
  go_wp2
  go_ret
  exact ⟨rfl, rfl⟩
end Go.Proofs.YtkdmodanfcpcfaaDoor
