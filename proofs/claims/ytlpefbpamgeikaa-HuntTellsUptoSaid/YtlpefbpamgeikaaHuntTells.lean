/- 'HuntTells' of law 46 returns true for every input of bulk at most 1048576: which histories have a legal order, how many acts any has, and which time any record has are the document's. Condition: the bulk of the arguments (the bound of 'uptoSmall'). -/
import Derived.Test.YtlpefbpamgeikaaHuntZ
import Derived.Test.YtlpefbpamgeikaaReads
import Derived.Below
import Derived.JoinedCond
namespace Go.Proofs.Ytlpefbpamgeikaa.huntTells
open Go.ChangeShapes Go.WideShapes Go.ChangeAt Go.RowKit
open Go.ChangeMaps (open_string shut_string)
set_option linter.unusedVariables false

theorem own : ownKnob Try.prog.godebug = none := by kernel_rfl
theorem laidOut : laidOutB Try.prog = true := by kernel_rfl

theorem one_le {H : Type} (d : DataW H) : 1 ≤ Rows.uptoBulk d := by
  cases d with
  | lit l => cases l <;> simp [Rows.uptoBulk]
  | nil => simp [Rows.uptoBulk]
  | ptr d => simp [Rows.uptoBulk]
  | slice elems spare => simp [Rows.uptoBulk]
  | agg parts => simp [Rows.uptoBulk]
  | iface t d => simp [Rows.uptoBulk]
  | map entries => simp [Rows.uptoBulk]
  | held h => simp [Rows.uptoBulk]
theorem part_le {H : Type} {d : DataW H} {l : List (DataW H)} (h : d ∈ l) : Rows.uptoBulk d ≤ Rows.uptoBulkAll l := by
  induction l with
  | nil => cases h
  | cons x r ih =>
    simp only [Rows.uptoBulkAll]
    cases List.mem_cons.1 h with
    | inl e => subst e; omega
    | inr e => have := ih e; omega
theorem bulk_append {H : Type} (l r : List (DataW H)) : Rows.uptoBulkAll (l ++ r) = Rows.uptoBulkAll l + Rows.uptoBulkAll r := by
  induction l with
  | nil => simp [Rows.uptoBulkAll]
  | cons x l ih => simp only [List.cons_append, Rows.uptoBulkAll, ih]; omega
theorem length_le {H : Type} (l : List (DataW H)) : l.length ≤ Rows.uptoBulkAll l := by
  induction l with
  | nil => simp [Rows.uptoBulkAll]
  | cons x r ih => have := one_le x; simp only [Rows.uptoBulkAll, List.length_cons]; omega

/-- a record's acts are within its bulk -/
theorem rec_bulk {H : Type} {enc : TypeId × Value → H} {W : World} {fuel : Nat} {r : Rec} {x : DataW H × List MemPlace} (h : DataW.trod enc Try.prog W 0 (fun _ => true) true fuel 52 (encRec.enc r) = some x) : r.acts.n ≤ Rows.uptoBulk x.1 := by
  obtain ⟨xs, n, _, rfl, hl, hx, hf⟩ := DataW.trod_struct Try.underlying52 h
  have h6 : DataW.trod enc Try.prog W 0 (fun _ => true) true n 50 (((encRec.enc r).drop 13).take (Try.prog.cellsOf 50)) = xs[6]? := hf 6 _ rfl
  have h13 : ((encRec.enc r).drop 13).take 1 = [.slice r.acts.a r.acts.n r.acts.c] := rfl
  rw [c50, h13] at h6
  obtain ⟨y, hy⟩ : ∃ y, xs[6]? = some y := by
    have : 6 < xs.length := by rw [hx]; exact (by decide)
    exact ⟨_, List.getElem?_eq_getElem this⟩
  rw [hy] at h6
  have hmem : y.1 ∈ xs.map (·.1) := List.mem_map.2 ⟨y, List.mem_of_getElem? hy, rfl⟩
  have hle := part_le hmem
  have hy1 : r.acts.n ≤ Rows.uptoBulk y.1 := by
    rcases Deep.open_slice Try.underlying50 h6 with ⟨e1, rfl⟩ | ⟨a, len, cap, m, k, D, Pl, e1, _, _, _, _, rfl, _⟩
    · simp at e1; omega
    · simp at e1
      have := length_le ((List.range len).map D)
      simp [Rows.uptoBulk] at this ⊢
      omega
  simp only [Rows.uptoBulk]
  omega

/-- the acts of all records are within the bulk of the list -/
theorem recs_bulk {H : Type} {enc : TypeId × Value → H} {W : World} {fuel : Nat} {v : Value} {l : List Rec} {x : DataW H × List MemPlace} (h : DataW.trod enc Try.prog W 0 (fun _ => true) true fuel 33 [v] = some x) (hl : Rd encRec W v l) : lens l ≤ Rows.uptoBulk x.1 := by
  rcases Deep.open_slice Try.underlying33 h with ⟨e1, rfl⟩ | ⟨a, len, cap, m, k, D, Pl, e1, _, hlc, _, hmm, rfl, hel⟩
  · simp at e1
    subst e1
    obtain ⟨b, off, ⟨ao, cap, hv, _⟩, _⟩ := hl
    injection hv with _ hv _
    have : l = [] := List.eq_nil_of_length_eq_zero hv.symm
    subst this
    simp [lens]
  · simp at e1
    subst e1
    obtain ⟨b, off, ⟨ao, cap', hv, ha, h1, h2⟩, hc, hlt⟩ := hl
    injection hv with e2 e3 e4
    subst e3
    simp at hmm
    subst hmm
    have hone : ∀ i r, l[i]? = some r → r.acts.n ≤ Rows.uptoBulk (D i) := by
      intro i r hr
      have hi := (List.getElem?_eq_some_iff.1 hr).1
      have hne : l ≠ [] := by rintro rfl; simp at hi
      have h3 := ha hne
      rw [h3] at e2
      injection e2 with e2
      subst e2
      obtain ⟨cs', g1, g2⟩ := hel i (by omega)
      rw [c52] at g1
      obtain ⟨g3, g4⟩ := cells_at g1
      have : cs' = encRec.enc r := by
        apply List.ext_getElem?
        intro j
        by_cases hj : j < 14
        · rw [← g4 j hj, ← hc i r hr j hj]
          congr 1
          show ((⟨b, off, none⟩ : Addr).add (i * 14)).add j = ⟨b, off + i * 14 + j, none⟩
          generalize i * 14 = q
          unfold Addr.add
          by_cases h1 : q = 0 <;> by_cases h2 : j = 0 <;> simp [h1, h2] <;> omega
        · rw [List.getElem?_eq_none (by omega), List.getElem?_eq_none (by rw [encRec.len]; exact Nat.le_of_not_lt hj)]
      rw [this] at g2
      exact rec_bulk g2
    have hsum : ∀ k, k ≤ l.length → lens (l.take k) ≤ Rows.uptoBulkAll ((List.range k).map D) := by
      intro k
      induction k with
      | zero => intro _; simp [lens]
      | succ k ih =>
        intro hk
        obtain ⟨r, hr⟩ := at_of l (k := k) (by omega)
        rw [lens_take l hr, List.range_succ, List.map_append, bulk_append]
        have := ih (by omega)
        have := hone k r hr
        simp only [List.map_cons, List.map_nil, Rows.uptoBulkAll]
        omega
    have := hsum l.length (Nat.le_refl _)
    rw [List.take_length] at this
    simp only [Rows.uptoBulk]
    omega

theorem walk (v vt : Value) (l : List Rec) (ts : List Int) (w : World) (hl : Rd encRec w v l) (ht : Rd encI w vt ts) (hok : ∀ r ∈ l, Rec.ok w r) (hs : lens l ≤ 1048576) :
    Calls Try.prog 6 #[v, vt] w fun e w' => e = .returned (.bool true) ∧ Below w.heap.size w w' := by
  by_cases h : 100 < l.length
  · refine (hunt_long v vt l w hl h).mono ?_
    rintro e w' ⟨rfl, hf⟩
    exact ⟨rfl, hf.below⟩
  · classical
    have hA : ∀ r : Rec, ∃ xs : List ActR, r ∈ l → Rd encAct w (.slice r.acts.a r.acts.n r.acts.c) xs ∧ ∀ a ∈ xs, a.ok := by
      intro r
      by_cases hr : r ∈ l
      · obtain ⟨xs, h1, h2⟩ := (hok r hr).acts
        exact ⟨xs, fun _ => ⟨h1, h2⟩⟩
      · exact ⟨[], fun h => absurd h hr⟩
    obtain ⟨A, hA⟩ := Classical.axiomOfChoice hA
    refine (hunt_core v vt l A ts w hl ht (fun r hr => (hA r hr).1) (by omega) (fun r hr => (hok r hr).fin) (fun r hr a ha => ((hA r hr).2 a ha).handle) (by omega)).mono ?_
    rintro e w' ⟨rfl, hf⟩
    exact ⟨rfl, hf.below⟩

set_option maxRecDepth 100000 in
theorem lifted (os : Os) (started : os.Started) (H : Type) (enc : TypeId × Value → H) (F : Stop.Interp) :
    ReturnsInHanded {} Try.checked os 6 .any ((Rows.OpenSpec.upto Rows.huntTellsSpec).pre6 enc Try.prog Try.f6 Rows.huntTellsUptoRow.domain false) (((Rows.OpenSpec.upto Rows.huntTellsSpec).at F).post enc Try.prog Try.f6 false true false false) := by
  refine returnsInHanded_of_cond (C := Try.checked) (s := Rows.OpenSpec.upto Rows.huntTellsSpec) (k := Rows.uptoSmall) rfl own started (by kernel_rfl) Try.func6
    (OpenSpec.witness (enc := enc) (C := Try.checked) (s := Rows.OpenSpec.upto Rows.huntTellsSpec) (k := Rows.uptoSmall) rfl false ⟨#[], #[.slice none 0 0, .slice none 0 0], []⟩ 8 (by kernel_rfl) (by kernel_rfl) (by kernel_rfl)
      (x := ([.nil, .nil], [], [])) (by kernel_rfl) rfl (by kernel_rfl)) ?_
  intro W base args ds gs before hval0 hW _ hk _
  have hval : ∀ (j : Nat) t v, Try.f6.params[j]? = some t → args[j]? = some v → Value.okWide Try.prog W .any base t v := hval0
  have hW' := hW
  obtain ⟨p, q, hA0, hV, rfl, hfz, hnd⟩ := hW
  have hA : DataW.TrodAll enc Try.prog W 0 (fun _ => true) true Try.f6.params.toList args.toList ds p := hA0
  rw [Try.params6] at hA hval
  obtain ⟨v0, vs0, d0, ds0, p0, q0, hargs, rfl, rfl, h0, r0⟩ := trodAll_cons hA
  obtain ⟨v1, vs1, d1, ds1, p1, q1, rfl, rfl, rfl, h1, r1⟩ := trodAll_cons r0
  obtain ⟨rfl, rfl, rfl⟩ := trodAll_nil r1
  obtain rfl : args = #[v0, v1] := by cases args; simp_all
  obtain ⟨rfl, rfl⟩ := trodVars_none hV
  have k0 := h0
  have k1 := h1
  have lt0 : ∀ x ∈ p0, x.block < W.heap.size := by obtain ⟨m, hm⟩ := k0; exact DataW.trod_lt m _ _ _ hm
  have lt1 : ∀ x ∈ p1, x.block < W.heap.size := by obtain ⟨m, hm⟩ := k1; exact DataW.trod_lt m _ _ _ hm
  obtain ⟨a0, len0, cap0, rfl⟩ := okWide_slice Try.underlying33 (hval 0 33 v0 rfl rfl)
  obtain ⟨a1, len1, cap1, rfl⟩ := okWide_slice Try.underlying28 (hval 1 28 v1 rfl rfl)
  obtain ⟨f0, g0⟩ := h0
  obtain ⟨f1, g1⟩ := h1
  obtain ⟨u0, l, e0, hl, hlo⟩ := Opens.slice (E := encRec) (ok := Rec.ok W) (opens_rec W) Try.underlying33 c52 g0
  obtain ⟨u1, ts, e1, ht, _⟩ := Opens.slice (E := encI) (ok := okInt .i64) (opens_i64 Try.underlying3) Try.underlying28 c3 g1
  simp [Value.cells] at e0 e1
  subst e0 e1
  have hb : lens l ≤ 1048576 := by
    have h := of_decide_eq_true hk
    have h2 := recs_bulk g0 hl
    simp only [List.append_nil, Rows.uptoBulkAll] at h
    simp only at h2
    omega
  clear hA0 hval0
  refine (walk _ _ l ts W hl ht hlo hb).mono fun e W' ⟨he, bel⟩ => ?_
  subst he
  exact ⟨_, rfl, _, _, _, [], _, [], hW', trodAll_mk1 (shut_bool Try.underlying4 _), (trodAll_cons_mk (Below.trod laidOut (by kernel_rfl) (of_decide_eq_true (by kernel_rfl)) k0 bel lt0) (trodAll_cons_mk (Below.trod laidOut (by kernel_rfl) (of_decide_eq_true (by kernel_rfl)) k1 bel lt1) trodAll_mk0)), rfl, bel.frame _, fun h => by cases h⟩

theorem over : Rows.huntTellsUptoRow.holds Try.pinned (Rows.OpenSpec.upto Rows.huntTellsSpec) :=
  OpenClaim.holds_of_cond 6 Try.f6 rfl rfl rfl rfl rfl rfl rfl ⟨rfl, rfl, rfl, rfl, rfl⟩ rfl rfl rfl rfl rfl (by kernel_rfl) Try.func6 (by kernel_rfl)
    (of_decide_eq_true (by kernel_rfl)) (by unfold Func.isWrapper; first | (rw [if_pos (by decide +kernel)]; kernel_rfl) | (rw [if_neg (by decide +kernel)]; exact ⟨rfl, rfl⟩))
    (fun os started H enc _ F => lifted os started H enc F)

theorem proved : Rows.HuntTellsUptoSaid := over
#print axioms proved
end Go.Proofs.Ytlpefbpamgeikaa.huntTells
