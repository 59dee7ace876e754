/- DERIVED. append in my own words: of one element that lies in the newest block, of a whole list that can be read; as a law on a run, as a step of a region. -/
import Derived.Test.YtkdmodanfcpcfaaDoorLib
import Derived.Deep.RegionLaw
import Derived.Maps.AppendAt
namespace Go.Proofs.YtkdmodanfcpcfaaDoor
open Go.RowKit

/-- an empty list is kept by whatever is done -/
theorem Rd.keepN {α : Type} {E : Enc α} {w w' : World} {v : Value} {xs : List α} (h : Rd E w v xs) {S : List Nat} (hf : Fr S w w') (hd : xs ≠ [] → ∀ x ∈ sblk v, x ∉ S) : Rd E w' v xs := by
  by_cases hne : xs = []
  · subst hne
    obtain ⟨b, off, hv, hc, hl⟩ := h
    exact ⟨b, off, hv, by simp, by simp⟩
  · exact h.keep hf (hd hne)
theorem sblk_own (v : Value) : sblk v = v.ownBlock.toList := by
  cases v <;> try rfl
  rename_i ao _ _; cases ao <;> rfl
theorem sblk_where {v v' : Value} {n : Nat} (h : v'.ownBlock = v.ownBlock ∨ v'.ownBlock = some n) : sblk v' = sblk v ∨ ∃ g, sblk v' = [g] ∧ n ≤ g := by
  rcases h with h | h
  · exact .inl (by rw [sblk_own, sblk_own, h])
  · exact .inr ⟨n, by rw [sblk_own, h]; rfl, Nat.le_refl _⟩
theorem Own.of_row {α : Type} {E : Enc α} {e : TypeId} {w : World} {v : Value} {xs : List α} (h : w.ownsRow 0 e E.sz v xs.length (xs.flatMap E.enc)) : Own E e w v xs := by
  rcases h.2 with ⟨h1, h2⟩ | ⟨g, cap, cur, q1, _, q2, q3, q4, q5, q6⟩
  · exact .inl ⟨h1, List.eq_nil_of_length_eq_zero h2⟩
  · exact .inr ⟨g, cap, cur, q1, q2, q3, q4, q5, q6⟩

theorem Own.isSlice {α : Type} {E : Enc α} {e : TypeId} {w : World} {v : Value} {xs : List α} (h : Own E e w v xs) : ∃ a n c, v = .slice a n c := by
  rcases h with ⟨rfl, _⟩ | ⟨g, cap, cur, rfl, _⟩
  · exact ⟨_, _, _, rfl⟩
  · exact ⟨_, _, _, rfl⟩
theorem Own.rd' {α : Type} {E : Enc α} {e : TypeId} {w : World} {v : Value} {xs : List α} (h : Own E e w v xs) (hne : xs ≠ []) : ∃ g, RdAt E w v xs g 0 ∧ (∀ j, w.frozen? ⟨g, j, none⟩ = false) ∧ sblk v = [g] := by
  obtain ⟨g0, hr⟩ := h.rd
  rcases h with ⟨rfl, rfl⟩ | ⟨g, cap, cur, rfl, h1, h2⟩
  · exact absurd rfl hne
  · obtain ⟨rfl, _⟩ := hr.base hne
    exact ⟨g0, hr, fun j => frozen_of_row w g0 j cur e h1, rfl⟩
theorem run_apps {P : Program} {α : Type} {E : Enc α} {w : World} {t e : TypeId} (hT : SlTy P t e E) {v : Value} {xs : List α} (hown : Own E e w v xs) {u : Value} {ys : List α} (hr : Rd E w u ys) (hlen : xs.length + ys.length < 4294967296) (ty : TypeId) :
    ∃ v' w', (Builtin.append_ #[t, t] ty #[v, u]).run P w = .ok v' w' ∧ Own E e w' v' (xs ++ ys) ∧ Fr (sblk v) w w' ∧ (sblk v' = sblk v ∨ ∃ g, sblk v' = [g] ∧ w.heap.size ≤ g) ∧ (v' = .slice none 0 0 → v = .slice none 0 0 ∧ ys = []) := by
  obtain ⟨ht, i, z, hi, hz, hsz, hzc, hby⟩ := hT
  obtain ⟨b, off, ⟨ao, cap, rfl, ha, h1, h2⟩, hc, hl⟩ := hr
  rcases ao with _ | ad
  · have hys : ys = [] := by
      rcases ys with _ | ⟨y, ys⟩
      · rfl
      · have := ha (by simp); cases this
    subst hys
    refine ⟨v, w, ?_, by simpa using hown, Fr.refl _ _, .inl rfl, fun h => ⟨h, rfl⟩⟩
    rcases hown with ⟨rfl, rfl⟩ | ⟨g, cap, cur, rfl, _, hnc, _⟩
    · simp [Builtin.append_, run_underlying ht, sizeOf, typeInfo, hi, Builtin.lenOf, Builtin.firstCells]
    · simp [Builtin.append_, run_underlying ht, sizeOf, typeInfo, hi, Builtin.lenOf, Builtin.firstCells, hnc, storeCells]
  · have hnews : ∀ j u, (ys.flatMap E.enc)[j]? = some u → w.cell? (ad.add j) = some u := by
      intro j u hu
      have hne : ys ≠ [] := by rintro rfl; simp at hu
      have had := ha hne
      injection had with had; subst had
      have hj := (List.getElem?_eq_some_iff.1 hu).1
      rw [flat_len] at hj
      have hp := E.pos
      obtain ⟨y, hy⟩ := at_of ys (k := j / E.sz) (Nat.div_lt_of_lt_mul (by rw [Nat.mul_comm]; exact hj))
      have h3 := flat_at E ys (j / E.sz) y hy (j % E.sz) (Nat.mod_lt _ hp)
      have h4 := hc (j / E.sz) y hy (j % E.sz) (Nat.mod_lt _ hp)
      have h5 : j / E.sz * E.sz + j % E.sz = j := by rw [Nat.mul_comm]; exact Nat.div_add_mod j E.sz
      rw [h5] at h3
      rw [Nat.add_assoc, h5, ← h3, hu] at h4
      have : (⟨b, off, none⟩ : Addr).add j = ⟨b, off + j, none⟩ := by unfold Addr.add; split <;> simp_all
      rw [this]; exact h4
    have hone : ∀ u ∈ ys.flatMap E.enc, u.oneCell' = true := by
      intro u hu
      obtain ⟨y, _, hy⟩ := List.mem_flatMap.1 hu
      exact E.one y u hy
    obtain ⟨v', w', hr, g2, g3, g4, g5⟩ := run_append_own_at (P := P) w 0 t ty e i z E.sz i.bytes ht hi hz hsz rfl hzc E.pos v xs.length _ hown.row ad ys.length cap (ys.flatMap E.enc) (flat_len E ys) hnews hone
      (by unfold maxLen; omega) (by
        have : (xs.length + ys.length) * i.bytes ≤ 4294967296 * 1024 := Nat.mul_le_mul (by omega) hby
        omega) (Nat.zero_le _)
    refine ⟨v', w', hr, Own.of_row (by rw [List.length_append, List.flatMap_append]; exact g2), ?_, sblk_where g5, fun h => ?_⟩
    · have := Fr.grown g3; rwa [← sblk_own] at this
    · obtain ⟨h6, h7⟩ := g4.1 h
      exact ⟨h6, List.eq_nil_of_length_eq_zero h7⟩

theorem run_app {P : Program} {α : Type} {E : Enc α} {w : World} {t e : TypeId} (hT : SlTy P t e E) {v : Value} {xs : List α} (hown : Own E e w v xs) (y : α) {cs : Array Value} (hcs : cs.toList = E.enc y) (hlen : xs.length < 4294967295) (ty : TypeId) :
    ∃ v' w', (Builtin.append_ #[t, t] ty #[v, .slice (some ⟨w.heap.size, 0, none⟩) 1 1]).run P (w.alloc (.cells cs e)) = .ok v' w' ∧ Own E e w' v' (xs ++ [y]) ∧ Fr (sblk v) w w' ∧ (sblk v' = sblk v ∨ ∃ g, sblk v' = [g] ∧ w.heap.size ≤ g) ∧ v' ≠ .slice none 0 0 := by
  have hf : Fr [] w (w.alloc (.cells cs e)) := (Fr.refl _ _).alloc _
  have hrd : Rd E (w.alloc (.cells cs e)) (.slice (some ⟨w.heap.size, 0, none⟩) 1 1) [y] := by
    refine ⟨w.heap.size, 0, ⟨_, 1, rfl, fun _ => rfl, by simp, by simp [maxLen]⟩, fun i x hx j hj => ?_, fun _ => by simp⟩
    rcases i with _ | i
    · simp at hx; subst hx
      rw [World.cell?_alloc_new, ← hcs]; simp
    · simp at hx
  obtain ⟨v', w', h1, h2, h3, h4, h5⟩ := run_apps hT (hown.keep0 hf) hrd (by simp; omega) ty
  refine ⟨v', w', h1, h2, (hf.mono (by simp)).transS h3, ?_, fun h => by have := (h5 h).2; cases this⟩
  rcases h4 with h4 | ⟨g, h4, h6⟩
  · exact .inl h4
  · exact .inr ⟨g, h4, by simp at h6; omega⟩

theorem wp_of_run {P : Program} {w : World} {o : Oper} {a : Act} {K : Act → World → Prop} {Q : Exit → Act → World → Prop} {t : TypeId} (s x : Operand) (ho : o.op = .call { callee := .builtin .append, args := #[s, x], argTypes := #[t, t] })
    {v u v' : Value} {w' : World} (hs : a.eval s = v) (hx : a.eval x = u) (hr : (Builtin.append_ #[t, t] o.type #[v, u]).run P w = .ok v' w') (h : K (a.put o.dst v') w') : o.wp P a w K Q := by
  unfold Oper.wp execOp
  simp only [ho, resolve, invoke, builtin, Sem.run_bind, Sem.run_pure, Result.andThen_ok, List.map_toArray, List.map_cons, List.map_nil, hs, hx, hr]
  exact h

/-- 'append(s, x)' of one element that lies in the newest block, as a step of a region that draws -/
theorem step_app {P : Program} {α : Type} (E : Enc α) {w : World} {ops : Array Oper} {o : Oper} {a : Act} {K : Act → World → Prop} {Q : Exit → Act → World → Prop} {X : Prop} {t e : TypeId} (hT : SlTy P t e E)
    (hgd : o.guard = none) (s x : Operand) (ho : o.op = .call { callee := .builtin .append, args := #[s, x], argTypes := #[t, t] })
    {v : Value} {xs : List α} (hown : Own E e w v xs) (y : α) (hs : a.eval s = v) (hx : a.eval x = .slice (some ⟨w.heap.size, 0, none⟩) 1 1) (hlen : xs.length < 4294967295) {cs : Array Value} (hcs : cs.toList = E.enc y)
    (h : ∀ v' w', Own E e w' v' (xs ++ [y]) → Fr (sblk v) w w' → (sblk v' = sblk v ∨ ∃ g, sblk v' = [g] ∧ w.heap.size ≤ g) → v' ≠ .slice none 0 0 → K (a.put o.dst v') w') :
    if Region.wanted o (yielded ops a.tmps) = true then Oper.wp P o a (w.alloc (.cells cs e)) K Q else X := by
  have hw : Region.wanted o (yielded ops a.tmps) = true := by simp [Region.wanted, hgd]
  rw [if_pos hw]
  obtain ⟨v', w', h1, h2, h3, h4, h5⟩ := run_app hT hown y hcs hlen o.type
  exact wp_of_run s x ho hs hx h1 (h v' w' h2 h3 h4 h5)

/-- 'append(s, l...)' -/
theorem wpList_apps {P : Program} {α : Type} (E : Enc α) {w : World} {ops : Array Oper} {rest : List Oper} {o : Oper} {a : Act} {Q : Exit → Act → World → Prop} {t e : TypeId} (hT : SlTy P t e E)
    (hgd : o.guard = none) (s x : Operand) (ho : o.op = .call { callee := .builtin .append, args := #[s, x], argTypes := #[t, t] })
    {v u : Value} {xs ys : List α} (hown : Own E e w v xs) (hr : Rd E w u ys) (hs : a.eval s = v) (hx : a.eval x = u) (hlen : xs.length + ys.length < 4294967296)
    (h : ∀ v' w', Own E e w' v' (xs ++ ys) → Fr (sblk v) w w' → (sblk v' = sblk v ∨ ∃ g, sblk v' = [g] ∧ w.heap.size ≤ g) → wpList P ops Q rest (a.put o.dst v') w') : wpList P ops Q (o :: rest) a w := by
  refine wpList_plain hgd fun K hK => ?_
  obtain ⟨v', w', h1, h2, h3, h4, _⟩ := run_apps hT hown hr hlen o.type
  exact wp_of_run s x ho hs hx h1 (hK _ _ (h v' w' h2 h3 h4))
end Go.Proofs.YtkdmodanfcpcfaaDoor
