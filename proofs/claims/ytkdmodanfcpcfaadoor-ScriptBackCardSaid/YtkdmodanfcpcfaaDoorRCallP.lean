/- DERIVED. Chapter 37, the reference: Parse. -/
import Derived.Test.YtkdmodanfcpcfaaDoorCallP
namespace Go.Proofs.YtkdmodanfcpcfaaDoor
open Go.RowKit

def namesV : List (List UInt8) := [shapeW 1, shapeW 2, shapeW 3, shapeW 4, shapeW 5, shapeW 6]
def manyV : List Int := [3, 2, 4, 2, 2, 1]
theorem names_at {k : Nat} (h : k < 6) : namesV[k]? = some (shapeW (k + 1)) := by
  have : k = 0 ∨ k = 1 ∨ k = 2 ∨ k = 3 ∨ k = 4 ∨ k = 5 := by omega
  rcases this with rfl | rfl | rfl | rfl | rfl | rfl <;> rfl
theorem many_at {k : Nat} (h : k < 6) : manyV[k]? = some (((1 + (shapeF (k + 1)).length : Nat)) : Int) := by
  have : k = 0 ∨ k = 1 ∨ k = 2 ∨ k = 3 ∨ k = 4 ∨ k = 5 := by omega
  rcases this with rfl | rfl | rfl | rfl | rfl | rfl <;> rfl
theorem field_at {k n : Nat} {f : UInt8} (h : k < 6) (hf : (shapeF (k + 1))[n]? = some f) :
    (f = 88 ∧ (k = 0 ∨ k = 2) ∧ n + 1 = (shapeF (k + 1)).length) ∨ (f = 68 ∧ (k = 0 ∨ k = 2) ∧ n + 1 ≠ (shapeF (k + 1)).length) ∨ (f = 78 ∧ k ≠ 0 ∧ k ≠ 2) ∨ (f = 72 ∧ n = 0 ∧ (k = 1 ∨ k = 2)) := by
  have hk : k = 0 ∨ k = 1 ∨ k = 2 ∨ k = 3 ∨ k = 4 ∨ k = 5 := by omega
  have hn : n < 3 := by
    have h1 := (List.getElem?_eq_some_iff.1 hf).1
    have : (shapeF (k + 1)).length ≤ 3 := by unfold shapeF; split <;> simp
    omega
  have hn2 : n = 0 ∨ n = 1 ∨ n = 2 := by omega
  clear hn
  rcases hk with rfl | rfl | rfl | rfl | rfl | rfl <;> rcases hn2 with rfl | rfl | rfl <;> simp [shapeF] at hf ⊢ <;> subst hf <;> simp
theorem slJ : SlTy Tryd.prog 96 3 encI := SlTy.mk' (.int .i64 0) 8 Tryd.underlying96 (by kernel_rfl) rfl (by decide)
theorem idxJ {w : World} {v : Value} {xs : List Int} {b off : Nat} (h : RdAt encI w v xs b off) {k : Nat} (hk : k < xs.length) (W : World) :
    Sem.run Tryd.prog (Instr.indexAt 96 v (.int .i64 k)) W = .ok (.pointer (some ⟨b, off + k, none⟩)) W := by
  have := h.idx slJ k hk W; simpa [encI] using this
theorem cellJ {w : World} {v : Value} {xs : List Int} {b off : Nat} (h : RdAt encI w v xs b off) {k : Nat} {x : Int} (hx : xs[k]? = some x) : w.cell? ⟨b, off + k, none⟩ = some (.int .i64 x) := by
  have := h.cell k x hx 0 (by decide); simpa [encI] using this
theorem numB63 {s : List UInt8} {n : Nat} : numB 9223372036854775808 s = some n ↔ numB 18446744073709551616 s = some n ∧ n < 9223372036854775808 := by
  rw [numB_some, numB_some]
  constructor
  · rintro ⟨h1, h2⟩; exact ⟨⟨h1, by omega⟩, h2⟩
  · rintro ⟨⟨h1, _⟩, h2⟩; exact ⟨h1, h2⟩
theorem rcall_door (w wd : World) (tmps : Array Value) (g : Nat) (c : CallA) (b : Bool) (h2 : tmps[2]?.getD undef = .pointer (some ⟨g, 0, none⟩)) (h3 : tmps[3]?.getD undef = .bool b) (hc : CB wd g c) (hf : Fr [] w wd) :
    bodyPost Tryd.prog Tryd.f45 (fun e w' => e = .returned (.tuple #[callAgg c, .bool b]) ∧ Fr [] w w') Exit.ret { tmps := tmps, defers := [] } wd := by
  refine bodyPost_ret (v := .tuple #[callAgg c, .bool b]) ?_ rfl ⟨rfl, hf⟩
  simp [results, Tryd.results45, go_sem, h2, h3, hc.c0, hc.c1, hc.c2, hc.c3, hc.c4, callAgg]

set_option maxRecDepth 20000 in
set_option maxHeartbeats 4000000 in
theorem refCallParse_any (s : List UInt8) (hs : s.length ≤ 1000000) (w : World) :
    Calls Tryd.prog 45 #[.string (Str s)] w fun e w' => e = .returned (.tuple #[callAgg ((callV s).getD noCall), .bool (callV s).isSome]) ∧ Fr [] w w' := by
  have F0 : Fr [] w (w.alloc (.cells #[.int .i64 0, .int .i64 0, .int .u64 0, .int .u64 0, .int .i64 0] 24)) := (Fr.refl _ _).alloc _
  have C0 : CB (w.alloc (.cells #[.int .i64 0, .int .i64 0, .int .u64 0, .int .u64 0, .int .i64 0] 24)) w.heap.size noCall :=
    ⟨by simp [noCall], by simp [noCall], by simp [noCall], by simp [noCall], by simp [noCall], fun j => by simp [go_sem]⟩
  have SP := refWords_any s hs (w.alloc (.cells #[.int .i64 0, .int .i64 0, .int .u64 0, .int .u64 0, .int .i64 0] 24))
  have hV : callV s = callR (wordsV s) 6 := rfl
  rw [hV]
  have hws := wordsV_each s
  have hwn := wordsV_len s
  have hw1 : 1 ≤ (wordsV s).length := List.length_pos_iff.2 (wordsV_ne s)
  obtain ⟨ws, hws'⟩ : ∃ ws, wordsV s = ws := ⟨_, rfl⟩
  rw [hws'] at SP hws hwn hw1 ⊢
  obtain ⟨S, hS⟩ : ∃ S, Str s = S := ⟨_, rfl⟩
  rw [hS] at SP ⊢
  obtain ⟨o, ho⟩ : ∃ o, callR ws 6 = o := ⟨_, rfl⟩
  rw [ho]
  have HSP := Lib.hid SP
  have H0 := Lib.hid (And.intro F0 (And.intro C0 (And.intro hws ho)))
  clear SP F0 C0 hws ho hV hws' hS
  go_enter Tryd.func45, Tryd.ntmps45
  go_wp2_with fail
  refine HSP.out.mono ?_
  clear HSP
  rintro e w1 ⟨v, rfl, ⟨h, ho, hr⟩, f1⟩
  obtain ⟨ao, cap, rfl, hao, _⟩ := hr.val
  have hne : ws ≠ [] := by rintro rfl; simp at hw1
  obtain rfl := hao hne
  clear hao
  obtain ⟨g, hgg⟩ : ∃ g, w.heap.size = g := ⟨_, rfl⟩
  have C1 := H0.out.2.1.keep f1 (by simp)
  have F1 := H0.out.1.trans0 f1
  rw [hgg] at C1
  have gw : w.heap.size ≤ g := by omega
  rw [hgg]
  have hws := H0.out.2.2.1
  have hcr := H0.out.2.2.2
  clear H0 hgg f1
  -- the two tables
  have N1 : RdAt encS (w1.alloc (.cells #[.string ⟨#[115, 116, 97, 114, 116]⟩, .string ⟨#[115, 116, 111, 112]⟩, .string ⟨#[114, 101, 115, 101, 116]⟩, .string ⟨#[101, 120, 112, 105, 114, 101]⟩, .string ⟨#[119, 97, 105, 116]⟩, .string ⟨#[116, 105, 100, 121]⟩] 9)) (.slice (some ⟨w1.heap.size, 0, none⟩) 6 6) namesV w1.heap.size 0 := by
    have h : Own encS 9 (w1.alloc (.cells #[.string ⟨#[115, 116, 97, 114, 116]⟩, .string ⟨#[115, 116, 111, 112]⟩, .string ⟨#[114, 101, 115, 101, 116]⟩, .string ⟨#[101, 120, 112, 105, 114, 101]⟩, .string ⟨#[119, 97, 105, 116]⟩, .string ⟨#[116, 105, 100, 121]⟩] 9)) (.slice (some ⟨w1.heap.size, 0, none⟩) 6 6) namesV := Own.lit (xs := namesV) (heap_alloc_new w1 _) rfl (by simp [maxLen, namesV])
    obtain ⟨q, hq, _, hb⟩ := h.rd' (by simp [namesV])
    simp [sblk] at hb
    subst hb
    exact hq
  have G1 : Fr [] w1 (w1.alloc (.cells #[.string ⟨#[115, 116, 97, 114, 116]⟩, .string ⟨#[115, 116, 111, 112]⟩, .string ⟨#[114, 101, 115, 101, 116]⟩, .string ⟨#[101, 120, 112, 105, 114, 101]⟩, .string ⟨#[119, 97, 105, 116]⟩, .string ⟨#[116, 105, 100, 121]⟩] 9)) := (Fr.refl _ _).alloc _
  obtain ⟨U, hU⟩ : ∃ U, w1.alloc (.cells #[.string ⟨#[115, 116, 97, 114, 116]⟩, .string ⟨#[115, 116, 111, 112]⟩, .string ⟨#[114, 101, 115, 101, 116]⟩, .string ⟨#[101, 120, 112, 105, 114, 101]⟩, .string ⟨#[119, 97, 105, 116]⟩, .string ⟨#[116, 105, 100, 121]⟩] 9) = U := ⟨_, rfl⟩
  obtain ⟨nb, hnb⟩ : ∃ nb, w1.heap.size = nb := ⟨_, rfl⟩
  rw [hU] at N1 G1
  rw [hnb] at N1
  have N2 : RdAt encI (U.alloc (.cells #[.int .i64 3, .int .i64 2, .int .i64 4, .int .i64 2, .int .i64 2, .int .i64 1] 3)) (.slice (some ⟨U.heap.size, 0, none⟩) 6 6) manyV U.heap.size 0 := by
    have h : Own encI 3 (U.alloc (.cells #[.int .i64 3, .int .i64 2, .int .i64 4, .int .i64 2, .int .i64 2, .int .i64 1] 3)) (.slice (some ⟨U.heap.size, 0, none⟩) 6 6) manyV := Own.lit (xs := manyV) (heap_alloc_new U _) rfl (by simp [maxLen, manyV])
    obtain ⟨q, hq, _, hb⟩ := h.rd' (by simp [manyV])
    simp [sblk] at hb
    subst hb
    exact hq
  have G2 : Fr [] U (U.alloc (.cells #[.int .i64 3, .int .i64 2, .int .i64 4, .int .i64 2, .int .i64 2, .int .i64 1] 3)) := (Fr.refl _ _).alloc _
  obtain ⟨mb, hmb⟩ : ∃ mb, U.heap.size = mb := ⟨_, rfl⟩
  obtain ⟨V, hV⟩ : ∃ V, U.alloc (.cells #[.int .i64 3, .int .i64 2, .int .i64 4, .int .i64 2, .int .i64 2, .int .i64 1] 3) = V := ⟨_, rfl⟩
  rw [hV] at G2
  rw [hV, hmb] at N2
  have HN := Lib.hid (show RdAt encS V (.slice (some ⟨nb, 0, none⟩) 6 6) namesV nb 0 ∧ RdAt encI V (.slice (some ⟨mb, 0, none⟩) 6 6) manyV mb 0 ∧ RdAt encS V (.slice (some ⟨h, ho, none⟩) ws.length cap) ws h ho ∧ CB V g noCall ∧ Fr [] w V ∧ (∀ x ∈ ws, x.length ≤ s.length) ∧ callR ws 6 = o from
    ⟨N1.keep0 G2, N2, (hr.keep0 G1).keep0 G2, (C1.keep G1 (by simp)).keep G2 (by simp), (F1.trans0 G1).trans0 G2, hws, hcr⟩)
  clear N1 N2 G1 G2 hr C1 F1 hws hcr
  go_wp2_with fail
  clear hU hnb hmb hV
  go_loopw [7] (fun vi wr => ∃ k : Nat, vi = .int .i64 k ∧ k ≤ 6 ∧ Hid (callR ws (6 - k) = o) ∧ Hid (Fr [] V wr)) (fun vi _ => 6 - (intOf vi).toNat)
  case atStart => exact ⟨0, rfl, by omega, HN.out.2.2.2.2.2.2, Fr.refl _ _⟩
  case round =>
    obtain ⟨k, rfl, hk6, hR, hF⟩ := hrel
    by_cases hk : k < 6
    · have hlw : (shapeF (k + 1)).length ≤ 3 := by unfold shapeF; split <;> simp
      have hna := names_at hk
      have hma := many_at hk
      obtain ⟨wd, hwd⟩ : ∃ wd, shapeW (k + 1) = wd := ⟨_, rfl⟩
      obtain ⟨fs, hfs⟩ : ∃ fs, shapeF (k + 1) = fs := ⟨_, rfl⟩
      obtain ⟨w0, hw0⟩ := at_of ws (k := 0) (by omega)
      have hfa := fun n f => @field_at k n f hk
      have h72 : (k = 1 ∨ k = 2) → fs[0]? = some 72 := by rw [← hfs]; rintro (rfl | rfl) <;> rfl
      have H72 := Lib.hid h72
      clear h72
      rw [hwd] at hna
      rw [hfs] at hma hlw hfa
      have hr0 := HN.out.2.2.1.keep0 hF.out
      have n0 := HN.out.1.keep0 hF.out
      have m0 := HN.out.2.1.keep0 hF.out
      have i0 : ∀ W, Sem.run Tryd.prog (Instr.indexAt 55 (.slice (some ⟨h, ho, none⟩) ws.length cap) (.int .i64 0)) W = .ok (.pointer (some ⟨h, ho, none⟩)) W := idxS hr0 (k := 0) (by omega)
      have i1 := idxS n0 (k := k) (by simp [namesV]; omega)
      have i2 := idxJ m0 (k := k) (by simp [manyV]; omega)
      rw [Nat.zero_add] at i1 i2
      have c0 := cellS hr0 hw0
      have c1 := cellS n0 hna
      have c2 := cellJ m0 hma
      rw [Nat.zero_add] at c1 c2
      rw [Nat.add_zero] at c0
      have lw : ∀ (ty : TypeId) (W : World), Sem.run Tryd.prog (Builtin.len_ #[55] ty #[.slice (some ⟨h, ho, none⟩) ws.length cap]) W = .ok (.int .i64 ws.length) W := lenS hr0
      have hstep : callR ws (6 - k) = if ws[0]? = some wd ∧ ws.length = 1 + fs.length then fillV ⟨((k + 1 : Nat) : Int), 0, 0, 0, 0⟩ fs (ws.drop 1) else callR ws (5 - k) := by
        rw [show 6 - k = (5 - k) + 1 by omega, callR, show 6 - (5 - k) = k + 1 by omega, hwd, hfs]
      obtain ⟨D, hD⟩ : ∃ D, Str wd = D := ⟨_, rfl⟩
      obtain ⟨Z, hZ⟩ : ∃ Z, Str w0 = Z := ⟨_, rfl⟩
      rw [hD] at c1
      rw [hZ] at c0
      have HK := Lib.hid (And.intro hstep (And.intro hw0 (And.intro hD (And.intro hZ (And.intro hfa hr0)))))
      clear hstep hw0 hD hZ hfa hwd hfs hr0 n0 m0 hna hma
      by_cases hDZ : Z = D
      · by_cases hl : ws.length = 1 + fs.length
        · have hl2 : ((ws.length : Int) != ((1 + fs.length : Nat) : Int)) = false := by simp; omega
          have hfin : fillV ⟨((k + 1 : Nat) : Int), 0, 0, 0, 0⟩ fs (ws.drop 1) = o := by
            rw [← hR.out, HK.out.1, if_pos ⟨by
              have := HK.out.2.2.2.1.trans (hDZ.trans HK.out.2.2.1.symm)
              have := congrArg (fun b => b.data.toList) this
              rw [HK.out.2.1]
              simpa [Str] using this, hl⟩]
          have HL := Lib.hid (And.intro hl hfin)
          subst hDZ
          clear hl hfin
          go_wp2_with fail
          go_quiet (fail)
          obtain ⟨V2, hV2⟩ : ∃ V2, World.drewN wr nq = V2 := ⟨_, rfl⟩
          rw [hV2]
          have FV : Fr [] V V2 := by rw [← hV2]; exact hF.out.drewN _
          clear hV2
          have G1 : Fr [] V2 (V2.alloc (.cells #[.int .i64 (k + 1), .int .i64 0, .int .u64 0, .int .u64 0, .int .i64 0] 24)) := (Fr.refl _ _).alloc _
          have K1 : CB (V2.alloc (.cells #[.int .i64 (k + 1), .int .i64 0, .int .u64 0, .int .u64 0, .int .i64 0] 24)) V2.heap.size ⟨((k + 1 : Nat) : Int), 0, 0, 0, 0⟩ :=
            ⟨by simp, by simp, by simp, by simp, by simp, fun j => by simp [go_sem]⟩
          go_upto_region 9 with (fail)
          obtain ⟨p, hp⟩ : ∃ p, V2.heap.size = p := ⟨_, rfl⟩
          obtain ⟨U, hU⟩ : ∃ U, V2.alloc (.cells #[.int .i64 (k + 1), .int .i64 0, .int .u64 0, .int .u64 0, .int .i64 0] 24) = U := ⟨_, rfl⟩
          rw [hU] at G1
          rw [hU, hp] at K1
          rw [hU, hp]
          have hVp : V.heap.size ≤ p := by rw [← hp]; exact FV.size
          have HU := Lib.hid (show (CB U p ⟨((k + 1 : Nat) : Int), 0, 0, 0, 0⟩ ∧ V.heap.size ≤ p) ∧ Fr [] V U ∧ (∀ y ∈ sblk (.slice (some ⟨h, ho, none⟩) ws.length cap), y < V.heap.size) ∧ g ≠ p ∧ w.heap.size ≤ p from
            ⟨⟨K1, hVp⟩, FV.trans0 G1, fun y hy => by simp [sblk] at hy; subst hy; exact HN.out.2.2.1.lt hne, by have := HN.out.2.2.2.1.lt; omega, Nat.le_trans HN.out.2.2.2.2.1.size hVp⟩)
          clear FV G1 K1 hVp c1 c2 i1 i2 i0 c0 hU hp
          by_cases hH : k = 1 ∨ k = 2
          · have h72 := H72.out hH
            have hfl1 : 1 ≤ fs.length := (List.getElem?_eq_some_iff.1 h72).1
            obtain ⟨x, hx⟩ := at_of ws (k := 1) (by have := HL.out.1; omega)
            have hrU := HN.out.2.2.1.keep0 HU.out.2.1
            have iu : ∀ W, Sem.run Tryd.prog (Instr.indexAt 55 (.slice (some ⟨h, ho, none⟩) ws.length cap) (.int .i64 1)) W = .ok (.pointer (some ⟨h, ho + 1, none⟩)) W := idxS hrU (k := 1) (by have := HL.out.1; omega)
            have cu := cellS hrU hx
            have hxs : x.length ≤ 1000000 := by
              have := HN.out.2.2.2.2.2.1 x (List.mem_of_getElem? hx)
              omega
            have C := refHparse_any x hxs U
            have hst : fillV ⟨((k + 1 : Nat) : Int), 0, 0, 0, 0⟩ fs (ws.drop 1) = (setV ⟨((k + 1 : Nat) : Int), 0, 0, 0, 0⟩ 72 x).bind fun c' => fillV c' (fs.drop 1) (ws.drop 2) := by
              have h1 : 1 < ws.length := by have := HL.out.1; omega
              rw [List.drop_eq_getElem_cons h1, (List.getElem?_eq_some_iff.1 hx).2]
              cases fs with
              | nil => simp at hfl1
              | cons f r => simp at h72; subst h72; rfl
            rw [HL.out.2] at hst
            have HB := Lib.hid hH
            have hcase : ((k : Int) == 1) = true ∨ (((k : Int) == 1) = false ∧ ((k : Int) == 2) = true) := by
              rcases hH with rfl | rfl
              · left; rfl
              · right; exact ⟨rfl, rfl⟩
            obtain ⟨Y, hY⟩ : ∃ Y, Str x = Y := ⟨_, rfl⟩
            rw [hY] at cu C
            have HC := Lib.hid C
            have HST := Lib.hid hst
            clear C hY hx hrU hxs hst h72 hH
            rcases hcase with e1 | ⟨e1, e2⟩
            · go_wp2_with fail
              refine HC.out.mono ?_
              clear HC
              rintro e9 w5 ⟨rfl, f5⟩
              have K5 := HU.out.1.1.keep f5 (by simp)
              have G5 : CB w5 g noCall := ((HN.out.2.2.2.1.keep HU.out.2.1 (by simp)).keep f5 (by simp))
              have W5 : Fr [] w w5 := (HN.out.2.2.2.2.1.trans0 HU.out.2.1).trans0 f5
              cases hr : handleV x with
              | none =>
                have hon : o = none := by rw [HST.out]; simp [setV, hr]
                subst hon
                have CG := G5
                have g0 := CG.c0
                have g1 := CG.c1
                have g2 := CG.c2
                have g3 := CG.c3
                have g4 := CG.c4
                have z0 := CG.fz 0
                have z1 := CG.fz 1
                have z2 := CG.fz 2
                have z3 := CG.fz 3
                have z4 := CG.fz 4
                have HFG := Lib.hid (And.intro CG W5)
                clear CG W5 G5 K5 f5 hr
                simp only [Option.getD_none, Option.isSome_none]
                go_wp2
                exact rcall_door w _ _ g noCall false rfl rfl (HFG.out.1.setAll noCall) (HFG.out.2.setAll gw _ _ _ _ _)
              | some v =>
                have hnx : fillV ⟨((k + 1 : Nat) : Int), 0, 0, v, 0⟩ (fs.drop 1) (ws.drop 2) = o := by rw [HST.out]; simp [setV, hr]
                have q1 := K5.c3
                have q2 := K5.fz 3
                have H5 := Lib.hid (And.intro K5 (And.intro hnx f5))
                clear K5 hnx f5 G5 W5 hr
                simp only [Option.getD_some, Option.isSome_some]
                go_wp2_with fail
                go_loopw [9] (fun vi wr2 => ∃ (m : Nat) (c : CallA), vi = .int .i64 m ∧ 1 ≤ m ∧ m ≤ ws.length ∧ (m = 1 → ¬ (k = 1 ∨ k = 2)) ∧ CB wr2 p c ∧ Hid (fillV c (fs.drop (m - 1)) (ws.drop m) = o) ∧ Hid (Fr [p] U wr2)) (fun vi _ => ws.length - (intOf vi).toNat)
                case atStart => exact ⟨2, _, by first | rfl | (congr 1; omega), by omega, by have := HL.out.1; omega, by omega, H5.out.1.set3 v, H5.out.2.1, (H5.out.2.2.mono (by simp)).setCell (p := ⟨p, 3, none⟩) (.inl (by simp)) _⟩
                case round =>
                  obtain ⟨m, c, rfl, hm1, hm2, hmk, hcb, hfl, hfr⟩ := hrel
                  have CG : CB wr g noCall := (HN.out.2.2.2.1.keep HU.out.2.1 (by simp)).keep hfr.out (by simp; exact HU.out.2.2.2.1)
                  have FG : Fr [] w wr := (HN.out.2.2.2.2.1.trans0 HU.out.2.1).trans hfr.out (fun y hy => .inr (by simp at hy; subst hy; exact HU.out.2.2.2.2))
                  by_cases hlt : m < ws.length
                  · obtain ⟨x, hx⟩ := at_of ws hlt
                    obtain ⟨f, hf⟩ := at_of fs (k := m - 1) (by have := HL.out.1; omega)
                    have hrw := (HN.out.2.2.1.keep0 HU.out.2.1).keep hfr.out (by intro y hy; simp; rintro rfl; exact Nat.lt_irrefl _ (Nat.lt_of_lt_of_le (HU.out.2.2.1 y hy) HU.out.1.2))
                    have im := idxS hrw (k := m) hlt
                    have cm := cellS hrw hx
                    have hxs : x.length ≤ 1000000 := by
                      have := HN.out.2.2.2.2.2.1 x (List.mem_of_getElem? hx)
                      omega
                    have C := refWhole_any x (by omega) wr
                    have hst : fillV c (fs.drop (m - 1)) (ws.drop m) = (setV c f x).bind fun c' => fillV c' (fs.drop m) (ws.drop (m + 1)) := by
                      have h1 : m - 1 < fs.length := by have := HL.out.1; omega
                      rw [List.drop_eq_getElem_cons h1, (List.getElem?_eq_some_iff.1 hf).2, List.drop_eq_getElem_cons hlt, (List.getElem?_eq_some_iff.1 hx).2, show m - 1 + 1 = m by omega]
                      rfl
                    rw [hfl.out] at hst
                    have hcase := HK.out.2.2.2.2.1 (m - 1) f hf
                    have hlen := HL.out.1
                    obtain ⟨Y, hY⟩ : ∃ Y, Str x = Y := ⟨_, rfl⟩
                    rw [hY] at cm C
                    have HC := Lib.hid C
                    clear C hY hx hf hrw hxs hfl
                    go_wp2_with fail
                    refine HC.out.mono ?_
                    clear HC
                    rintro e9 w4 ⟨rfl, f4⟩
                    have CG := CG.keep f4 (by simp)
                    have FG := FG.trans0 f4
                    have hcb := hcb.keep f4 (by simp)
                    have F4 := hfr.out.trans0 f4
                    clear f4 im cm
                    have hset : ∀ f', f' = f → setV c f' x = setV c f x := fun _ h => by rw [h]
                    cases hr : numB 18446744073709551616 x with
                    | none =>
                      have h63 : numB 9223372036854775808 x = none := by
                        cases h : numB 9223372036854775808 x with
                        | none => rfl
                        | some n => rw [(numB63.1 h).1] at hr; cases hr
                      have hon : o = none := by
                        rw [hst]
                        rcases hcase with ⟨rfl, _⟩ | ⟨rfl, _⟩ | ⟨rfl, _⟩ | ⟨rfl, h1, h2⟩
                        · simp [setV, hr]
                        · simp [setV, h63]
                        · simp [setV, h63]
                        · exact absurd h2 (hmk (by omega))
                      simp only [Option.getD_none, Option.isSome_none]
                      clear hset hst hcase hlen F4 hr h63
                      subst hon
                      have g0 := CG.c0
                      have g1 := CG.c1
                      have g2 := CG.c2
                      have g3 := CG.c3
                      have g4 := CG.c4
                      have z0 := CG.fz 0
                      have z1 := CG.fz 1
                      have z2 := CG.fz 2
                      have z3 := CG.fz 3
                      have z4 := CG.fz 4
                      have HFG := Lib.hid (And.intro CG FG)
                      clear CG FG hcb
                      go_wp2
                      exact rcall_door w _ _ g noCall false rfl rfl (HFG.out.1.setAll noCall) (HFG.out.2.setAll gw _ _ _ _ _)
                    | some v =>
                      have hv := numB_lt hr
                      simp only [Option.getD_some, Option.isSome_some]
                      rcases hcase with ⟨rfl, hk2, he⟩ | ⟨rfl, hk2, he⟩ | ⟨rfl, hk2, hk3⟩ | ⟨rfl, h1, h2⟩
                      · have hnx : fillV { c with draw := v } (fs.drop m) (ws.drop (m + 1)) = o := by rw [hst]; simp [setV, hr]
                        have e3 : ((m : Int) == (ws.length : Int) - 1) = true := by simp; omega
                        clear hset hst hlen hr he
                        rcases hk2 with hk2 | hk2
                        · have hb := HB.out
                          have k0 : ((k : Int) == 0) = true := by simp; omega
                          first
                          | (exfalso; omega)
                          | clear hk2 hb
                            have HNX := Lib.hid hnx
                            have q1 := hcb.c2
                            have q2 := hcb.fz 2
                            have HCB := Lib.hid (And.intro hcb F4)
                            clear hnx hcb F4 CG FG
                            go_wp2
                            go_roundw
                            case rel => exact ⟨m + 1, { c with draw := v }, by first | rfl | (congr 1; omega), by omega, by omega, by omega, HCB.out.1.set2 _, HNX.out, HCB.out.2.setCell (p := ⟨p, 2, none⟩) (.inl (by simp)) _⟩
                            case measure => simp [intOf]; omega
                        · have hb := HB.out
                          have k0 : ((k : Int) == 0) = false := by simp; omega
                          have k2 : ((k : Int) == 2) = true := by simp; omega
                          first
                          | (exfalso; omega)
                          | clear hk2 hb
                            have HNX := Lib.hid hnx
                            have q1 := hcb.c2
                            have q2 := hcb.fz 2
                            have HCB := Lib.hid (And.intro hcb F4)
                            clear hnx hcb F4 CG FG
                            go_wp2
                            go_roundw
                            case rel => exact ⟨m + 1, { c with draw := v }, by first | rfl | (congr 1; omega), by omega, by omega, by omega, HCB.out.1.set2 _, HNX.out, HCB.out.2.setCell (p := ⟨p, 2, none⟩) (.inl (by simp)) _⟩
                            case measure => simp [intOf]; omega
                      · have e3 : ((m : Int) == (ws.length : Int) - 1) = false := by simp; omega
                        by_cases hsm : v < 9223372036854775808
                        · have hnx : fillV { c with deadline := (v : Int) } (fs.drop m) (ws.drop (m + 1)) = o := by rw [hst]; simp [setV, numB63.2 ⟨hr, hsm⟩]
                          clear hset hst hlen hr he
                          rcases hk2 with hk2 | hk2
                          · have hb := HB.out
                            have k0 : ((k : Int) == 0) = true := by simp; omega
                            first
                            | (exfalso; omega)
                            | clear hk2 hb
                              have HNX := Lib.hid hnx
                              have q1 := hcb.c1
                              have q2 := hcb.fz 1
                              have HCB := Lib.hid (And.intro hcb F4)
                              clear hnx hcb F4 CG FG
                              go_wp2
                              go_roundw
                              case rel => exact ⟨m + 1, { c with deadline := (v : Int) }, by first | rfl | (congr 1; omega), by omega, by omega, by omega, (by first | exact HCB.out.1.set1 _ | (rw [show wrap64 (v : Int) = v by unfold wrap64; omega]; exact HCB.out.1.set1 _)), HNX.out, HCB.out.2.setCell (p := ⟨p, 1, none⟩) (.inl (by simp)) _⟩
                              case measure => simp [intOf]; omega
                          · have hb := HB.out
                            have k0 : ((k : Int) == 0) = false := by simp; omega
                            have k2 : ((k : Int) == 2) = true := by simp; omega
                            first
                            | (exfalso; omega)
                            | clear hk2 hb
                              have HNX := Lib.hid hnx
                              have q1 := hcb.c1
                              have q2 := hcb.fz 1
                              have HCB := Lib.hid (And.intro hcb F4)
                              clear hnx hcb F4 CG FG
                              go_wp2
                              go_roundw
                              case rel => exact ⟨m + 1, { c with deadline := (v : Int) }, by first | rfl | (congr 1; omega), by omega, by omega, by omega, (by first | exact HCB.out.1.set1 _ | (rw [show wrap64 (v : Int) = v by unfold wrap64; omega]; exact HCB.out.1.set1 _)), HNX.out, HCB.out.2.setCell (p := ⟨p, 1, none⟩) (.inl (by simp)) _⟩
                              case measure => simp [intOf]; omega
                        · have h63 : numB 9223372036854775808 x = none := by
                            cases h : numB 9223372036854775808 x with
                            | none => rfl
                            | some n => have := numB63.1 h; rw [hr] at this; exact absurd this.2 (by have := this.1; injection this with this; omega)
                          have hon : o = none := by rw [hst]; simp [setV, h63]
                          clear hset hst hlen hr he h63 F4
                          rcases hk2 with hk2 | hk2
                          · have hb := HB.out
                            have k0 : ((k : Int) == 0) = true := by simp; omega
                            first
                            | (exfalso; omega)
                            | clear hk2 hb
                              subst hon
                              have g0 := CG.c0
                              have g1 := CG.c1
                              have g2 := CG.c2
                              have g3 := CG.c3
                              have g4 := CG.c4
                              have z0 := CG.fz 0
                              have z1 := CG.fz 1
                              have z2 := CG.fz 2
                              have z3 := CG.fz 3
                              have z4 := CG.fz 4
                              have HFG := Lib.hid (And.intro CG FG)
                              clear CG FG hcb
                              go_wp2
                              exact rcall_door w _ _ g noCall false rfl rfl (HFG.out.1.setAll noCall) (HFG.out.2.setAll gw _ _ _ _ _)
                          · have hb := HB.out
                            have k0 : ((k : Int) == 0) = false := by simp; omega
                            have k2 : ((k : Int) == 2) = true := by simp; omega
                            first
                            | (exfalso; omega)
                            | clear hk2 hb
                              subst hon
                              have g0 := CG.c0
                              have g1 := CG.c1
                              have g2 := CG.c2
                              have g3 := CG.c3
                              have g4 := CG.c4
                              have z0 := CG.fz 0
                              have z1 := CG.fz 1
                              have z2 := CG.fz 2
                              have z3 := CG.fz 3
                              have z4 := CG.fz 4
                              have HFG := Lib.hid (And.intro CG FG)
                              clear CG FG hcb
                              go_wp2
                              exact rcall_door w _ _ g noCall false rfl rfl (HFG.out.1.setAll noCall) (HFG.out.2.setAll gw _ _ _ _ _)
                      · have k0 : ((k : Int) == 0) = false := by simp; omega
                        have k2 : ((k : Int) == 2) = false := by simp; omega
                        by_cases hsm : v < 9223372036854775808
                        · have hnx : fillV { c with count := (v : Int) } (fs.drop m) (ws.drop (m + 1)) = o := by rw [hst]; simp [setV, numB63.2 ⟨hr, hsm⟩]
                          clear hset hst hlen hr
                          have HNX := Lib.hid hnx
                          have q1 := hcb.c4
                          have q2 := hcb.fz 4
                          have HCB := Lib.hid (And.intro hcb F4)
                          clear hnx hcb F4 CG FG
                          go_wp2
                          go_roundw
                          case rel => exact ⟨m + 1, { c with count := (v : Int) }, by first | rfl | (congr 1; omega), by omega, by omega, by omega, (by first | exact HCB.out.1.set4 _ | (rw [show wrap64 (v : Int) = v by unfold wrap64; omega]; exact HCB.out.1.set4 _)), HNX.out, HCB.out.2.setCell (p := ⟨p, 4, none⟩) (.inl (by simp)) _⟩
                          case measure => simp [intOf]; omega
                        · have h63 : numB 9223372036854775808 x = none := by
                            cases h : numB 9223372036854775808 x with
                            | none => rfl
                            | some n => have := numB63.1 h; rw [hr] at this; exact absurd this.2 (by have := this.1; injection this with this; omega)
                          have hon : o = none := by rw [hst]; simp [setV, h63]
                          clear hset hst hlen hr h63 F4
                          subst hon
                          have g0 := CG.c0
                          have g1 := CG.c1
                          have g2 := CG.c2
                          have g3 := CG.c3
                          have g4 := CG.c4
                          have z0 := CG.fz 0
                          have z1 := CG.fz 1
                          have z2 := CG.fz 2
                          have z3 := CG.fz 3
                          have z4 := CG.fz 4
                          have HFG := Lib.hid (And.intro CG FG)
                          clear CG FG hcb
                          go_wp2
                          exact rcall_door w _ _ g noCall false rfl rfl (HFG.out.1.setAll noCall) (HFG.out.2.setAll gw _ _ _ _ _)
                      · exact absurd h2 (hmk (by omega))
                  · have hon : o = some c := by
                      have := hfl.out
                      rw [List.drop_eq_nil_of_le (by have := HL.out.1; omega : fs.length ≤ m - 1)] at this
                      rw [← this]; cases ws.drop m <;> rfl
                    subst hon
                    have g0 := CG.c0
                    have g1 := CG.c1
                    have g2 := CG.c2
                    have g3 := CG.c3
                    have g4 := CG.c4
                    have z0 := CG.fz 0
                    have z1 := CG.fz 1
                    have z2 := CG.fz 2
                    have z3 := CG.fz 3
                    have z4 := CG.fz 4
                    have p0 := hcb.c0
                    have p1 := hcb.c1
                    have p2 := hcb.c2
                    have p3 := hcb.c3
                    have p4 := hcb.c4
                    have HGG := Lib.hid (And.intro CG FG)
                    clear CG FG hcb
                    go_wp2
                    exact rcall_door w _ _ g c true rfl rfl (HGG.out.1.setAll c) (HGG.out.2.setAll gw _ _ _ _ _)
            · go_wp2_with fail
              refine HC.out.mono ?_
              clear HC
              rintro e9 w5 ⟨rfl, f5⟩
              have K5 := HU.out.1.1.keep f5 (by simp)
              have G5 : CB w5 g noCall := ((HN.out.2.2.2.1.keep HU.out.2.1 (by simp)).keep f5 (by simp))
              have W5 : Fr [] w w5 := (HN.out.2.2.2.2.1.trans0 HU.out.2.1).trans0 f5
              cases hr : handleV x with
              | none =>
                have hon : o = none := by rw [HST.out]; simp [setV, hr]
                subst hon
                have CG := G5
                have g0 := CG.c0
                have g1 := CG.c1
                have g2 := CG.c2
                have g3 := CG.c3
                have g4 := CG.c4
                have z0 := CG.fz 0
                have z1 := CG.fz 1
                have z2 := CG.fz 2
                have z3 := CG.fz 3
                have z4 := CG.fz 4
                have HFG := Lib.hid (And.intro CG W5)
                clear CG W5 G5 K5 f5 hr
                simp only [Option.getD_none, Option.isSome_none]
                go_wp2
                exact rcall_door w _ _ g noCall false rfl rfl (HFG.out.1.setAll noCall) (HFG.out.2.setAll gw _ _ _ _ _)
              | some v =>
                have hnx : fillV ⟨((k + 1 : Nat) : Int), 0, 0, v, 0⟩ (fs.drop 1) (ws.drop 2) = o := by rw [HST.out]; simp [setV, hr]
                have q1 := K5.c3
                have q2 := K5.fz 3
                have H5 := Lib.hid (And.intro K5 (And.intro hnx f5))
                clear K5 hnx f5 G5 W5 hr
                simp only [Option.getD_some, Option.isSome_some]
                go_wp2_with fail
                go_loopw [9] (fun vi wr2 => ∃ (m : Nat) (c : CallA), vi = .int .i64 m ∧ 1 ≤ m ∧ m ≤ ws.length ∧ (m = 1 → ¬ (k = 1 ∨ k = 2)) ∧ CB wr2 p c ∧ Hid (fillV c (fs.drop (m - 1)) (ws.drop m) = o) ∧ Hid (Fr [p] U wr2)) (fun vi _ => ws.length - (intOf vi).toNat)
                case atStart => exact ⟨2, _, by first | rfl | (congr 1; omega), by omega, by have := HL.out.1; omega, by omega, H5.out.1.set3 v, H5.out.2.1, (H5.out.2.2.mono (by simp)).setCell (p := ⟨p, 3, none⟩) (.inl (by simp)) _⟩
                case round =>
                  obtain ⟨m, c, rfl, hm1, hm2, hmk, hcb, hfl, hfr⟩ := hrel
                  have CG : CB wr g noCall := (HN.out.2.2.2.1.keep HU.out.2.1 (by simp)).keep hfr.out (by simp; exact HU.out.2.2.2.1)
                  have FG : Fr [] w wr := (HN.out.2.2.2.2.1.trans0 HU.out.2.1).trans hfr.out (fun y hy => .inr (by simp at hy; subst hy; exact HU.out.2.2.2.2))
                  by_cases hlt : m < ws.length
                  · obtain ⟨x, hx⟩ := at_of ws hlt
                    obtain ⟨f, hf⟩ := at_of fs (k := m - 1) (by have := HL.out.1; omega)
                    have hrw := (HN.out.2.2.1.keep0 HU.out.2.1).keep hfr.out (by intro y hy; simp; rintro rfl; exact Nat.lt_irrefl _ (Nat.lt_of_lt_of_le (HU.out.2.2.1 y hy) HU.out.1.2))
                    have im := idxS hrw (k := m) hlt
                    have cm := cellS hrw hx
                    have hxs : x.length ≤ 1000000 := by
                      have := HN.out.2.2.2.2.2.1 x (List.mem_of_getElem? hx)
                      omega
                    have C := refWhole_any x (by omega) wr
                    have hst : fillV c (fs.drop (m - 1)) (ws.drop m) = (setV c f x).bind fun c' => fillV c' (fs.drop m) (ws.drop (m + 1)) := by
                      have h1 : m - 1 < fs.length := by have := HL.out.1; omega
                      rw [List.drop_eq_getElem_cons h1, (List.getElem?_eq_some_iff.1 hf).2, List.drop_eq_getElem_cons hlt, (List.getElem?_eq_some_iff.1 hx).2, show m - 1 + 1 = m by omega]
                      rfl
                    rw [hfl.out] at hst
                    have hcase := HK.out.2.2.2.2.1 (m - 1) f hf
                    have hlen := HL.out.1
                    obtain ⟨Y, hY⟩ : ∃ Y, Str x = Y := ⟨_, rfl⟩
                    rw [hY] at cm C
                    have HC := Lib.hid C
                    clear C hY hx hf hrw hxs hfl
                    go_wp2_with fail
                    refine HC.out.mono ?_
                    clear HC
                    rintro e9 w4 ⟨rfl, f4⟩
                    have CG := CG.keep f4 (by simp)
                    have FG := FG.trans0 f4
                    have hcb := hcb.keep f4 (by simp)
                    have F4 := hfr.out.trans0 f4
                    clear f4 im cm
                    have hset : ∀ f', f' = f → setV c f' x = setV c f x := fun _ h => by rw [h]
                    cases hr : numB 18446744073709551616 x with
                    | none =>
                      have h63 : numB 9223372036854775808 x = none := by
                        cases h : numB 9223372036854775808 x with
                        | none => rfl
                        | some n => rw [(numB63.1 h).1] at hr; cases hr
                      have hon : o = none := by
                        rw [hst]
                        rcases hcase with ⟨rfl, _⟩ | ⟨rfl, _⟩ | ⟨rfl, _⟩ | ⟨rfl, h1, h2⟩
                        · simp [setV, hr]
                        · simp [setV, h63]
                        · simp [setV, h63]
                        · exact absurd h2 (hmk (by omega))
                      simp only [Option.getD_none, Option.isSome_none]
                      clear hset hst hcase hlen F4 hr h63
                      subst hon
                      have g0 := CG.c0
                      have g1 := CG.c1
                      have g2 := CG.c2
                      have g3 := CG.c3
                      have g4 := CG.c4
                      have z0 := CG.fz 0
                      have z1 := CG.fz 1
                      have z2 := CG.fz 2
                      have z3 := CG.fz 3
                      have z4 := CG.fz 4
                      have HFG := Lib.hid (And.intro CG FG)
                      clear CG FG hcb
                      go_wp2
                      exact rcall_door w _ _ g noCall false rfl rfl (HFG.out.1.setAll noCall) (HFG.out.2.setAll gw _ _ _ _ _)
                    | some v =>
                      have hv := numB_lt hr
                      simp only [Option.getD_some, Option.isSome_some]
                      rcases hcase with ⟨rfl, hk2, he⟩ | ⟨rfl, hk2, he⟩ | ⟨rfl, hk2, hk3⟩ | ⟨rfl, h1, h2⟩
                      · have hnx : fillV { c with draw := v } (fs.drop m) (ws.drop (m + 1)) = o := by rw [hst]; simp [setV, hr]
                        have e3 : ((m : Int) == (ws.length : Int) - 1) = true := by simp; omega
                        clear hset hst hlen hr he
                        rcases hk2 with hk2 | hk2
                        · have hb := HB.out
                          have k0 : ((k : Int) == 0) = true := by simp; omega
                          first
                          | (exfalso; omega)
                          | clear hk2 hb
                            have HNX := Lib.hid hnx
                            have q1 := hcb.c2
                            have q2 := hcb.fz 2
                            have HCB := Lib.hid (And.intro hcb F4)
                            clear hnx hcb F4 CG FG
                            go_wp2
                            go_roundw
                            case rel => exact ⟨m + 1, { c with draw := v }, by first | rfl | (congr 1; omega), by omega, by omega, by omega, HCB.out.1.set2 _, HNX.out, HCB.out.2.setCell (p := ⟨p, 2, none⟩) (.inl (by simp)) _⟩
                            case measure => simp [intOf]; omega
                        · have hb := HB.out
                          have k0 : ((k : Int) == 0) = false := by simp; omega
                          have k2 : ((k : Int) == 2) = true := by simp; omega
                          first
                          | (exfalso; omega)
                          | clear hk2 hb
                            have HNX := Lib.hid hnx
                            have q1 := hcb.c2
                            have q2 := hcb.fz 2
                            have HCB := Lib.hid (And.intro hcb F4)
                            clear hnx hcb F4 CG FG
                            go_wp2
                            go_roundw
                            case rel => exact ⟨m + 1, { c with draw := v }, by first | rfl | (congr 1; omega), by omega, by omega, by omega, HCB.out.1.set2 _, HNX.out, HCB.out.2.setCell (p := ⟨p, 2, none⟩) (.inl (by simp)) _⟩
                            case measure => simp [intOf]; omega
                      · have e3 : ((m : Int) == (ws.length : Int) - 1) = false := by simp; omega
                        by_cases hsm : v < 9223372036854775808
                        · have hnx : fillV { c with deadline := (v : Int) } (fs.drop m) (ws.drop (m + 1)) = o := by rw [hst]; simp [setV, numB63.2 ⟨hr, hsm⟩]
                          clear hset hst hlen hr he
                          rcases hk2 with hk2 | hk2
                          · have hb := HB.out
                            have k0 : ((k : Int) == 0) = true := by simp; omega
                            first
                            | (exfalso; omega)
                            | clear hk2 hb
                              have HNX := Lib.hid hnx
                              have q1 := hcb.c1
                              have q2 := hcb.fz 1
                              have HCB := Lib.hid (And.intro hcb F4)
                              clear hnx hcb F4 CG FG
                              go_wp2
                              go_roundw
                              case rel => exact ⟨m + 1, { c with deadline := (v : Int) }, by first | rfl | (congr 1; omega), by omega, by omega, by omega, (by first | exact HCB.out.1.set1 _ | (rw [show wrap64 (v : Int) = v by unfold wrap64; omega]; exact HCB.out.1.set1 _)), HNX.out, HCB.out.2.setCell (p := ⟨p, 1, none⟩) (.inl (by simp)) _⟩
                              case measure => simp [intOf]; omega
                          · have hb := HB.out
                            have k0 : ((k : Int) == 0) = false := by simp; omega
                            have k2 : ((k : Int) == 2) = true := by simp; omega
                            first
                            | (exfalso; omega)
                            | clear hk2 hb
                              have HNX := Lib.hid hnx
                              have q1 := hcb.c1
                              have q2 := hcb.fz 1
                              have HCB := Lib.hid (And.intro hcb F4)
                              clear hnx hcb F4 CG FG
                              go_wp2
                              go_roundw
                              case rel => exact ⟨m + 1, { c with deadline := (v : Int) }, by first | rfl | (congr 1; omega), by omega, by omega, by omega, (by first | exact HCB.out.1.set1 _ | (rw [show wrap64 (v : Int) = v by unfold wrap64; omega]; exact HCB.out.1.set1 _)), HNX.out, HCB.out.2.setCell (p := ⟨p, 1, none⟩) (.inl (by simp)) _⟩
                              case measure => simp [intOf]; omega
                        · have h63 : numB 9223372036854775808 x = none := by
                            cases h : numB 9223372036854775808 x with
                            | none => rfl
                            | some n => have := numB63.1 h; rw [hr] at this; exact absurd this.2 (by have := this.1; injection this with this; omega)
                          have hon : o = none := by rw [hst]; simp [setV, h63]
                          clear hset hst hlen hr he h63 F4
                          rcases hk2 with hk2 | hk2
                          · have hb := HB.out
                            have k0 : ((k : Int) == 0) = true := by simp; omega
                            first
                            | (exfalso; omega)
                            | clear hk2 hb
                              subst hon
                              have g0 := CG.c0
                              have g1 := CG.c1
                              have g2 := CG.c2
                              have g3 := CG.c3
                              have g4 := CG.c4
                              have z0 := CG.fz 0
                              have z1 := CG.fz 1
                              have z2 := CG.fz 2
                              have z3 := CG.fz 3
                              have z4 := CG.fz 4
                              have HFG := Lib.hid (And.intro CG FG)
                              clear CG FG hcb
                              go_wp2
                              exact rcall_door w _ _ g noCall false rfl rfl (HFG.out.1.setAll noCall) (HFG.out.2.setAll gw _ _ _ _ _)
                          · have hb := HB.out
                            have k0 : ((k : Int) == 0) = false := by simp; omega
                            have k2 : ((k : Int) == 2) = true := by simp; omega
                            first
                            | (exfalso; omega)
                            | clear hk2 hb
                              subst hon
                              have g0 := CG.c0
                              have g1 := CG.c1
                              have g2 := CG.c2
                              have g3 := CG.c3
                              have g4 := CG.c4
                              have z0 := CG.fz 0
                              have z1 := CG.fz 1
                              have z2 := CG.fz 2
                              have z3 := CG.fz 3
                              have z4 := CG.fz 4
                              have HFG := Lib.hid (And.intro CG FG)
                              clear CG FG hcb
                              go_wp2
                              exact rcall_door w _ _ g noCall false rfl rfl (HFG.out.1.setAll noCall) (HFG.out.2.setAll gw _ _ _ _ _)
                      · have k2 : ((k : Int) == 2) = false := by simp; omega
                        rw [e2] at k2
                        cases k2
                      · exact absurd h2 (hmk (by omega))
                  · have hon : o = some c := by
                      have := hfl.out
                      rw [List.drop_eq_nil_of_le (by have := HL.out.1; omega : fs.length ≤ m - 1)] at this
                      rw [← this]; cases ws.drop m <;> rfl
                    subst hon
                    have g0 := CG.c0
                    have g1 := CG.c1
                    have g2 := CG.c2
                    have g3 := CG.c3
                    have g4 := CG.c4
                    have z0 := CG.fz 0
                    have z1 := CG.fz 1
                    have z2 := CG.fz 2
                    have z3 := CG.fz 3
                    have z4 := CG.fz 4
                    have p0 := hcb.c0
                    have p1 := hcb.c1
                    have p2 := hcb.c2
                    have p3 := hcb.c3
                    have p4 := hcb.c4
                    have HGG := Lib.hid (And.intro CG FG)
                    clear CG FG hcb
                    go_wp2
                    exact rcall_door w _ _ g c true rfl rfl (HGG.out.1.setAll c) (HGG.out.2.setAll gw _ _ _ _ _)
          · have HB := Lib.hid hH
            have e1 : ((k : Int) == 1) = false := by simp; omega
            have e2 : ((k : Int) == 2) = false := by simp; omega
            clear hH
            go_wp2_with fail
            go_loopw [9] (fun vi wr2 => ∃ (m : Nat) (c : CallA), vi = .int .i64 m ∧ 1 ≤ m ∧ m ≤ ws.length ∧ (m = 1 → ¬ (k = 1 ∨ k = 2)) ∧ CB wr2 p c ∧ Hid (fillV c (fs.drop (m - 1)) (ws.drop m) = o) ∧ Hid (Fr [p] U wr2)) (fun vi _ => ws.length - (intOf vi).toNat)
            case atStart => exact ⟨1, _, by first | rfl | (congr 1; omega), by omega, by omega, fun _ h => HB.out h, HU.out.1.1, HL.out.2, Fr.refl _ _⟩
            case round =>
              obtain ⟨m, c, rfl, hm1, hm2, hmk, hcb, hfl, hfr⟩ := hrel
              have CG : CB wr g noCall := (HN.out.2.2.2.1.keep HU.out.2.1 (by simp)).keep hfr.out (by simp; exact HU.out.2.2.2.1)
              have FG : Fr [] w wr := (HN.out.2.2.2.2.1.trans0 HU.out.2.1).trans hfr.out (fun y hy => .inr (by simp at hy; subst hy; exact HU.out.2.2.2.2))
              by_cases hlt : m < ws.length
              · obtain ⟨x, hx⟩ := at_of ws hlt
                obtain ⟨f, hf⟩ := at_of fs (k := m - 1) (by have := HL.out.1; omega)
                have hrw := (HN.out.2.2.1.keep0 HU.out.2.1).keep hfr.out (by intro y hy; simp; rintro rfl; exact Nat.lt_irrefl _ (Nat.lt_of_lt_of_le (HU.out.2.2.1 y hy) HU.out.1.2))
                have im := idxS hrw (k := m) hlt
                have cm := cellS hrw hx
                have hxs : x.length ≤ 1000000 := by
                  have := HN.out.2.2.2.2.2.1 x (List.mem_of_getElem? hx)
                  omega
                have C := refWhole_any x (by omega) wr
                have hst : fillV c (fs.drop (m - 1)) (ws.drop m) = (setV c f x).bind fun c' => fillV c' (fs.drop m) (ws.drop (m + 1)) := by
                  have h1 : m - 1 < fs.length := by have := HL.out.1; omega
                  rw [List.drop_eq_getElem_cons h1, (List.getElem?_eq_some_iff.1 hf).2, List.drop_eq_getElem_cons hlt, (List.getElem?_eq_some_iff.1 hx).2, show m - 1 + 1 = m by omega]
                  rfl
                rw [hfl.out] at hst
                have hcase := HK.out.2.2.2.2.1 (m - 1) f hf
                have hlen := HL.out.1
                obtain ⟨Y, hY⟩ : ∃ Y, Str x = Y := ⟨_, rfl⟩
                rw [hY] at cm C
                have HC := Lib.hid C
                clear C hY hx hf hrw hxs hfl
                go_wp2_with fail
                refine HC.out.mono ?_
                clear HC
                rintro e9 w4 ⟨rfl, f4⟩
                have CG := CG.keep f4 (by simp)
                have FG := FG.trans0 f4
                have hcb := hcb.keep f4 (by simp)
                have F4 := hfr.out.trans0 f4
                clear f4 im cm
                have hset : ∀ f', f' = f → setV c f' x = setV c f x := fun _ h => by rw [h]
                cases hr : numB 18446744073709551616 x with
                | none =>
                  have h63 : numB 9223372036854775808 x = none := by
                    cases h : numB 9223372036854775808 x with
                    | none => rfl
                    | some n => rw [(numB63.1 h).1] at hr; cases hr
                  have hon : o = none := by
                    rw [hst]
                    rcases hcase with ⟨rfl, _⟩ | ⟨rfl, _⟩ | ⟨rfl, _⟩ | ⟨rfl, h1, h2⟩
                    · simp [setV, hr]
                    · simp [setV, h63]
                    · simp [setV, h63]
                    · exact absurd h2 (hmk (by omega))
                  simp only [Option.getD_none, Option.isSome_none]
                  clear hset hst hcase hlen F4 hr h63
                  subst hon
                  have g0 := CG.c0
                  have g1 := CG.c1
                  have g2 := CG.c2
                  have g3 := CG.c3
                  have g4 := CG.c4
                  have z0 := CG.fz 0
                  have z1 := CG.fz 1
                  have z2 := CG.fz 2
                  have z3 := CG.fz 3
                  have z4 := CG.fz 4
                  have HFG := Lib.hid (And.intro CG FG)
                  clear CG FG hcb
                  go_wp2
                  exact rcall_door w _ _ g noCall false rfl rfl (HFG.out.1.setAll noCall) (HFG.out.2.setAll gw _ _ _ _ _)
                | some v =>
                  have hv := numB_lt hr
                  simp only [Option.getD_some, Option.isSome_some]
                  rcases hcase with ⟨rfl, hk2, he⟩ | ⟨rfl, hk2, he⟩ | ⟨rfl, hk2, hk3⟩ | ⟨rfl, h1, h2⟩
                  · have hnx : fillV { c with draw := v } (fs.drop m) (ws.drop (m + 1)) = o := by rw [hst]; simp [setV, hr]
                    have e3 : ((m : Int) == (ws.length : Int) - 1) = true := by simp; omega
                    clear hset hst hlen hr he
                    rcases hk2 with hk2 | hk2
                    · have hb := HB.out
                      have k0 : ((k : Int) == 0) = true := by simp; omega
                      first
                      | (exfalso; omega)
                      | clear hk2 hb
                        have HNX := Lib.hid hnx
                        have q1 := hcb.c2
                        have q2 := hcb.fz 2
                        have HCB := Lib.hid (And.intro hcb F4)
                        clear hnx hcb F4 CG FG
                        go_wp2
                        have D1 : decide ((k : Int) < 6) = true := by simp; omega
                        have D2 : ((ws.length : Int) != 1 + (fs.length : Int)) = false := by have := HL.out.1; simp; omega
                        try simp only [D1, D2]
                        go_roundw
                        case rel => exact ⟨m + 1, { c with draw := v }, by first | rfl | (congr 1; omega), by omega, by omega, by omega, HCB.out.1.set2 _, HNX.out, HCB.out.2.setCell (p := ⟨p, 2, none⟩) (.inl (by simp)) _⟩
                        case measure => simp [intOf]; omega
                    · have hb := HB.out
                      have k0 : ((k : Int) == 0) = false := by simp; omega
                      have k2 : ((k : Int) == 2) = true := by simp; omega
                      first
                      | (exfalso; omega)
                      | clear hk2 hb
                        have HNX := Lib.hid hnx
                        have q1 := hcb.c2
                        have q2 := hcb.fz 2
                        have HCB := Lib.hid (And.intro hcb F4)
                        clear hnx hcb F4 CG FG
                        go_wp2
                        have D1 : decide ((k : Int) < 6) = true := by simp; omega
                        have D2 : ((ws.length : Int) != 1 + (fs.length : Int)) = false := by have := HL.out.1; simp; omega
                        try simp only [D1, D2]
                        go_roundw
                        case rel => exact ⟨m + 1, { c with draw := v }, by first | rfl | (congr 1; omega), by omega, by omega, by omega, HCB.out.1.set2 _, HNX.out, HCB.out.2.setCell (p := ⟨p, 2, none⟩) (.inl (by simp)) _⟩
                        case measure => simp [intOf]; omega
                  · have e3 : ((m : Int) == (ws.length : Int) - 1) = false := by simp; omega
                    by_cases hsm : v < 9223372036854775808
                    · have hnx : fillV { c with deadline := (v : Int) } (fs.drop m) (ws.drop (m + 1)) = o := by rw [hst]; simp [setV, numB63.2 ⟨hr, hsm⟩]
                      clear hset hst hlen hr he
                      rcases hk2 with hk2 | hk2
                      · have hb := HB.out
                        have k0 : ((k : Int) == 0) = true := by simp; omega
                        first
                        | (exfalso; omega)
                        | clear hk2 hb
                          have HNX := Lib.hid hnx
                          have q1 := hcb.c1
                          have q2 := hcb.fz 1
                          have HCB := Lib.hid (And.intro hcb F4)
                          clear hnx hcb F4 CG FG
                          go_wp2
                          have D1 : decide ((k : Int) < 6) = true := by simp; omega
                          have D2 : ((ws.length : Int) != 1 + (fs.length : Int)) = false := by have := HL.out.1; simp; omega
                          try simp only [D1, D2]
                          go_roundw
                          case rel => exact ⟨m + 1, { c with deadline := (v : Int) }, by first | rfl | (congr 1; omega), by omega, by omega, by omega, (by first | exact HCB.out.1.set1 _ | (rw [show wrap64 (v : Int) = v by unfold wrap64; omega]; exact HCB.out.1.set1 _)), HNX.out, HCB.out.2.setCell (p := ⟨p, 1, none⟩) (.inl (by simp)) _⟩
                          case measure => simp [intOf]; omega
                      · have hb := HB.out
                        have k0 : ((k : Int) == 0) = false := by simp; omega
                        have k2 : ((k : Int) == 2) = true := by simp; omega
                        first
                        | (exfalso; omega)
                        | clear hk2 hb
                          have HNX := Lib.hid hnx
                          have q1 := hcb.c1
                          have q2 := hcb.fz 1
                          have HCB := Lib.hid (And.intro hcb F4)
                          clear hnx hcb F4 CG FG
                          go_wp2
                          have D1 : decide ((k : Int) < 6) = true := by simp; omega
                          have D2 : ((ws.length : Int) != 1 + (fs.length : Int)) = false := by have := HL.out.1; simp; omega
                          try simp only [D1, D2]
                          go_roundw
                          case rel => exact ⟨m + 1, { c with deadline := (v : Int) }, by first | rfl | (congr 1; omega), by omega, by omega, by omega, (by first | exact HCB.out.1.set1 _ | (rw [show wrap64 (v : Int) = v by unfold wrap64; omega]; exact HCB.out.1.set1 _)), HNX.out, HCB.out.2.setCell (p := ⟨p, 1, none⟩) (.inl (by simp)) _⟩
                          case measure => simp [intOf]; omega
                    · have h63 : numB 9223372036854775808 x = none := by
                        cases h : numB 9223372036854775808 x with
                        | none => rfl
                        | some n => have := numB63.1 h; rw [hr] at this; exact absurd this.2 (by have := this.1; injection this with this; omega)
                      have hon : o = none := by rw [hst]; simp [setV, h63]
                      clear hset hst hlen hr he h63 F4
                      rcases hk2 with hk2 | hk2
                      · have hb := HB.out
                        have k0 : ((k : Int) == 0) = true := by simp; omega
                        first
                        | (exfalso; omega)
                        | clear hk2 hb
                          subst hon
                          have g0 := CG.c0
                          have g1 := CG.c1
                          have g2 := CG.c2
                          have g3 := CG.c3
                          have g4 := CG.c4
                          have z0 := CG.fz 0
                          have z1 := CG.fz 1
                          have z2 := CG.fz 2
                          have z3 := CG.fz 3
                          have z4 := CG.fz 4
                          have HFG := Lib.hid (And.intro CG FG)
                          clear CG FG hcb
                          go_wp2
                          exact rcall_door w _ _ g noCall false rfl rfl (HFG.out.1.setAll noCall) (HFG.out.2.setAll gw _ _ _ _ _)
                      · have hb := HB.out
                        have k0 : ((k : Int) == 0) = false := by simp; omega
                        have k2 : ((k : Int) == 2) = true := by simp; omega
                        first
                        | (exfalso; omega)
                        | clear hk2 hb
                          subst hon
                          have g0 := CG.c0
                          have g1 := CG.c1
                          have g2 := CG.c2
                          have g3 := CG.c3
                          have g4 := CG.c4
                          have z0 := CG.fz 0
                          have z1 := CG.fz 1
                          have z2 := CG.fz 2
                          have z3 := CG.fz 3
                          have z4 := CG.fz 4
                          have HFG := Lib.hid (And.intro CG FG)
                          clear CG FG hcb
                          go_wp2
                          exact rcall_door w _ _ g noCall false rfl rfl (HFG.out.1.setAll noCall) (HFG.out.2.setAll gw _ _ _ _ _)
                  · have k0 : ((k : Int) == 0) = false := by simp; omega
                    have k2 : ((k : Int) == 2) = false := by simp; omega
                    by_cases hsm : v < 9223372036854775808
                    · have hnx : fillV { c with count := (v : Int) } (fs.drop m) (ws.drop (m + 1)) = o := by rw [hst]; simp [setV, numB63.2 ⟨hr, hsm⟩]
                      clear hset hst hlen hr
                      have HNX := Lib.hid hnx
                      have q1 := hcb.c4
                      have q2 := hcb.fz 4
                      have HCB := Lib.hid (And.intro hcb F4)
                      clear hnx hcb F4 CG FG
                      go_wp2
                      have D1 : decide ((k : Int) < 6) = true := by simp; omega
                      have D2 : ((ws.length : Int) != 1 + (fs.length : Int)) = false := by have := HL.out.1; simp; omega
                      try simp only [D1, D2]
                      go_roundw
                      case rel => exact ⟨m + 1, { c with count := (v : Int) }, by first | rfl | (congr 1; omega), by omega, by omega, by omega, (by first | exact HCB.out.1.set4 _ | (rw [show wrap64 (v : Int) = v by unfold wrap64; omega]; exact HCB.out.1.set4 _)), HNX.out, HCB.out.2.setCell (p := ⟨p, 4, none⟩) (.inl (by simp)) _⟩
                      case measure => simp [intOf]; omega
                    · have h63 : numB 9223372036854775808 x = none := by
                        cases h : numB 9223372036854775808 x with
                        | none => rfl
                        | some n => have := numB63.1 h; rw [hr] at this; exact absurd this.2 (by have := this.1; injection this with this; omega)
                      have hon : o = none := by rw [hst]; simp [setV, h63]
                      clear hset hst hlen hr h63 F4
                      subst hon
                      have g0 := CG.c0
                      have g1 := CG.c1
                      have g2 := CG.c2
                      have g3 := CG.c3
                      have g4 := CG.c4
                      have z0 := CG.fz 0
                      have z1 := CG.fz 1
                      have z2 := CG.fz 2
                      have z3 := CG.fz 3
                      have z4 := CG.fz 4
                      have HFG := Lib.hid (And.intro CG FG)
                      clear CG FG hcb
                      go_wp2
                      exact rcall_door w _ _ g noCall false rfl rfl (HFG.out.1.setAll noCall) (HFG.out.2.setAll gw _ _ _ _ _)
                  · exact absurd h2 (hmk (by omega))
              · have hon : o = some c := by
                  have := hfl.out
                  rw [List.drop_eq_nil_of_le (by have := HL.out.1; omega : fs.length ≤ m - 1)] at this
                  rw [← this]; cases ws.drop m <;> rfl
                subst hon
                have g0 := CG.c0
                have g1 := CG.c1
                have g2 := CG.c2
                have g3 := CG.c3
                have g4 := CG.c4
                have z0 := CG.fz 0
                have z1 := CG.fz 1
                have z2 := CG.fz 2
                have z3 := CG.fz 3
                have z4 := CG.fz 4
                have p0 := hcb.c0
                have p1 := hcb.c1
                have p2 := hcb.c2
                have p3 := hcb.c3
                have p4 := hcb.c4
                have HGG := Lib.hid (And.intro CG FG)
                clear CG FG hcb
                go_wp2
                exact rcall_door w _ _ g c true rfl rfl (HGG.out.1.setAll c) (HGG.out.2.setAll gw _ _ _ _ _)
        · have hl2 : ((ws.length : Int) != ((1 + fs.length : Nat) : Int)) = true := by simp; omega
          have hnx : callR ws (6 - (k + 1)) = o := by
            rw [show 6 - (k + 1) = 5 - k by omega, ← hR.out, HK.out.1, if_neg (fun h => hl h.2)]
          have HX := Lib.hid hnx
          subst hDZ
          clear hl hnx
          go_wp2_with fail
          go_quiet (fail)
          go_wp2
          go_roundw
          case rel => exact ⟨k + 1, by first | rfl | (congr 1; omega), by omega, HX.out, hF.out.drewN _⟩
          case measure => simp [intOf]; omega
      · have hq := (Lib.bytes_beq_false_iff Z D).2 hDZ
        have hnx : callR ws (6 - (k + 1)) = o := by
          rw [show 6 - (k + 1) = 5 - k by omega, ← hR.out, HK.out.1, if_neg]
          rintro ⟨h1, _⟩
          rw [HK.out.2.1] at h1
          injection h1 with h1
          exact hDZ (by rw [← HK.out.2.2.1, ← HK.out.2.2.2.1, h1])
        have HX := Lib.hid hnx
        clear hnx hDZ
        go_wp2_with fail
        go_quiet (fail)
        go_wp2
        go_roundw
        case rel => exact ⟨k + 1, by first | rfl | (congr 1; omega), by omega, HX.out, hF.out.drewN _⟩
        case measure => simp [intOf]; omega
    · have hk : k = 6 := by omega
      subst hk
      have hon : o = none := by rw [← hR.out]; rfl
      subst hon
      have CG := HN.out.2.2.2.1.keep hF.out (by simp)
      have g0 := CG.c0
      have g1 := CG.c1
      have g2 := CG.c2
      have g3 := CG.c3
      have g4 := CG.c4
      have z0 := CG.fz 0
      have z1 := CG.fz 1
      have z2 := CG.fz 2
      have z3 := CG.fz 3
      have z4 := CG.fz 4
      have HFG := Lib.hid (And.intro (HN.out.2.2.2.2.1.trans0 hF.out) CG)
      clear CG
      go_wp2
      exact rcall_door w _ _ g noCall false rfl rfl (HFG.out.2.setAll noCall) (HFG.out.1.setAll gw _ _ _ _ _)
end Go.Proofs.YtkdmodanfcpcfaaDoor
