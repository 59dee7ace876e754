/- DERIVED. Chapter 42: Line, of the program. -/
import Derived.Test.YtkdmodanfcpcfaaDoorLineV
import Derived.Test.YtkdmodanfcpcfaaDoorEventOf
import Derived.BigRegion
import Derived.Deep.RegionHeld3
namespace Go.Proofs.YtkdmodanfcpcfaaDoor
open Go.RowKit

theorem bf2 (w : World) (a b : Array Value) (t u : TypeId) : BF ((w.alloc (.cells a t)).alloc (.cells b u)) w.heap.size a.toList ∧ BF ((w.alloc (.cells a t)).alloc (.cells b u)) (w.heap.size + 1) b.toList ∧ Fr [] w ((w.alloc (.cells a t)).alloc (.cells b u)) := by
  refine ⟨(BF.new w a t).keep0 ((Fr.refl _ _).alloc _), ?_, ((Fr.refl _ _).alloc _).alloc _⟩
  have := BF.new (w.alloc (.cells a t)) b u
  rwa [World.size_alloc] at this
theorem ne5 {a b : CallA} (h : a ≠ b) : (a.kind ≠ b.kind) ∨ (a.kind = b.kind ∧ a.deadline ≠ b.deadline) ∨ (a.kind = b.kind ∧ a.deadline = b.deadline ∧ a.draw ≠ b.draw) ∨ (a.kind = b.kind ∧ a.deadline = b.deadline ∧ a.draw = b.draw ∧ a.handle ≠ b.handle) ∨ (a.kind = b.kind ∧ a.deadline = b.deadline ∧ a.draw = b.draw ∧ a.handle = b.handle ∧ a.count ≠ b.count) := by
  by_cases h1 : a.kind = b.kind
  · by_cases h2 : a.deadline = b.deadline
    · by_cases h3 : a.draw = b.draw
      · by_cases h4 : a.handle = b.handle
        · refine .inr (.inr (.inr (.inr ⟨h1, h2, h3, h4, fun h5 => h ?_⟩)))
          cases a; cases b
          simp at h1 h2 h3 h4 h5
          simp [h1, h2, h3, h4, h5]
        · exact .inr (.inr (.inr (.inl ⟨h1, h2, h3, h4⟩)))
      · exact .inr (.inr (.inl ⟨h1, h2, h3⟩))
    · exact .inr (.inl ⟨h1, h2⟩)
  · exact .inl h1
theorem lineR_no {e : EventA} (h : lineV e = none) : LineR e (.returned (.tuple #[.string ⟨#[]⟩, .bool false])) := by unfold LineR; rw [h]; rfl
theorem lineR_yes {e : EventA} {t : List UInt8} {X : ByteArray} (h : lineV e = some t) (hX : Str t = X) : LineR e (.returned (.tuple #[.string X, .bool true])) := by unfold LineR; rw [h, ← hX]; rfl
theorem ret_sb {s t : ByteArray} {a b : Bool} (h1 : s = t) (h2 : a = b) : Ending.returned (.tuple #[.string s, .bool a]) = .returned (.tuple #[.string t, .bool b]) := by rw [h1, h2]
set_option maxRecDepth 20000 in
set_option maxHeartbeats 4000000 in
theorem line_call (th tk : Int) (c : CallA) (he : EventA.ok ⟨1, th, c, tk⟩) (w : World) (hg : Glob w) :
    Calls Tryd.prog 20 #[eventAgg ⟨1, th, c, tk⟩] w fun x w' => LineR ⟨1, th, c, tk⟩ x ∧ Fr [] w w' := by
  unfold eventAgg
  have L1 : (Str (Lib.itoa th)).size ≤ 21 := itoa_len th he.thread.1 he.thread.2
  have L3 : (Str (callT c)).size ≤ 136 := callT_len he.call
  have L4 : (callT c).length ≤ 136 := by rwa [Str.size] at L3
  have CT := fun W hW => itoa_any th he.thread.1 he.thread.2 W hW
  simp only [Str.lit] at CT
  have CC := fun W hW => callText_any c he.call W hW
  have CP := fun W hW => callParse_any (callT c) (by omega) W hW
  have hR : lineV ⟨1, th, c, tk⟩ = if backV c ∧ tk = 0 ∧ 0 ≤ th then some (wCall ++ 32 :: Lib.itoa th ++ 32 :: callT c ++ [10]) else none := by unfold lineV; rw [if_pos rfl]
  have hb : backV c ↔ callV (callT c) = some c := Iff.rfl
  have B0 := bf2 w #[.int .i64 1, .int .i64 th, .int .i64 c.kind, .int .i64 c.deadline, .int .u64 c.draw, .int .u64 c.handle, .int .i64 c.count, .int .i64 tk] #[.int .i64 1, .int .i64 0, .int .i64 0, .int .i64 0, .int .u64 0, .int .u64 0, .int .i64 0, .int .i64 0] 49 49
  obtain ⟨o, ho⟩ : ∃ o, callV (callT c) = o := ⟨_, rfl⟩
  rw [ho] at hb
  simp only [ho] at CP
  have hcat : Str (wCall ++ 32 :: Lib.itoa th ++ 32 :: callT c ++ [10]) = ⟨#[99, 97, 108, 108, 32]⟩ ++ Str (Lib.itoa th) ++ ⟨#[32]⟩ ++ Str (callT c) ++ ⟨#[10]⟩ := by
    apply ByteArray.ext
    simp [Str, wCall, ByteArray.data_append]
  have hnem : (⟨#[99, 97, 108, 108, 32]⟩ ++ Str (Lib.itoa th) ++ ⟨#[32]⟩ ++ Str (callT c) : ByteArray) ≠ ⟨#[]⟩ := by
    intro e
    have := congrArg (fun b => b.data.size) e
    simp [Str, ByteArray.data_append] at this
  obtain ⟨A, hA⟩ : ∃ A, Str (Lib.itoa th) = A := ⟨_, rfl⟩
  obtain ⟨C, hC⟩ : ∃ A, Str (callT c) = A := ⟨_, rfl⟩
  rw [hA] at CT L1 hcat hnem
  rw [hC] at L3 hcat hnem
  simp only [hC] at CC CP
  have HG := Lib.hid (And.intro hg (And.intro hR (And.intro hb (And.intro hcat B0))))
  have HCT := Lib.hid CT
  have HCC := Lib.hid CC
  have HCP := Lib.hid CP
  clear hg hR hb CT CC CP he hA hC ho hcat B0
  go_enter Tryd.func20, Tryd.ntmps20
  go_upto_region 5 with (fail)
  obtain ⟨g1, h1⟩ : ∃ g, w.heap.size = g := ⟨_, rfl⟩
  obtain ⟨g5, h5⟩ : ∃ g, g1 + 1 = g := ⟨_, rfl⟩
  obtain ⟨U, hU⟩ : ∃ U, (w.alloc (.cells #[.int .i64 1, .int .i64 th, .int .i64 c.kind, .int .i64 c.deadline, .int .u64 c.draw, .int .u64 c.handle, .int .i64 c.count, .int .i64 tk] 49)).alloc (.cells #[.int .i64 1, .int .i64 0, .int .i64 0, .int .i64 0, .int .u64 0, .int .u64 0, .int .i64 0, .int .i64 0] 49) = U := ⟨_, rfl⟩
  have B1 := HG.out.2.2.2.2
  rw [hU, h1, h5] at B1
  rw [hU, h1, h5]
  have n15 : g1 ≠ g5 := by omega
  have n51 : g5 ≠ g1 := by omega
  have gw : w.heap.size ≤ g5 := by omega
  clear hU h1 h5
  obtain ⟨b1, b5, fU⟩ := B1
  have c1 := b1.cell 1
  have c2 := b1.cell 2
  have c3 := b1.cell 3
  have c4 := b1.cell 4
  have c5 := b1.cell 5
  have c6 := b1.cell 6
  have d1 := b5.cell 1
  have d2 := b5.cell 2
  have d3 := b5.cell 3
  have d4 := b5.cell 4
  have d5 := b5.cell 5
  have d6 := b5.cell 6
  have z1 := b5.fz 1
  have z2 := b5.fz 2
  have z3 := b5.fz 3
  have z4 := b5.fz 4
  have z5 := b5.fz 5
  have z6 := b5.fz 6
  have fV : Fr [g5] U ((((((U.setCell ⟨g5, 1, none⟩ (.int .i64 th)).setCell ⟨g5, 2, none⟩ (.int .i64 c.kind)).setCell ⟨g5, 3, none⟩ (.int .i64 c.deadline)).setCell ⟨g5, 4, none⟩ (.int .u64 c.draw)).setCell ⟨g5, 5, none⟩ (.int .u64 c.handle)).setCell ⟨g5, 6, none⟩ (.int .i64 c.count)).drew :=
    (((((((Fr.refl [g5] U).setCell (p := ⟨g5, 1, none⟩) (.inl (by simp)) _).setCell (p := ⟨g5, 2, none⟩) (.inl (by simp)) _).setCell (p := ⟨g5, 3, none⟩) (.inl (by simp)) _).setCell (p := ⟨g5, 4, none⟩) (.inl (by simp)) _).setCell (p := ⟨g5, 5, none⟩) (.inl (by simp)) _).setCell (p := ⟨g5, 6, none⟩) (.inl (by simp)) _).drew
  have b5' : BF ((((((U.setCell ⟨g5, 1, none⟩ (.int .i64 th)).setCell ⟨g5, 2, none⟩ (.int .i64 c.kind)).setCell ⟨g5, 3, none⟩ (.int .i64 c.deadline)).setCell ⟨g5, 4, none⟩ (.int .u64 c.draw)).setCell ⟨g5, 5, none⟩ (.int .u64 c.handle)).setCell ⟨g5, 6, none⟩ (.int .i64 c.count)).drew g5 (⟨1, th, c, 0⟩ : EventA).cs :=
    ((((((b5.set 1 (by simp) (.int .i64 th)).set 2 (by simp) (.int .i64 c.kind)).set 3 (by simp) (.int .i64 c.deadline)).set 4 (by simp) (.int .u64 c.draw)).set 5 (by simp) (.int .u64 c.handle)).set 6 (by simp) (.int .i64 c.count)).keep0 ((Fr.refl [] _).drew)
  have b1' := b1.keep fV (by simp; exact n15)
  have HB := Lib.hid (And.intro b1' (And.intro b5' (fU.trans fV (fun x hx => .inr (by simp at hx; subst hx; exact gw)))))
  clear b1 b5 fU fV b5' b1'
  go_region
  go_upto_region 6 with (fail)
  clear c1 c2 c3 c4 c5 c6 d1 d2 d3 d4 d5 d6 z1 z2 z3 z4 z5 z6
  obtain ⟨V, hV⟩ : ∃ V, ((((((U.setCell ⟨g5, 1, none⟩ (.int .i64 th)).setCell ⟨g5, 2, none⟩ (.int .i64 c.kind)).setCell ⟨g5, 3, none⟩ (.int .i64 c.deadline)).setCell ⟨g5, 4, none⟩ (.int .u64 c.draw)).setCell ⟨g5, 5, none⟩ (.int .u64 c.handle)).setCell ⟨g5, 6, none⟩ (.int .i64 c.count)).drew = V := ⟨_, rfl⟩
  rw [hV] at HB
  rw [hV]
  clear hV
  have HS := Lib.hid (show ∀ W, Fr [] V W → W.cell? ⟨g1, 1, none⟩ = some (.int .i64 th) ∧ W.cell? ⟨g1, 2, none⟩ = some (.int .i64 c.kind) ∧ W.cell? ⟨g1, 3, none⟩ = some (.int .i64 c.deadline) ∧ W.cell? ⟨g1, 4, none⟩ = some (.int .u64 c.draw) ∧ W.cell? ⟨g1, 5, none⟩ = some (.int .u64 c.handle) ∧ W.cell? ⟨g1, 6, none⟩ = some (.int .i64 c.count) from fun W hW =>
    have h := HB.out.1.keep0 hW
    ⟨h.cell 1, h.cell 2, h.cell 3, h.cell 4, h.cell 5, h.cell 6⟩)
  have HT := Lib.hid (show ∀ W, Fr [] V W → Tab W from fun W hW => (HG.out.1.keep (HB.out.2.2.trans0 hW)).tab)
  have hfr0 := Fr.refl [] V
  have y1 : ¬ (9223372036854775807 < 5 + A.size) := by omega
  have y2 : ¬ (9223372036854775807 < 5 + A.size + 1) := by omega
  have y3 : ¬ (9223372036854775807 < 5 + A.size + 1 + C.size) := by omega
  go_region_held3 (fun W => W.cell? ⟨g1, 1, none⟩ = some (.int .i64 th) ∧ W.cell? ⟨g1, 2, none⟩ = some (.int .i64 c.kind) ∧ W.cell? ⟨g1, 3, none⟩ = some (.int .i64 c.deadline) ∧ W.cell? ⟨g1, 4, none⟩ = some (.int .u64 c.draw) ∧ W.cell? ⟨g1, 5, none⟩ = some (.int .u64 c.handle) ∧ W.cell? ⟨g1, 6, none⟩ = some (.int .i64 c.count))
    ((refine HS.out _ ?_; (with_reducible repeat' first | exact hfr0 | exact Fr.refl _ _ | (refine Fr.trans0 ?_ f7) | (refine Fr.trans0 ?_ f6) | (refine Fr.drew ?_))))
    (first
      | (go_at_call 23; with_reducible refine (HCT.out _ (HT.out _ (by with_reducible repeat' first | exact hfr0 | exact Fr.refl _ _ | (refine Fr.trans0 ?_ f7) | (refine Fr.drew ?_)))).mono ?_; rintro e w6 ⟨rfl, f6⟩)
      | (go_at_call 30; with_reducible refine (HCC.out _ (HT.out _ (by with_reducible repeat' first | exact hfr0 | exact Fr.refl _ _ | (refine Fr.trans0 ?_ f6) | (refine Fr.drew ?_)))).mono ?_; rintro e w7 ⟨rfl, f7⟩))
  have F7 : Fr [] V w7 := by with_reducible repeat' first | exact hfr0 | exact Fr.refl _ _ | (refine Fr.trans0 ?_ f7) | (refine Fr.trans0 ?_ f6) | (refine Fr.drew ?_)
  obtain ⟨T, hT⟩ : ∃ T, (⟨#[99, 97, 108, 108, 32]⟩ ++ A ++ ⟨#[32]⟩ ++ C : ByteArray) = T := ⟨_, rfl⟩
  have hq : (T.toList == []) = false := by
    rw [← hT]
    simpa using (Lib.bytes_beq_false_iff _ ⟨#[]⟩).2 hnem
  have zT : T.size ≤ 1000 := by
    rw [← hT]
    simp [ByteArray.size_append]
    have : (⟨#[99, 97, 108, 108, 32]⟩ : ByteArray).size = 5 := rfl
    have : (⟨#[32]⟩ : ByteArray).size = 1 := rfl
    omega
  rw [hT]
  have H7 := Lib.hid (And.intro F7 hT)
  obtain ⟨e1, e2, e3, e4, e5, e6⟩ := HS.out w7 F7
  clear F7 f6 f7 hfr0 y1 y2 y3 hT hnem L1 L3
  rename_i hHeld
  clear hHeld
  go_wp2_with fail
  refine (HCC.out _ (HT.out _ H7.out.1)).mono ?_
  rintro e w8 ⟨rfl, f8⟩
  have F8 := Lib.hid (H7.out.1.trans0 f8)
  clear f8 e1 e2 e3 e4 e5 e6
  go_wp2_with fail
  refine (HCP.out _ (HG.out.1.keep (HB.out.2.2.trans0 F8.out))).mono ?_
  rintro e w9 ⟨rfl, f9⟩
  have F9 := Lib.hid (F8.out.trans0 f9)
  clear f9
  cases o with
  | none =>
    have HN := Lib.hid (show lineV ⟨1, th, c, tk⟩ = none by rw [HG.out.2.1, if_neg (fun h => by have := HG.out.2.2.1.1 h.1; cases this)])
    have HA := Lib.hid (F9.out.alloc (.cells #[.int .i64 0, .int .i64 0, .int .u64 0, .int .u64 0, .int .i64 0] 24))
    simp only [Option.getD_none, Option.isSome_none, callAgg, noCall]
    go_wp2
    go_ret2
    exact ⟨lineR_no HN.out, HB.out.2.2.trans0 HA.out⟩
  | some c' =>
    have HA := Lib.hid (F9.out.alloc (.cells #[.int .i64 c'.kind, .int .i64 c'.deadline, .int .u64 c'.draw, .int .u64 c'.handle, .int .i64 c'.count] 24))
    have b1 := HB.out.1.keep0 HA.out
    have b5 := HB.out.2.1.keep0 HA.out
    have e1 := b1.cell 1
    have e2 := b1.cell 2
    have e3 := b1.cell 3
    have e4 := b1.cell 4
    have e5 := b1.cell 5
    have e6 := b1.cell 6
    have i2 := (HB.out.1.keep0 F9.out).cell 2
    simp only [Option.getD_some, Option.isSome_some, callAgg]
    by_cases hcc : c' = c
    · subst hcc
      have e0 := b1.cell 0
      have e7 := b1.cell 7
      obtain ⟨⟨d0, d1, d2, d3, d4, d5, d6, d7⟩, _⟩ := b5.ev
      dsimp only at d0 d1 d2 d3 d4 d5 d6 d7
      clear b1 b5 i2
      by_cases htk : tk = 0
      · subst htk
        by_cases hth : 0 ≤ th
        · have HY := Lib.hid (show lineV ⟨1, th, c', 0⟩ = some (wCall ++ 32 :: Lib.itoa th ++ 32 :: callT c' ++ [10]) by rw [HG.out.2.1, if_pos ⟨HG.out.2.2.1.2 rfl, rfl, hth⟩])
          go_wp2
          go_ret2
          exact ⟨lineR_yes HY.out (by rw [HG.out.2.2.2.1, H7.out.2]), HB.out.2.2.trans0 HA.out⟩
        · have HN := Lib.hid (show lineV ⟨1, th, c', 0⟩ = none by rw [HG.out.2.1, if_neg (fun h => hth h.2.2)])
          go_wp2
          go_ret2
          exact ⟨lineR_no HN.out, HB.out.2.2.trans0 HA.out⟩
      · have HN := Lib.hid (show lineV ⟨1, th, c', tk⟩ = none by rw [HG.out.2.1, if_neg (fun h => htk h.2.1)])
        have htk2 : ¬ (0 = tk) := fun h => htk h.symm
        go_wp2
        go_ret2
        exact ⟨lineR_no HN.out, HB.out.2.2.trans0 HA.out⟩
    · have HN := Lib.hid (show lineV ⟨1, th, c, tk⟩ = none by rw [HG.out.2.1, if_neg (fun h => by have := HG.out.2.2.1.1 h.1; injection this with this; exact hcc this)])
      clear b1 b5 i2
      have hx := ne5 hcc
      clear hcc
      obtain ⟨k', d', x', h', n'⟩ := c'
      dsimp only at hx HA e1 e2 e3 e4 e5 e6 ⊢
      rcases hx with h1 | ⟨rfl, h1⟩ | ⟨rfl, rfl, h1⟩ | ⟨rfl, rfl, rfl, h1⟩ | ⟨rfl, rfl, rfl, rfl, h1⟩
      all_goals
        go_wp2
        go_ret2
        exact ⟨lineR_no HN.out, HB.out.2.2.trans0 HA.out⟩
end Go.Proofs.YtkdmodanfcpcfaaDoor

/- DERIVED. Chapter 42: Line, of the program: step and tick. -/
namespace Go.Proofs.YtkdmodanfcpcfaaDoor
open Go.RowKit

set_option maxRecDepth 20000 in
set_option maxHeartbeats 4000000 in
theorem line_step (th tk : Int) (c : CallA) (he : EventA.ok ⟨2, th, c, tk⟩) (w : World) (hg : Glob w) :
    Calls Tryd.prog 20 #[eventAgg ⟨2, th, c, tk⟩] w fun x w' => LineR ⟨2, th, c, tk⟩ x ∧ Fr [] w w' := by
  unfold eventAgg
  have L1 : (Str (Lib.itoa th)).size ≤ 21 := itoa_len th he.thread.1 he.thread.2
  have CT := fun W hW => itoa_any th he.thread.1 he.thread.2 W hW
  simp only [Str.lit] at CT
  have hR : lineV ⟨2, th, c, tk⟩ = if c = noCall ∧ tk = 0 ∧ 0 ≤ th then some (wStep ++ 32 :: Lib.itoa th ++ [10]) else none := by unfold lineV; rfl
  have B0 := bf2 w #[.int .i64 2, .int .i64 th, .int .i64 c.kind, .int .i64 c.deadline, .int .u64 c.draw, .int .u64 c.handle, .int .i64 c.count, .int .i64 tk] #[.int .i64 2, .int .i64 0, .int .i64 0, .int .i64 0, .int .u64 0, .int .u64 0, .int .i64 0, .int .i64 0] 49 49
  have hcat : Str (wStep ++ 32 :: Lib.itoa th ++ [10]) = ⟨#[115, 116, 101, 112, 32]⟩ ++ Str (Lib.itoa th) ++ ⟨#[10]⟩ := by
    apply ByteArray.ext
    simp [Str, wStep, ByteArray.data_append]
  have hnem : (⟨#[115, 116, 101, 112, 32]⟩ ++ Str (Lib.itoa th) : ByteArray) ≠ ⟨#[]⟩ := by
    intro e
    have := congrArg (fun b => b.data.size) e
    simp [Str, ByteArray.data_append] at this
  obtain ⟨A, hA⟩ : ∃ A, Str (Lib.itoa th) = A := ⟨_, rfl⟩
  rw [hA] at CT L1 hcat hnem
  have HG := Lib.hid (And.intro hg (And.intro hR (And.intro hcat B0)))
  have HCT := Lib.hid CT
  clear hg hR CT he hA hcat B0
  go_enter Tryd.func20, Tryd.ntmps20
  go_upto_region 11 with (fail)
  obtain ⟨g1, h1⟩ : ∃ g, w.heap.size = g := ⟨_, rfl⟩
  obtain ⟨g5, h5⟩ : ∃ g, g1 + 1 = g := ⟨_, rfl⟩
  obtain ⟨U, hU⟩ : ∃ U, (w.alloc (.cells #[.int .i64 2, .int .i64 th, .int .i64 c.kind, .int .i64 c.deadline, .int .u64 c.draw, .int .u64 c.handle, .int .i64 c.count, .int .i64 tk] 49)).alloc (.cells #[.int .i64 2, .int .i64 0, .int .i64 0, .int .i64 0, .int .u64 0, .int .u64 0, .int .i64 0, .int .i64 0] 49) = U := ⟨_, rfl⟩
  have B1 := HG.out.2.2.2
  rw [hU, h1, h5] at B1
  rw [hU, h1, h5]
  have n15 : g1 ≠ g5 := by omega
  have n51 : g5 ≠ g1 := by omega
  have gw : w.heap.size ≤ g5 := by omega
  clear hU h1 h5
  obtain ⟨b1, b5, fU⟩ := B1
  have c1 := b1.cell 1
  have d1 := b5.cell 1
  have z1 := b5.fz 1
  have fV : Fr [g5] U (U.setCell ⟨g5, 1, none⟩ (.int .i64 th)) :=
    ((Fr.refl [g5] U).setCell (p := ⟨g5, 1, none⟩) (.inl (by simp)) _)
  have b5' : BF (U.setCell ⟨g5, 1, none⟩ (.int .i64 th)) g5 (⟨2, th, noCall, 0⟩ : EventA).cs :=
    b5.set 1 (by simp) (.int .i64 th)
  have b1' := b1.keep fV (by simp; exact n15)
  have HB := Lib.hid (And.intro b1' (And.intro b5' (fU.trans fV (fun x hx => .inr (by simp at hx; subst hx; exact gw)))))
  clear b1 b5 fU fV b5' b1'
  go_upto_region 12 with (fail)
  clear c1 d1 z1
  obtain ⟨V, hV⟩ : ∃ V, U.setCell ⟨g5, 1, none⟩ (.int .i64 th) = V := ⟨_, rfl⟩
  rw [hV] at HB
  rw [hV]
  clear hV
  have HS := Lib.hid (show ∀ W, Fr [] V W → W.cell? ⟨g1, 1, none⟩ = some (.int .i64 th) from fun W hW => (HB.out.1.keep0 hW).cell 1)
  have HT := Lib.hid (show ∀ W, Fr [] V W → Tab W from fun W hW => (HG.out.1.keep (HB.out.2.2.trans0 hW)).tab)
  have hfr0 := Fr.refl [] V
  have y1 : ¬ (9223372036854775807 < 5 + A.size) := by omega
  have y2 : ¬ (9223372036854775807 < 5 + A.size + 1) := by omega
  have c1 := HS.out V hfr0
  go_wp2_with fail
  refine (HCT.out _ (HT.out _ hfr0)).mono ?_
  rintro e w7 ⟨rfl, f6⟩
  have F7 : Fr [] V w7 := f6
  obtain ⟨T, hT⟩ : ∃ T, (⟨#[115, 116, 101, 112, 32]⟩ ++ A : ByteArray) = T := ⟨_, rfl⟩
  have hq : (T.toList == []) = false := by
    rw [← hT]
    simpa using (Lib.bytes_beq_false_iff _ ⟨#[]⟩).2 hnem
  have zT : T.size ≤ 1000 := by
    rw [← hT]
    simp [ByteArray.size_append]
    have : (⟨#[115, 116, 101, 112, 32]⟩ : ByteArray).size = 5 := rfl
    omega
  have HX := Lib.hid HG.out.2.2.1
  rw [hT] at HX
  have hq0 : ((⟨#[115, 116, 101, 112, 32]⟩ ++ A : ByteArray).toList == []) = false := by rw [hT]; exact hq
  go_upto_region 16 with (fail)
  clear hq0
  have b1 := HB.out.1.keep0 F7
  have b5 := HB.out.2.1.keep0 F7
  have H7 := Lib.hid (HB.out.2.2.trans0 F7)
  clear F7 f6 hfr0 y1 y2 hT hnem L1
  clear c1
  obtain ⟨⟨d0, d1, d2, d3, d4, d5, d6, d7⟩, _⟩ := b5.ev
  dsimp only [noCall] at d0 d1 d2 d3 d4 d5 d6 d7
  have e0 := b1.cell 0
  have e1 := b1.cell 1
  have e2 := b1.cell 2
  have e3 := b1.cell 3
  have e4 := b1.cell 4
  have e5 := b1.cell 5
  have e6 := b1.cell 6
  have e7 := b1.cell 7
  clear b1 b5
  by_cases hcc : noCall = c
  · subst hcc
    dsimp only [noCall] at e2 e3 e4 e5 e6
    by_cases htk : tk = 0
    · subst htk
      by_cases hth : 0 ≤ th
      · have HY := Lib.hid (show lineV ⟨2, th, noCall, 0⟩ = some (wStep ++ 32 :: Lib.itoa th ++ [10]) by rw [HG.out.2.1, if_pos ⟨rfl, rfl, hth⟩])
        go_wp2
        go_ret2
        exact ⟨lineR_yes HY.out HX.out, H7.out⟩
      · have HN := Lib.hid (show lineV ⟨2, th, noCall, 0⟩ = none by rw [HG.out.2.1, if_neg (fun h => hth h.2.2)])
        go_wp2
        go_ret2
        exact ⟨lineR_no HN.out, H7.out⟩
    · have HN := Lib.hid (show lineV ⟨2, th, noCall, tk⟩ = none by rw [HG.out.2.1, if_neg (fun h => htk h.2.1)])
      have htk2 : ¬ (0 = tk) := fun h => htk h.symm
      go_wp2
      go_ret2
      exact ⟨lineR_no HN.out, H7.out⟩
  · have HN := Lib.hid (show lineV ⟨2, th, c, tk⟩ = none by rw [HG.out.2.1, if_neg (fun h => hcc h.1.symm)])
    by_cases htk : tk = 0
    · subst htk
      have hx := ne5 hcc
      clear hcc
      obtain ⟨k', d', x', h', n'⟩ := c
      dsimp only [noCall] at hx e1 e2 e3 e4 e5 e6
      rcases hx with h1 | ⟨rfl, h1⟩ | ⟨rfl, rfl, h1⟩ | ⟨rfl, rfl, rfl, h1⟩ | ⟨rfl, rfl, rfl, rfl, h1⟩
      all_goals
        go_wp2
        go_ret2
        exact ⟨lineR_no HN.out, H7.out⟩
    · have htk2 : ¬ (0 = tk) := fun h => htk h.symm
      have hx := ne5 hcc
      clear hcc
      obtain ⟨k', d', x', h', n'⟩ := c
      dsimp only [noCall] at hx e1 e2 e3 e4 e5 e6
      rcases hx with h1 | ⟨rfl, h1⟩ | ⟨rfl, rfl, h1⟩ | ⟨rfl, rfl, rfl, h1⟩ | ⟨rfl, rfl, rfl, rfl, h1⟩
      all_goals
        go_wp2
        go_ret2
        exact ⟨lineR_no HN.out, H7.out⟩

set_option maxRecDepth 20000 in
set_option maxHeartbeats 4000000 in
theorem line_tick (th tk : Int) (c : CallA) (he : EventA.ok ⟨3, th, c, tk⟩) (w : World) (hg : Glob w) :
    Calls Tryd.prog 20 #[eventAgg ⟨3, th, c, tk⟩] w fun x w' => LineR ⟨3, th, c, tk⟩ x ∧ Fr [] w w' := by
  unfold eventAgg
  have L1 : (Str (Lib.itoa tk)).size ≤ 21 := itoa_len tk he.ticks.1 he.ticks.2
  have CT := fun W hW => itoa_any tk he.ticks.1 he.ticks.2 W hW
  simp only [Str.lit] at CT
  have hR : lineV ⟨3, th, c, tk⟩ = if c = noCall ∧ th = 0 ∧ 0 ≤ tk then some (wTick ++ 32 :: Lib.itoa tk ++ [10]) else none := by unfold lineV; rfl
  have B0 := bf2 w #[.int .i64 3, .int .i64 th, .int .i64 c.kind, .int .i64 c.deadline, .int .u64 c.draw, .int .u64 c.handle, .int .i64 c.count, .int .i64 tk] #[.int .i64 3, .int .i64 0, .int .i64 0, .int .i64 0, .int .u64 0, .int .u64 0, .int .i64 0, .int .i64 0] 49 49
  have hcat : Str (wTick ++ 32 :: Lib.itoa tk ++ [10]) = ⟨#[116, 105, 99, 107, 32]⟩ ++ Str (Lib.itoa tk) ++ ⟨#[10]⟩ := by
    apply ByteArray.ext
    simp [Str, wTick, ByteArray.data_append]
  have hnem : (⟨#[116, 105, 99, 107, 32]⟩ ++ Str (Lib.itoa tk) : ByteArray) ≠ ⟨#[]⟩ := by
    intro e
    have := congrArg (fun b => b.data.size) e
    simp [Str, ByteArray.data_append] at this
  obtain ⟨A, hA⟩ : ∃ A, Str (Lib.itoa tk) = A := ⟨_, rfl⟩
  rw [hA] at CT L1 hcat hnem
  have HG := Lib.hid (And.intro hg (And.intro hR (And.intro hcat B0)))
  have HCT := Lib.hid CT
  clear hg hR CT he hA hcat B0
  go_enter Tryd.func20, Tryd.ntmps20
  go_upto_region 14 with (fail)
  obtain ⟨g1, h1⟩ : ∃ g, w.heap.size = g := ⟨_, rfl⟩
  obtain ⟨g5, h5⟩ : ∃ g, g1 + 1 = g := ⟨_, rfl⟩
  obtain ⟨U, hU⟩ : ∃ U, (w.alloc (.cells #[.int .i64 3, .int .i64 th, .int .i64 c.kind, .int .i64 c.deadline, .int .u64 c.draw, .int .u64 c.handle, .int .i64 c.count, .int .i64 tk] 49)).alloc (.cells #[.int .i64 3, .int .i64 0, .int .i64 0, .int .i64 0, .int .u64 0, .int .u64 0, .int .i64 0, .int .i64 0] 49) = U := ⟨_, rfl⟩
  have B1 := HG.out.2.2.2
  rw [hU, h1, h5] at B1
  rw [hU, h1, h5]
  have n15 : g1 ≠ g5 := by omega
  have n51 : g5 ≠ g1 := by omega
  have gw : w.heap.size ≤ g5 := by omega
  clear hU h1 h5
  obtain ⟨b1, b5, fU⟩ := B1
  have c1 := b1.cell 7
  have d1 := b5.cell 7
  have z1 := b5.fz 7
  have fV : Fr [g5] U (U.setCell ⟨g5, 7, none⟩ (.int .i64 tk)) :=
    ((Fr.refl [g5] U).setCell (p := ⟨g5, 7, none⟩) (.inl (by simp)) _)
  have b5' : BF (U.setCell ⟨g5, 7, none⟩ (.int .i64 tk)) g5 (⟨3, 0, noCall, tk⟩ : EventA).cs :=
    b5.set 7 (by simp) (.int .i64 tk)
  have b1' := b1.keep fV (by simp; exact n15)
  have HB := Lib.hid (And.intro b1' (And.intro b5' (fU.trans fV (fun x hx => .inr (by simp at hx; subst hx; exact gw)))))
  clear b1 b5 fU fV b5' b1'
  go_upto_region 15 with (fail)
  clear c1 d1 z1
  obtain ⟨V, hV⟩ : ∃ V, U.setCell ⟨g5, 7, none⟩ (.int .i64 tk) = V := ⟨_, rfl⟩
  rw [hV] at HB
  rw [hV]
  clear hV
  have HS := Lib.hid (show ∀ W, Fr [] V W → W.cell? ⟨g1, 7, none⟩ = some (.int .i64 tk) from fun W hW => (HB.out.1.keep0 hW).cell 7)
  have HT := Lib.hid (show ∀ W, Fr [] V W → Tab W from fun W hW => (HG.out.1.keep (HB.out.2.2.trans0 hW)).tab)
  have hfr0 := Fr.refl [] V
  have y1 : ¬ (9223372036854775807 < 5 + A.size) := by omega
  have y2 : ¬ (9223372036854775807 < 5 + A.size + 1) := by omega
  have c1 := HS.out V hfr0
  go_wp2_with fail
  refine (HCT.out _ (HT.out _ hfr0)).mono ?_
  rintro e w7 ⟨rfl, f6⟩
  have F7 : Fr [] V w7 := f6
  obtain ⟨T, hT⟩ : ∃ T, (⟨#[116, 105, 99, 107, 32]⟩ ++ A : ByteArray) = T := ⟨_, rfl⟩
  have hq : (T.toList == []) = false := by
    rw [← hT]
    simpa using (Lib.bytes_beq_false_iff _ ⟨#[]⟩).2 hnem
  have zT : T.size ≤ 1000 := by
    rw [← hT]
    simp [ByteArray.size_append]
    have : (⟨#[116, 105, 99, 107, 32]⟩ : ByteArray).size = 5 := rfl
    omega
  have HX := Lib.hid HG.out.2.2.1
  rw [hT] at HX
  have hq0 : ((⟨#[116, 105, 99, 107, 32]⟩ ++ A : ByteArray).toList == []) = false := by rw [hT]; exact hq
  go_upto_region 16 with (fail)
  clear hq0
  have b1 := HB.out.1.keep0 F7
  have b5 := HB.out.2.1.keep0 F7
  have H7 := Lib.hid (HB.out.2.2.trans0 F7)
  clear F7 f6 hfr0 y1 y2 hT hnem L1
  clear c1
  obtain ⟨⟨d0, d1, d2, d3, d4, d5, d6, d7⟩, _⟩ := b5.ev
  dsimp only [noCall] at d0 d1 d2 d3 d4 d5 d6 d7
  have e0 := b1.cell 0
  have e1 := b1.cell 1
  have e2 := b1.cell 2
  have e3 := b1.cell 3
  have e4 := b1.cell 4
  have e5 := b1.cell 5
  have e6 := b1.cell 6
  have e7 := b1.cell 7
  clear b1 b5
  by_cases hcc : noCall = c
  · subst hcc
    dsimp only [noCall] at e2 e3 e4 e5 e6
    by_cases htk : th = 0
    · subst htk
      by_cases hth : 0 ≤ tk
      · have HY := Lib.hid (show lineV ⟨3, 0, noCall, tk⟩ = some (wTick ++ 32 :: Lib.itoa tk ++ [10]) by rw [HG.out.2.1, if_pos ⟨rfl, rfl, hth⟩])
        go_wp2
        go_ret2
        exact ⟨lineR_yes HY.out HX.out, H7.out⟩
      · have HN := Lib.hid (show lineV ⟨3, 0, noCall, tk⟩ = none by rw [HG.out.2.1, if_neg (fun h => hth h.2.2)])
        go_wp2
        go_ret2
        exact ⟨lineR_no HN.out, H7.out⟩
    · have HN := Lib.hid (show lineV ⟨3, th, noCall, tk⟩ = none by rw [HG.out.2.1, if_neg (fun h => htk h.2.1)])
      have htk2 : ¬ (0 = th) := fun h => htk h.symm
      go_wp2
      go_ret2
      exact ⟨lineR_no HN.out, H7.out⟩
  · have HN := Lib.hid (show lineV ⟨3, th, c, tk⟩ = none by rw [HG.out.2.1, if_neg (fun h => hcc h.1.symm)])
    by_cases htk : th = 0
    · subst htk
      have hx := ne5 hcc
      clear hcc
      obtain ⟨k', d', x', h', n'⟩ := c
      dsimp only [noCall] at hx e1 e2 e3 e4 e5 e6
      rcases hx with h1 | ⟨rfl, h1⟩ | ⟨rfl, rfl, h1⟩ | ⟨rfl, rfl, rfl, h1⟩ | ⟨rfl, rfl, rfl, rfl, h1⟩
      all_goals
        go_wp2
        go_ret2
        exact ⟨lineR_no HN.out, H7.out⟩
    · have htk2 : ¬ (0 = th) := fun h => htk h.symm
      have hx := ne5 hcc
      clear hcc
      obtain ⟨k', d', x', h', n'⟩ := c
      dsimp only [noCall] at hx e1 e2 e3 e4 e5 e6
      rcases hx with h1 | ⟨rfl, h1⟩ | ⟨rfl, rfl, h1⟩ | ⟨rfl, rfl, rfl, h1⟩ | ⟨rfl, rfl, rfl, rfl, h1⟩
      all_goals
        go_wp2
        go_ret2
        exact ⟨lineR_no HN.out, H7.out⟩

end Go.Proofs.YtkdmodanfcpcfaaDoor

/- DERIVED. Chapter 42: Line, of the program: any event. -/
namespace Go.Proofs.YtkdmodanfcpcfaaDoor
open Go.RowKit

set_option maxRecDepth 20000 in
theorem line_else (k th tk : Int) (c : CallA) (h1 : k ≠ 1) (h2 : k ≠ 2) (h3 : k ≠ 3) (w : World) :
    Calls Tryd.prog 20 #[eventAgg ⟨k, th, c, tk⟩] w fun x w' => LineR ⟨k, th, c, tk⟩ x ∧ Fr [] w w' := by
  unfold eventAgg
  have hR : lineV ⟨k, th, c, tk⟩ = none := by unfold lineV; simp only; rw [if_neg h1, if_neg h2, if_neg h3]
  have B0 := bf2 w #[.int .i64 k, .int .i64 th, .int .i64 c.kind, .int .i64 c.deadline, .int .u64 c.draw, .int .u64 c.handle, .int .i64 c.count, .int .i64 tk] #[.int .i64 k, .int .i64 0, .int .i64 0, .int .i64 0, .int .u64 0, .int .u64 0, .int .i64 0, .int .i64 0] 49 49
  have HG := Lib.hid (And.intro hR B0)
  clear hR B0
  go_enter Tryd.func20, Tryd.ntmps20
  go_upto_region 16 with (fail)
  obtain ⟨g1, hg1⟩ : ∃ g, w.heap.size = g := ⟨_, rfl⟩
  obtain ⟨g5, hg5⟩ : ∃ g, g1 + 1 = g := ⟨_, rfl⟩
  obtain ⟨U, hU⟩ : ∃ U, (w.alloc (.cells #[.int .i64 k, .int .i64 th, .int .i64 c.kind, .int .i64 c.deadline, .int .u64 c.draw, .int .u64 c.handle, .int .i64 c.count, .int .i64 tk] 49)).alloc (.cells #[.int .i64 k, .int .i64 0, .int .i64 0, .int .i64 0, .int .u64 0, .int .u64 0, .int .i64 0, .int .i64 0] 49) = U := ⟨_, rfl⟩
  have B1 := HG.out.2
  rw [hU, hg1, hg5] at B1
  rw [hU, hg1, hg5]
  have H7 := Lib.hid B1.2.2
  have b1 := B1.1
  have b5 := B1.2.1
  clear B1 hU hg1 hg5
  have d0 := b5.cell 0
  have d1 := b5.cell 1
  have d2 := b5.cell 2
  have d3 := b5.cell 3
  have d4 := b5.cell 4
  have d5 := b5.cell 5
  have d6 := b5.cell 6
  have d7 := b5.cell 7
  have e0 := b1.cell 0
  have e1 := b1.cell 1
  have e2 := b1.cell 2
  have e3 := b1.cell 3
  have e4 := b1.cell 4
  have e5 := b1.cell 5
  have e6 := b1.cell 6
  have e7 := b1.cell 7
  clear b1 b5
  go_wp2
  go_ret2
  exact ⟨lineR_no HG.out.1, H7.out⟩
theorem line_any (e : EventA) (he : e.ok) (w : World) (hg : Glob w) :
    Calls Tryd.prog 20 #[eventAgg e] w fun x w' => LineR e x ∧ Fr [] w w' := by
  obtain ⟨k, th, c, tk⟩ := e
  by_cases h1 : k = 1
  · subst h1; exact line_call th tk c he w hg
  by_cases h2 : k = 2
  · subst h2; exact line_step th tk c he w hg
  by_cases h3 : k = 3
  · subst h3; exact line_tick th tk c he w hg
  exact line_else k th tk c h1 h2 h3 w
end Go.Proofs.YtkdmodanfcpcfaaDoor
