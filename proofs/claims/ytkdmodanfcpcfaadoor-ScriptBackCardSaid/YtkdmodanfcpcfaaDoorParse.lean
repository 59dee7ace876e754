/- DERIVED. Chapter 42: Parse, of the program: a range over a function. -/
import Derived.Test.YtkdmodanfcpcfaaDoorParseB
import Derived.BigRegionIn
namespace Go.Proofs.YtkdmodanfcpcfaaDoor
open Go.RowKit Go.Shelf
attribute [local go_sem] Oper.semAt_some

def zero4 : Array Value := #[.int .i64 0, .int .i64 0, .int .i64 0, .int .u64 0]
theorem bf_alloc9 (w : World) (S : ByteArray) : ∃ W, (((((((((w.alloc (.cells #[.int .i64 0, .int .i64 0, .int .i64 0, .int .u64 0] 38)).alloc (.cells #[.slice none 0 0] 39)).alloc (.cells #[.int .i64 0] 3)).alloc (.cells #[.int .i64 0] 25)).alloc (.cells #[.int .i64 0, .int .i64 0, .int .i64 0, .int .u64 0] 38)).alloc (.cells #[.slice none 0 0] 39)).alloc (.cells #[.int .i64 0] 3)).alloc (.cells #[.int .i64 0] 25)).alloc (.cells #[.string S] 9)) = W ∧ Fr [] w W ∧ W.heap.size = w.heap.size + 9 ∧
    PB W w.heap.size noPlan ∧ BF W (w.heap.size + 1) [.slice none 0 0] ∧ BF W (w.heap.size + 1 + 1) [.int .i64 0] ∧ BF W (w.heap.size + 1 + 1 + 1) [.int .i64 0] ∧
    PB W (w.heap.size + 1 + 1 + 1 + 1) noPlan ∧ BF W (w.heap.size + 1 + 1 + 1 + 1 + 1) [.slice none 0 0] ∧ BF W (w.heap.size + 1 + 1 + 1 + 1 + 1 + 1) [.int .i64 0] ∧ BF W (w.heap.size + 1 + 1 + 1 + 1 + 1 + 1 + 1) [.int .i64 0] ∧ BF W (w.heap.size + 1 + 1 + 1 + 1 + 1 + 1 + 1 + 1) [.string S] := by
  refine ⟨_, rfl, ((((((((((Fr.refl _ _).alloc _).alloc _).alloc _).alloc _).alloc _).alloc _).alloc _).alloc _).alloc _), by simp, ?_, ?_, ?_, ?_, ?_, ?_, ?_, ?_, ?_⟩
  · exact BF.pb (bf_alloc _ (bf_alloc _ (bf_alloc _ (bf_alloc _ (bf_alloc _ (bf_alloc _ (bf_alloc _ (bf_alloc _ (bf_new _ _ rfl)))))))))
  · exact bf_alloc _ (bf_alloc _ (bf_alloc _ (bf_alloc _ (bf_alloc _ (bf_alloc _ (bf_alloc _ (bf_new #[.slice none 0 0] _ (by simp))))))))
  · exact bf_alloc _ (bf_alloc _ (bf_alloc _ (bf_alloc _ (bf_alloc _ (bf_alloc _ (bf_new #[.int .i64 0] _ (by simp)))))))
  · exact bf_alloc _ (bf_alloc _ (bf_alloc _ (bf_alloc _ (bf_alloc _ (bf_new #[.int .i64 0] _ (by simp))))))
  · exact BF.pb (bf_alloc _ (bf_alloc _ (bf_alloc _ (bf_alloc _ (bf_new #[.int .i64 0, .int .i64 0, .int .i64 0, .int .u64 0] _ (by simp))))))
  · exact bf_alloc _ (bf_alloc _ (bf_alloc _ (bf_new #[.slice none 0 0] _ (by simp))))
  · exact bf_alloc _ (bf_alloc _ (bf_new #[.int .i64 0] _ (by simp)))
  · exact bf_alloc _ (bf_new #[.int .i64 0] _ (by simp))
  · exact bf_new #[.string S] _ (by simp)

set_option maxRecDepth 100000 in
set_option maxHeartbeats 4000000 in
theorem parse_ok (s : List UInt8) (hs : s.length ≤ 262144) (w : World) (hg : Glob w) :
    Calls Tryd.prog 15 #[.string (Str s)] w fun e w' => ScriptE s e w' ∧ Fr [] w w' := by
  refine (callsIn_wide (n := 9)).1 ?_
  refine callsIn_of_wp_marks Tryd.func15 rfl trivial ?_ rfl
  simp only [Tryd.ntmps15, List.size_toArray, List.length_cons, List.length_nil, Nat.reduceAdd, Nat.reduceSub, Array.replicate_succ, Array.replicate_zero, List.push_toArray, List.append_toArray, List.nil_append, List.cons_append]
  have lS := strLen s
  have hR : scriptV s = scriptGo s none [] 0 := by unfold scriptV; rw [if_neg (by omega)]
  obtain ⟨R, hR2⟩ : ∃ R, scriptGo s none [] 0 = R := ⟨_, rfl⟩
  rw [hR2] at hR
  obtain ⟨S, hS⟩ : ∃ S, Str s = S := ⟨_, rfl⟩
  rw [hS] at lS ⊢
  have hl : ¬ ((262144 : Int) < s.length) := by omega
  have HS := Lib.hid (And.intro hS (And.intro hR hR2))
  clear hS hR hR2
  gi_wp2_with (refine ⟨trivial, ?_⟩; gi_at_call 33; refine (callsIn_wide.2 (lines_any _ _)).mono ?_; rintro e w' ⟨rfl, rfl⟩)
  obtain ⟨W, hW, hfr, hsz, b2, b3, b4, b5, b6, b7, b8, b9, bB⟩ := bf_alloc9 w S
  rw [hW]
  clear hW
  obtain ⟨g2, h2⟩ : ∃ g, w.heap.size = g := ⟨_, rfl⟩
  have hn2 := h2
  rw [h2] at b2 b3 b4 b5 b6 b7 b8 b9 bB hsz ⊢
  obtain ⟨g3, h3⟩ : ∃ g, g2 + 1 = g := ⟨_, rfl⟩
  rw [h3] at b3 b4 b5 b6 b7 b8 b9 bB ⊢
  obtain ⟨g4, h4⟩ : ∃ g, g3 + 1 = g := ⟨_, rfl⟩
  rw [h4] at b4 b5 b6 b7 b8 b9 bB ⊢
  obtain ⟨g5, h5⟩ : ∃ g, g4 + 1 = g := ⟨_, rfl⟩
  rw [h5] at b5 b6 b7 b8 b9 bB ⊢
  obtain ⟨g6, h6⟩ : ∃ g, g5 + 1 = g := ⟨_, rfl⟩
  rw [h6] at b6 b7 b8 b9 bB ⊢
  obtain ⟨g7, h7⟩ : ∃ g, g6 + 1 = g := ⟨_, rfl⟩
  rw [h7] at b7 b8 b9 bB ⊢
  obtain ⟨g8, h8⟩ : ∃ g, g7 + 1 = g := ⟨_, rfl⟩
  rw [h8] at b8 b9 bB ⊢
  obtain ⟨g9, h9⟩ : ∃ g, g8 + 1 = g := ⟨_, rfl⟩
  rw [h9] at b9 bB ⊢
  obtain ⟨B, hB⟩ : ∃ g, g9 + 1 = g := ⟨_, rfl⟩
  rw [hB] at bB ⊢
  obtain ⟨k, hk, e2, e3, e4, e5, e6, e7, e8, e9, eB⟩ : ∃ k : Blk, k.n = g2 ∧ k.g2 = g2 ∧ k.g3 = g3 ∧ k.g4 = g4 ∧ k.g5 = g5 ∧ k.g6 = g6 ∧ k.g7 = g7 ∧ k.g8 = g8 ∧ k.g9 = g9 ∧ k.B = B :=
    ⟨⟨g2, g2, g3, g4, g5, g6, g7, g8, g9, B, by omega, by omega, by omega, by omega, by omega, by omega, by omega, by omega, by omega⟩, rfl, rfl, rfl, rfl, rfl, rfl, rfl, rfl, rfl, rfl⟩
  have hBW : B < W.heap.size := by omega
  have hwW : w.heap.size ≤ W.heap.size := by omega
  have hkn : k.n = w.heap.size := by rw [hk, hn2]
  clear h2 h3 h4 h5 h6 h7 h8 h9 hB hsz hk hn2
  subst e2 e3 e4 e5 e6 e7 e8 e9 eB
  refine wpIn_rangeFunc_st (B := k.B) (hro := rfl) (h1 := by omega) (gf := 58) (lb := #[.pointer (some ⟨k.B, 0, none⟩)]) rfl trivial (enters_of Tryd.func58 (by kernel_rfl) rfl) hBW
    (lines1_in 8 (by omega) k.B s (by omega) W (by rw [HS.out.1]; exact bB.cell 0) (bB.fz 0)) (fun _ => rfl)
    (PIx k s R w) (PXx k R w) (pi_abd k s R w _ hwW hkn) (px_abd k R w _ hwW hkn) (fun t X ⟨_, _, _, _, h⟩ => hg.keep h.fr)
    ⟨none, [], 0, _, HS.out.2.2, by omega, by simp, by simp, b6, b7, Own.nil _ _ _, New.nil _, b8, b9, ⟨b2, b3, b4, b5⟩, hfr, hBW⟩
    (fun t => { tmps := #[Value.string S, undef, Value.pointer (some ⟨k.g2, 0, none⟩), Value.pointer (some ⟨k.g3, 0, none⟩), Value.pointer (some ⟨k.g4, 0, none⟩), Value.pointer (some ⟨k.g5, 0, none⟩), Value.pointer (some ⟨k.g6, 0, none⟩), Value.pointer (some ⟨k.g7, 0, none⟩), Value.pointer (some ⟨k.g8, 0, none⟩), Value.pointer (some ⟨k.g9, 0, none⟩), Value.string (Str (cutV 10 t).1), Value.bool (cutV 10 t).2.2, undef, undef, undef, Value.string S, Value.int IntKind.i64 s.length, Value.bool false, undef, Value.string S, Value.func (Fn.func 58) #[] #[Value.pointer (some ⟨k.B, 0, none⟩)], Value.string (Str (cutV 10 t).1), Value.bool (cutV 10 t).2.2, undef, undef, undef, undef, undef, undef, undef, undef, undef, undef, undef, undef, undef, undef, undef, undef, undef, undef, undef, undef, undef, undef, undef, undef, undef, undef, undef, undef, undef, undef, undef, undef, undef, undef, undef, undef, undef, undef, undef, undef, undef, undef, undef, undef, undef, undef, undef, undef], defers := [] }) ?assign ?body ?done ?stop
  case assign =>
    intro l t W K hK
    unfold encL
    gi_wp2
    exact hK
  case body =>
    clear b2 b3 b4 b5 b6 b7 b8 b9 bB hfr hBW hwW HS lS hl
    rintro l t W ⟨o, es, j, v, h⟩ hlive
    have HK := Lib.hid h
    have hj : (j : Int) ≤ 262144 := by have := h.len; omega
    have k8 := h.c8.cell 0
    have z8 := h.c8.fz 0
    have HJ := Lib.hid (h.count hkn)
    have hg5 : k.g5 < W.heap.size := h.res.r5.lt
    have hwW := h.fr.size
    have hBs : k.B < W.heap.size := h.bl
    have := k.h2; have := k.h3; have := k.h4; have := k.h5; have := k.h6; have := k.h7; have := k.h8; have := k.h9; have := k.hB
    have n26 : k.g2 ≠ k.g6 := by omega
    have n27 : k.g2 ≠ k.g7 := by omega
    have n28 : k.g2 ≠ k.g8 := by omega
    have n29 : k.g2 ≠ k.g9 := by omega
    have n36 : k.g3 ≠ k.g6 := by omega
    have n37 : k.g3 ≠ k.g7 := by omega
    have n38 : k.g3 ≠ k.g8 := by omega
    have n39 : k.g3 ≠ k.g9 := by omega
    have n46 : k.g4 ≠ k.g6 := by omega
    have n47 : k.g4 ≠ k.g7 := by omega
    have n48 : k.g4 ≠ k.g8 := by omega
    have n49 : k.g4 ≠ k.g9 := by omega
    have n56 : k.g5 ≠ k.g6 := by omega
    have n57 : k.g5 ≠ k.g7 := by omega
    have n58 : k.g5 ≠ k.g8 := by omega
    have n59 : k.g5 ≠ k.g9 := by omega
    have n62 : k.g6 ≠ k.g2 := by omega
    have n63 : k.g6 ≠ k.g3 := by omega
    have n64 : k.g6 ≠ k.g4 := by omega
    have n65 : k.g6 ≠ k.g5 := by omega
    have n67 : k.g6 ≠ k.g7 := by omega
    have n68 : k.g6 ≠ k.g8 := by omega
    have n69 : k.g6 ≠ k.g9 := by omega
    have n72 : k.g7 ≠ k.g2 := by omega
    have n73 : k.g7 ≠ k.g3 := by omega
    have n74 : k.g7 ≠ k.g4 := by omega
    have n75 : k.g7 ≠ k.g5 := by omega
    have n76 : k.g7 ≠ k.g6 := by omega
    have n78 : k.g7 ≠ k.g8 := by omega
    have n79 : k.g7 ≠ k.g9 := by omega
    have n82 : k.g8 ≠ k.g2 := by omega
    have n83 : k.g8 ≠ k.g3 := by omega
    have n84 : k.g8 ≠ k.g4 := by omega
    have n85 : k.g8 ≠ k.g5 := by omega
    have n86 : k.g8 ≠ k.g6 := by omega
    have n87 : k.g8 ≠ k.g7 := by omega
    have n89 : k.g8 ≠ k.g9 := by omega
    have n92 : k.g9 ≠ k.g2 := by omega
    have n93 : k.g9 ≠ k.g3 := by omega
    have n94 : k.g9 ≠ k.g4 := by omega
    have n95 : k.g9 ≠ k.g5 := by omega
    have n96 : k.g9 ≠ k.g6 := by omega
    have n97 : k.g9 ≠ k.g7 := by omega
    have n98 : k.g9 ≠ k.g8 := by omega
    obtain ⟨x, hx⟩ : ∃ x, (cutV 10 t).1 = x := ⟨_, rfl⟩
    obtain ⟨y, hy⟩ : ∃ x, (cutV 10 t).2.2 = x := ⟨_, rfl⟩
    rw [hx, hy]
    obtain ⟨X, hX⟩ : ∃ X, Str x = X := ⟨_, rfl⟩
    rw [hX]
    have HX := Lib.hid (And.intro hx (And.intro hy hX))
    cases y with
    | false =>
      have hbad : R = .bad (j + 1) 9 := by rw [← h.go, go_open o es j hlive hy]
      have HB := Lib.hid hbad
      clear h hx hy hX hbad
      obtain ⟨⟨a8, y8⟩, ⟨a9, y9⟩, ⟨a7, y7⟩, ⟨a60, a61, a62, a63⟩, ⟨y60, y61, y62, y63⟩⟩ := HJ.out.facts
      obtain ⟨⟨q20, q21, q22, q23⟩, ⟨y20, y21, y22, y23⟩, ⟨q3, y3⟩, ⟨q4, y4⟩, ⟨q5, y5⟩⟩ := HJ.out.res.facts
      have mo : Tryd.prog.follows .mixedOrders = true := by kernel_rfl
      gi_wp2_with (gi_region_with_o (fail))
      all_goals exact end_ret' HK.out (HJ.out.pk.step hkn HJ.out.new ((Fr.refl [k.g9] _).setCell (p := ⟨k.g9, 0, none⟩) (.inl (by simp)) _) (fun x hx => .inl (by simp at hx; subst hx; simp [Sv])) hg5 hwW) hkn HB.out rfl
    | true =>
      have mo : Tryd.prog.follows .mixedOrders = true := by kernel_rfl
      cases x with
      | nil =>
        obtain rfl : X = ⟨#[]⟩ := hX.symm
        have hgo : scriptGo (nextL t) o es (j + 1) = R := by rw [← h.go, go_pass o es j hlive hy (.inl hx)]
        have HG := Lib.hid hgo
        clear h hx hy hX hgo
        obtain ⟨⟨a8, y8⟩, ⟨a9, y9⟩, ⟨a7, y7⟩, ⟨a60, a61, a62, a63⟩, ⟨y60, y61, y62, y63⟩⟩ := HJ.out.facts
        gi_wp2
        exact end_pass HK.out hkn hlive HG.out _ HJ.out
      | cons c r =>
        have ix := strIdx0 (s := c :: r) (c := c) rfl
        have hne : ¬ (c :: r = []) := by simp
        have hq : (X.toList == []) = false := by
          have := (Lib.bytes_beq_false_iff X ⟨#[]⟩).2 (fun e => by rw [← hX] at e; have := congrArg (fun b => b.data.toList) e; simp [Str] at this)
          simpa using this
        rw [hX] at ix
        by_cases h35 : c = 35
        · subst h35
          have hgo : scriptGo (nextL t) o es (j + 1) = R := by rw [← h.go, go_pass o es j hlive hy (.inr (by rw [hx]; rfl))]
          have HG := Lib.hid hgo
          clear h hx hy hX hgo
          obtain ⟨⟨a8, y8⟩, ⟨a9, y9⟩, ⟨a7, y7⟩, ⟨a60, a61, a62, a63⟩, ⟨y60, y61, y62, y63⟩⟩ := HJ.out.facts
          gi_wp2
          exact end_pass HK.out hkn hlive HG.out _ HJ.out
        · have h35i : ((c.toNat : Int) == 35) = false := by
            simp
            intro e
            exact h35 (UInt8.toNat_inj.1 (by have : (35 : UInt8).toNat = 35 := rfl; omega))
          have hnp : ¬ ((cutV 10 t).1 = [] ∨ (cutV 10 t).1[0]? = some 35) := by
            rw [hx]
            simp [h35]
          have hlx : (c :: r).length ≤ 1000000 := by
            have := (cutV_len 10 t).1
            rw [hx] at this
            have := h.len
            omega
          cases o with
          | none =>
            have hgo := go_plan es j hlive hy hnp
            rw [h.go, hx] at hgo
            have C := planOf_any (c :: r) hlx _ (hg.keep HJ.out.fr)
            unfold PlanR planAgg at C
            have hrt := fun p => @planV_right (c :: r) p
            generalize planV (c :: r) = o at C hgo hrt
            rw [hX] at C
            have HC := Lib.hid C
            have HG := Lib.hid (And.intro hgo hrt)
            clear h hx hy hX hgo hnp hlx C hrt
            obtain ⟨⟨a8, y8⟩, ⟨a9, y9⟩, ⟨a7, y7⟩, ⟨a60, a61, a62, a63⟩, ⟨y60, y61, y62, y63⟩⟩ := HJ.out.facts
            simp only [Option.getD_none, noPlan] at a60 a61 a62 a63
            cases o with
            | none =>
              gi_wp2_with (first | (refine ⟨trivial, ?_⟩; gi_at_call 34; refine (CallsIn.inRound l (callsIn_wide.2 HC.out)).mono ?_; rintro e w2 ⟨⟨p, rfl, hp⟩, f2⟩; obtain ⟨⟨a8, y8⟩, ⟨a9, y9⟩, ⟨a7, y7⟩, ⟨a60, a61, a62, a63⟩, ⟨y60, y61, y62, y63⟩⟩ := (HJ.out.keep0 f2).facts; obtain ⟨⟨q20, q21, q22, q23⟩, ⟨y20, y21, y22, y23⟩, ⟨q3, y3⟩, ⟨q4, y4⟩, ⟨q5, y5⟩⟩ := (HJ.out.keep0 f2).res.facts) | (gi_region_with_o (fail)))
              all_goals exact end_ret' HK.out (((HJ.out.pk.step hkn HJ.out.new f2 (by simp) hg5 hwW).step hkn HJ.out.new ((Fr.refl [k.g6] _).setP (g := k.g6) (.inl (by simp)) _ _ _ _) (fun x hx => .inl (by simp at hx; subst hx; simp [Sv])) hg5 hwW).step hkn HJ.out.new ((Fr.refl [k.g9] _).setCell (p := ⟨k.g9, 0, none⟩) (.inl (by simp)) _) (fun x hx => .inl (by simp at hx; subst hx; simp [Sv])) hg5 hwW) hkn HG.out.1 rfl
            | some q =>
              gi_wp2_with (refine ⟨trivial, ?_⟩; gi_at_call 34; refine (CallsIn.inRound l (callsIn_wide.2 HC.out)).mono ?_; rintro e w2 ⟨⟨p, rfl, hp⟩, f2⟩; obtain rfl := hp q rfl; obtain ⟨⟨a8, y8⟩, ⟨a9, y9⟩, ⟨a7, y7⟩, ⟨a60, a61, a62, a63⟩, ⟨y60, y61, y62, y63⟩⟩ := (HJ.out.keep0 f2).facts)
              exact end_plan HK.out hkn hlive p (HG.out.2 p rfl) HG.out.1.symm (HJ.out.keep0 f2)
          | some p =>
            have hgo := go_event p es j hlive hy hnp
            rw [h.go, hx] at hgo
            have C := eventOf_any (c :: r) hlx _ (hg.keep HJ.out.fr)
            unfold EventR eventAgg at C
            have hpr := right_pos (h.right p rfl)
            have hp0 : ¬ (p.threads = 0) := by omega
            have hp1 : (p.threads == 0) = false := by simp; omega
            have hll := h.ll
            have hlen : es.length < 4294967295 := by omega
            generalize eventV (c :: r) = o at C hgo
            rw [hX] at C
            have HC := Lib.hid C
            have HG := Lib.hid hgo
            clear h hx hy hX hgo hnp hlx C hll
            obtain ⟨⟨a8, y8⟩, ⟨a9, y9⟩, ⟨a7, y7⟩, ⟨a60, a61, a62, a63⟩, ⟨y60, y61, y62, y63⟩⟩ := HJ.out.facts
            simp only [Option.getD_some] at a60 a61 a62 a63
            cases o with
            | none =>
              have HN9 := Lib.hid (show ∀ Y, Fr [] (W.setCell ⟨k.g8, 0, none⟩ (.int .i64 ((j : Int) + 1))) Y → k.g9 ≠ Y.heap.size ∧ Y.heap.size ≠ k.g9 from fun Y hY => by have := HJ.out.fs.size; have := hY.size; exact ⟨by omega, by omega⟩)
              gi_wp2_with (first | (refine ⟨trivial, ?_⟩; gi_at_call 35; refine (CallsIn.inRound l (callsIn_wide.2 HC.out)).mono ?_; rintro e w2 ⟨⟨ev, rfl, hev⟩, f2⟩; have f3 := f2.alloc (.cells #[.int .i64 ev.kind, .int .i64 ev.thread, .int .i64 ev.call.kind, .int .i64 ev.call.deadline, .int .u64 ev.call.draw, .int .u64 ev.call.handle, .int .i64 ev.call.count, .int .i64 ev.ticks] 49); obtain ⟨⟨a8, y8⟩, ⟨a9, y9⟩, ⟨a7, y7⟩, ⟨a60, a61, a62, a63⟩, ⟨y60, y61, y62, y63⟩⟩ := (HJ.out.keep0 f3).facts; obtain ⟨hn9, hn9'⟩ := HN9.out _ f2) | (gi_at_builtin; refine wpListIn_app encE slE rfl _ _ rfl ((HJ.out.keep0 f3).bad 8).1 ev (by simp) rfl rfl hlen rfl ?_; intro v' w4 hO f4 hwh; obtain ⟨a', n', c', rfl⟩ := hO.isSlice; obtain ⟨⟨d7, x7⟩, ⟨d8, d9⟩, hres4, hfr4⟩ := ((HJ.out.keep0 f3).bad 8).2 _ f4; obtain ⟨⟨q20, q21, q22, q23⟩, ⟨y20, y21, y22, y23⟩, ⟨q3, y3⟩, ⟨q4, y4⟩, ⟨q5, y5⟩⟩ := hres4.facts) | (gi_region_with_o (fail)))
              all_goals exact end_ret' HK.out (((HJ.out.pk.step hkn HJ.out.new f3 (by simp) hg5 hwW).step hkn HJ.out.new hfr4 (fun x hx => .inl hx) hg5 hwW).step hkn HJ.out.new ((Fr.refl [k.g7] _).setCell (p := ⟨k.g7, 0, none⟩) (.inl (by simp)) _) (fun x hx => .inl (by simp at hx; subst hx; simp [Sv])) hg5 hwW) hkn HG.out rfl
            | some q =>
              gi_wp2_with (first | (refine ⟨trivial, ?_⟩; gi_at_call 35; refine (CallsIn.inRound l (callsIn_wide.2 HC.out)).mono ?_; rintro e w2 ⟨⟨ev, rfl, hev⟩, f2⟩; obtain rfl := hev q rfl; have f3 := f2.alloc (.cells #[.int .i64 ev.kind, .int .i64 ev.thread, .int .i64 ev.call.kind, .int .i64 ev.call.deadline, .int .u64 ev.call.draw, .int .u64 ev.call.handle, .int .i64 ev.call.count, .int .i64 ev.ticks] 49); obtain ⟨⟨a8, y8⟩, ⟨a9, y9⟩, ⟨a7, y7⟩, ⟨a60, a61, a62, a63⟩, ⟨y60, y61, y62, y63⟩⟩ := (HJ.out.keep0 f3).facts) | (gi_at_builtin; refine wpListIn_app encE slE rfl _ _ rfl (HJ.out.keep0 f3).own ev (World.size_alloc _ _) rfl rfl hlen rfl ?_; intro v' w4 hO f4 hwh; obtain ⟨a', n', c', rfl⟩ := hO.isSlice; have c7' := ((HJ.out.keep0 f3).c7.keep f4 (fun hm => by have := HJ.out.new _ hm; omega)).cell 0; have z7' := ((HJ.out.keep0 f3).c7.keep f4 (fun hm => by have := HJ.out.new _ hm; omega)).fz 0; have c9' := ((HJ.out.keep0 f3).c9.keep f4 (fun hm => by have := HJ.out.new _ hm; omega)).cell 0))
              exact end_event HK.out hkn hlive HG.out.symm (HJ.out.keep0 f3) hO f4 hwh
  case done =>
    clear b2 b3 b4 b5 b6 b7 b8 b9 bB hfr lS hl
    rintro D t W hD hlive ⟨o, es, j, v, h⟩ hK
    have ht : t = [] := Classical.byContradiction hlive
    have hgo := h.go
    rw [ht, go_nil] at hgo
    have HK := Lib.hid (And.intro h hK)
    have hBD : k.B < D := by omega
    have hDn : D ∉ [k.g2, k.g3, k.g4, k.g5] := by
      have := k.h2; have := k.h3; have := k.h4; have := k.h5; have := k.h6; have := k.h7; have := k.h8; have := k.h9; have := k.hB
      simp; omega
    have k8 := h.c8.cell 0
    have k7 := h.c7.cell 0
    have k60 := h.c6.c0
    have k61 := h.c6.c1
    have k62 := h.c6.c2
    have k63 := h.c6.c3
    obtain ⟨⟨q20, q21, q22, q23⟩, ⟨y20, y21, y22, y23⟩, ⟨q3, y3⟩, ⟨q4, y4⟩, ⟨q5, y5⟩⟩ := h.res.facts
    obtain ⟨va, vn, vc, hvs⟩ := h.own.isSlice
    have hj : (j : Int) ≤ 262144 := by have := h.len; omega
    have mo : Tryd.prog.follows .mixedOrders = true := by kernel_rfl
    have := k.h2; have := k.h3; have := k.h4; have := k.h5; have := k.h6; have := k.h7; have := k.h8; have := k.h9; have := k.hB
    have n26 : k.g2 ≠ k.g6 := by omega
    have n27 : k.g2 ≠ k.g7 := by omega
    have n28 : k.g2 ≠ k.g8 := by omega
    have n36 : k.g3 ≠ k.g6 := by omega
    have n37 : k.g3 ≠ k.g7 := by omega
    have n38 : k.g3 ≠ k.g8 := by omega
    have n46 : k.g4 ≠ k.g6 := by omega
    have n47 : k.g4 ≠ k.g7 := by omega
    have n48 : k.g4 ≠ k.g8 := by omega
    have n56 : k.g5 ≠ k.g6 := by omega
    have n57 : k.g5 ≠ k.g7 := by omega
    have n58 : k.g5 ≠ k.g8 := by omega
    have n62 : k.g6 ≠ k.g2 := by omega
    have n63 : k.g6 ≠ k.g3 := by omega
    have n64 : k.g6 ≠ k.g4 := by omega
    have n65 : k.g6 ≠ k.g5 := by omega
    have n67 : k.g6 ≠ k.g7 := by omega
    have n68 : k.g6 ≠ k.g8 := by omega
    have n72 : k.g7 ≠ k.g2 := by omega
    have n73 : k.g7 ≠ k.g3 := by omega
    have n74 : k.g7 ≠ k.g4 := by omega
    have n75 : k.g7 ≠ k.g5 := by omega
    have n76 : k.g7 ≠ k.g6 := by omega
    have n78 : k.g7 ≠ k.g8 := by omega
    have n82 : k.g8 ≠ k.g2 := by omega
    have n83 : k.g8 ≠ k.g3 := by omega
    have n84 : k.g8 ≠ k.g4 := by omega
    have n85 : k.g8 ≠ k.g5 := by omega
    have n86 : k.g8 ≠ k.g6 := by omega
    have n87 : k.g8 ≠ k.g7 := by omega
    have FIN : ∀ (p : PlanA) (u : Value) (line e : Int) (tmps : Array Value), tmps[2]?.getD undef = .pointer (some ⟨k.g2, 0, none⟩) → tmps[3]?.getD undef = .pointer (some ⟨k.g3, 0, none⟩) → tmps[4]?.getD undef = .pointer (some ⟨k.g4, 0, none⟩) → tmps[5]?.getD undef = .pointer (some ⟨k.g5, 0, none⟩) → (∃ a n c, u = .slice a n c) →
        (∀ W', Fr [k.g2, k.g3, k.g4, k.g5, D] W W' → ScriptE s (.returned (.tuple #[planAgg p, u, .int .i64 line, .int .i64 e])) W') →
        bodyPostM Fence.wide 9 Tryd.prog Tryd.f15 (fun e w' => ScriptE s e w' ∧ Fr [] w w') Exit.ret { tmps := tmps, defers := [{ target := .collected D, args := #[] }] } (setRes k W p u line e) := by
      intro p u line e tmps h2 h3 h4 h5 hu hE
      obtain ⟨c2, c3, c4, c5, f⟩ := res_set k HK.out.1.res p u line e
      have fD := Fr.put (setRes k W p u line e) D (.deferred none)
      have fall : Fr [k.g2, k.g3, k.g4, k.g5, D] W ((setRes k W p u line e).putObj D (.deferred none)) := (f.mono (fun x hx => .inl (by simp at hx ⊢; omega))).trans fD (by simp)
      refine parse_door _ tmps k D hBD p u line e _ h2 h3 h4 h5 c2 c3 c4 c5 hu ((f.block D (Array.getElem?_eq_some_iff.1 HK.out.2).1 hDn).trans HK.out.2) ⟨hE _ fall, HK.out.1.fr.trans fall (fun x hx => .inr ?_)⟩
      have := k.h2; have := k.h3; have := k.h4; have := k.h5; have := k.h6; have := k.h7; have := k.h8; have := k.h9; have := k.hB
      simp at hx
      omega
    have HFIN := Lib.hid FIN
    clear FIN hDn
    cases o with
    | none =>
      have HG := Lib.hid hgo
      clear h hK hgo ht
      simp only [Option.getD_none, noPlan] at k60 k61 k62 k63
      gi_wp2_with fail
      gi_region
      gi_wp2
      all_goals refine HFIN.out noPlan (.slice none 0 0) ((j : Int) + 1) 1 _ ?_ ?_ ?_ ?_ ⟨_, _, _, rfl⟩ (fun W' _ => by
        unfold ScriptE
        rw [HS.out.2.1, ← HG.out]
        rfl)
      all_goals rfl
    | some p =>
      have hp0 : ¬ (p.threads = 0) := by have := right_pos (h.right p rfl); omega
      have HG := Lib.hid hgo
      subst hvs
      clear h hK hgo ht
      simp only [Option.getD_some] at k60 k61 k62 k63
      gi_wp2_with fail
      gi_region
      gi_wp2
      all_goals refine HFIN.out p (.slice va vn vc) 0 0 _ ?_ ?_ ?_ ?_ ⟨_, _, _, rfl⟩ (fun W' hW' => by
        unfold ScriptE
        rw [HS.out.2.1, ← HG.out]
        refine ⟨_, rfl, ?_⟩
        obtain ⟨g, hg⟩ := (HK.out.1.own.keep hW' (fun x hx hm => by
          have := HK.out.1.new x hx
          have := k.h2; have := k.h3; have := k.h4; have := k.h5; have := k.h6; have := k.h7; have := k.h8; have := k.h9; have := k.hB
          have hxD := own_ne HK.out.1.own HK.out.2 rfl x hx
          simp at hm
          omega)).rd
        exact ⟨g, 0, hg⟩)
      all_goals rfl
  case stop =>
    clear b2 b3 b4 b5 b6 b7 b8 b9 bB hfr lS hl
    rintro D c W hD ⟨rfl, line, e, h⟩ hK
    have hBD : k.B < D := by omega
    gi_wp2
    refine parse_door _ _ k D hBD noPlan (.slice none 0 0) line e _ rfl rfl rfl rfl h.r2 h.r3 h.r4 h.r5 ⟨_, _, _, rfl⟩ hK ⟨?_, h.fr.trans (Fr.put W D _) (fun x hx => .inr (by simp at hx; omega))⟩
    unfold ScriptE
    rw [HS.out.2.1, h.bad]
    rfl
end Go.Proofs.YtkdmodanfcpcfaaDoor
