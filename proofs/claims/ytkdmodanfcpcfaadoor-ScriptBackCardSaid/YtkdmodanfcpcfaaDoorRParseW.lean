/- DERIVED. Chapter 42: Parse, of the reference. -/
import Derived.Test.YtkdmodanfcpcfaaDoorREventW
import Derived.Test.YtkdmodanfcpcfaaDoorRPlan
import Derived.BigRegion
namespace Go.Proofs.YtkdmodanfcpcfaaDoor
open Go.RowKit

theorem cut_no {c : UInt8} {t : List UInt8} (h : c ∉ t) : cutV c t = (t, [], false) := by
  induction t with
  | nil => rfl
  | cons x r ih =>
    simp at h
    rw [cutV_cons, if_neg (fun e => h.1 e.symm), ih h.2]
theorem cut_yes {c : UInt8} {a b : List UInt8} (h : c ∉ a) : cutV c (a ++ c :: b) = (a, b, true) := by
  induction a with
  | nil => simp [cutV]
  | cons x r ih =>
    simp at h
    rw [List.cons_append, cutV_cons, if_neg (fun e => h.1 e.symm), ih h.2]
theorem ext_take (s : List UInt8) (a b : Nat) (h1 : a ≤ b) : (Str s).extract a b = Str ((s.drop a).take (b - a)) := by
  apply ByteArray.ext
  apply Array.ext'
  rw [Lib.extract_data, show (Str s).data.toList = s by simp [Str]]
  simp [Str]
/-- the line that begins at a and ends ahead of b -/
theorem line_at {s : List UInt8} {a b : Nat} (h1 : a ≤ b) (hb : s[b]? = some 10) (hn : 10 ∉ (s.drop a).take (b - a)) : cutV 10 (s.drop a) = ((s.drop a).take (b - a), s.drop (b + 1), true) := by
  have e : s.drop a = (s.drop a).take (b - a) ++ 10 :: s.drop (b + 1) := by
    have h2 : (s.drop a).drop (b - a) = 10 :: s.drop (b + 1) := by
      rw [List.drop_drop, show a + (b - a) = b by omega]
      obtain ⟨hlt, hv⟩ := List.getElem?_eq_some_iff.1 hb
      rw [List.drop_eq_getElem_cons hlt, hv]
    rw [← h2, List.take_append_drop]
  conv => lhs; rw [e]
  exact cut_yes hn
theorem line_open {s : List UInt8} {a : Nat} (hn : 10 ∉ s.drop a) : (cutV 10 (s.drop a)).2.2 = false := by rw [cut_no hn]
theorem take_snoc_not {s : List UInt8} {a b : Nat} {x : UInt8} (h1 : a ≤ b) (hb : s[b]? = some x) (hx : x ≠ 10) (hn : 10 ∉ (s.drop a).take (b - a)) : 10 ∉ (s.drop a).take (b + 1 - a) := by
  have : (s.drop a).take (b + 1 - a) = (s.drop a).take (b - a) ++ [x] := by
    rw [show b + 1 - a = (b - a) + 1 by omega]
    have h2 : (s.drop a)[b - a]? = some x := by rw [List.getElem?_drop, show a + (b - a) = b by omega]; exact hb
    obtain ⟨hlt, hv⟩ := List.getElem?_eq_some_iff.1 h2
    rw [List.take_succ_eq_append_getElem hlt, hv]
  rw [this]
  simp
  exact ⟨hn, fun e => hx e.symm⟩

theorem rparse_door (w wd : World) (tmps : Array Value) (g : Nat) (p : PlanA) (v : Value) (line e : Int) (R : Ending → World → Prop) (h2 : tmps[2]?.getD undef = .pointer (some ⟨g, 0, none⟩)) (h3 : tmps[3]?.getD undef = v) (h4 : tmps[4]?.getD undef = .int .i64 line) (h5 : tmps[5]?.getD undef = .int .i64 e) (hc : PB wd g p)
    (hR : R (.returned (.tuple #[planAgg p, v, .int .i64 line, .int .i64 e])) wd) :
    bodyPost Tryd.prog Tryd.f16 R Exit.ret { tmps := tmps, defers := [] } wd := by
  refine bodyPost_ret (v := .tuple #[planAgg p, v, .int .i64 line, .int .i64 e]) ?_ rfl hR
  simp [results, Tryd.results16, go_sem, h2, h3, h4, h5, hc.c0, hc.c1, hc.c2, hc.c3, planAgg]
end Go.Proofs.YtkdmodanfcpcfaaDoor

/- DERIVED. Chapter 42: Parse, of the reference: the walk. -/
namespace Go.Proofs.YtkdmodanfcpcfaaDoor
open Go.RowKit

/-- between two lines -/
structure QI (g2 g6 : Nat) (s : List UInt8) (R : ScriptR) (w W : World) (a : Nat) (o : Option PlanA) (l : List EventA) (j : Nat) (v : Value) : Prop where
  go : scriptGo (s.drop a) o l j = R
  ja : j ≤ a
  al : a ≤ s.length
  ll : l.length ≤ j
  right : ∀ p, o = some p → p.right = true
  c6 : PB W g6 (o.getD noPlan)
  c2 : PB W g2 noPlan
  own : Own encE 49 W v l
  new : New (g6 + 1) v
  fr : Fr [] w W
theorem QI.keep0 {g2 g6 : Nat} {s : List UInt8} {R : ScriptR} {w W W' : World} {a : Nat} {o : Option PlanA} {l : List EventA} {j : Nat} {v : Value} (h : QI g2 g6 s R w W a o l j v) (f : Fr [] W W') : QI g2 g6 s R w W' a o l j v :=
  ⟨h.go, h.ja, h.al, h.ll, h.right, h.c6.keep0 f, h.c2.keep0 f, h.own.keep0 f, h.new, h.fr.trans0 f⟩
theorem QI.setPlan {g2 g6 : Nat} {s : List UInt8} {R : ScriptR} {w W : World} {a a' : Nat} {l : List EventA} {j : Nat} {v : Value} (h : QI g2 g6 s R w W a none l j v) (h26 : g2 < g6) (hw : w.heap.size ≤ g2) (q : PlanA) (hq : q.right = true) (hg : scriptGo (s.drop a') (some q) l (j + 1) = R) (ha : a + 1 ≤ a') (hl : a' ≤ s.length) :
    QI g2 g6 s R w ((((W.setCell ⟨g6, 0, none⟩ (.int .i64 q.threads)).setCell ⟨g6, 1, none⟩ (.int .i64 q.slots)).setCell ⟨g6, 2, none⟩ (.int .i64 q.levels)).setCell ⟨g6, 3, none⟩ (.int .u64 q.gen)) a' (some q) l (j + 1) v := by
  have f6 := (Fr.refl [g6] W).setP (g := g6) (.inl (by simp)) (.int .i64 q.threads) (.int .i64 q.slots) (.int .i64 q.levels) (.int .u64 q.gen)
  have c6 := h.c6.setAll q
  generalize (((W.setCell ⟨g6, 0, none⟩ (.int .i64 q.threads)).setCell ⟨g6, 1, none⟩ (.int .i64 q.slots)).setCell ⟨g6, 2, none⟩ (.int .i64 q.levels)).setCell ⟨g6, 3, none⟩ (.int .u64 q.gen) = Y at *
  exact ⟨hg, by have := h.ja; omega, hl, by have := h.ll; omega, fun p hp => by injection hp with hp; rw [← hp]; exact hq, c6, h.c2.keep f6 (by simp; omega), h.own.keep f6 (fun x hx => by have := h.new x hx; simp; omega), h.new, h.fr.trans f6 (fun x hx => .inr (by simp at hx; omega))⟩
theorem QI.pass {g2 g6 : Nat} {s : List UInt8} {R : ScriptR} {w W : World} {a a' : Nat} {o : Option PlanA} {l : List EventA} {j : Nat} {v : Value} (h : QI g2 g6 s R w W a o l j v) (hg : scriptGo (s.drop a') o l (j + 1) = R) (ha : a + 1 ≤ a') (hl : a' ≤ s.length) : QI g2 g6 s R w W a' o l (j + 1) v :=
  ⟨hg, by have := h.ja; omega, hl, by have := h.ll; omega, h.right, h.c6, h.c2, h.own, h.new, h.fr⟩
theorem QI.event {g2 g6 : Nat} {s : List UInt8} {R : ScriptR} {w W Z : World} {a a' : Nat} {o : Option PlanA} {l : List EventA} {j : Nat} {v v' : Value} {e : EventA} (h : QI g2 g6 s R w W a o l j v) (h26 : g2 < g6) (hw : w.heap.size ≤ g2) (h6 : g6 < W.heap.size) (hg : scriptGo (s.drop a') o (l ++ [e]) (j + 1) = R) (ha : a + 1 ≤ a') (hl : a' ≤ s.length)
    (hO : Own encE 49 Z v' (l ++ [e])) (hf : Fr (sblk v) W Z) (hwh : sblk v' = sblk v ∨ ∃ g, sblk v' = [g] ∧ W.heap.size ≤ g) : QI g2 g6 s R w Z a' o (l ++ [e]) (j + 1) v' := by
  have nv : ∀ g, g ≤ g6 → g ∉ sblk v := fun g hg hm => by have := h.new g hm; omega
  refine ⟨hg, by have := h.ja; omega, hl, by have := h.ll; simp; omega, h.right, h.c6.keep hf (nv _ (by omega)), h.c2.keep hf (nv _ (by omega)), hO, fun x hx => ?_, h.fr.trans hf (fun x hx => .inr (by have := h.new x hx; omega))⟩
  rcases hwh with hw | ⟨g, hw, hg⟩
  · rw [hw] at hx; exact h.new x hx
  · rw [hw] at hx; simp at hx; omega

set_option maxRecDepth 20000 in
set_option maxHeartbeats 4000000 in
theorem refParse_ok (s : List UInt8) (hs : s.length ≤ 262144) (w : World) :
    Calls Tryd.prog 16 #[.string (Str s)] w fun e w' => ScriptE s e w' ∧ Fr [] w w' := by
  have F0 : Fr [] w ((w.alloc (.cells #[.int .i64 0, .int .i64 0, .int .i64 0, .int .u64 0] 38)).alloc (.cells #[.int .i64 0, .int .i64 0, .int .i64 0, .int .u64 0] 38)) := ((Fr.refl _ _).alloc _).alloc _
  have C2 : PB ((w.alloc (.cells #[.int .i64 0, .int .i64 0, .int .i64 0, .int .u64 0] 38)).alloc (.cells #[.int .i64 0, .int .i64 0, .int .i64 0, .int .u64 0] 38)) w.heap.size noPlan := (PB.new w noPlan).keep0 ((Fr.refl _ _).alloc _)
  have C6 : PB ((w.alloc (.cells #[.int .i64 0, .int .i64 0, .int .i64 0, .int .u64 0] 38)).alloc (.cells #[.int .i64 0, .int .i64 0, .int .i64 0, .int .u64 0] 38)) (w.heap.size + 1) noPlan := by
    have := PB.new (w.alloc (.cells #[.int .i64 0, .int .i64 0, .int .i64 0, .int .u64 0] 38)) noPlan
    rw [World.size_alloc] at this
    exact this
  have lS := strLen s
  have hR : scriptV s = scriptGo s none [] 0 := by unfold scriptV; rw [if_neg (by omega)]
  obtain ⟨R, hR2⟩ : ∃ R, scriptGo s none [] 0 = R := ⟨_, rfl⟩
  rw [hR2] at hR
  obtain ⟨S, hS⟩ : ∃ S, Str s = S := ⟨_, rfl⟩
  have iS := fun k c (h : s[k]? = some c) => strIdx h
  have eS := fun a b => ext_take s a b
  have zS : S.size = s.length := by rw [← hS, Str.size]
  rw [hS] at lS ⊢
  simp only [hS] at iS eS
  have hl : ¬ ((262144 : Int) < s.length) := by omega
  have HS := Lib.hid (And.intro hS (And.intro hR (And.intro hR2 (And.intro iS (And.intro eS zS)))))
  have H0 := Lib.hid (And.intro F0 (And.intro C2 C6))
  clear hS hR hR2 iS eS F0 C2 C6 zS
  go_enter Tryd.func16, Tryd.ntmps16
  go_wp2_with fail
  obtain ⟨g2, hg2⟩ : ∃ g, w.heap.size = g := ⟨_, rfl⟩
  obtain ⟨g6, hg6⟩ : ∃ g, g2 + 1 = g := ⟨_, rfl⟩
  obtain ⟨W, hW⟩ : ∃ W, (w.alloc (.cells #[.int .i64 0, .int .i64 0, .int .i64 0, .int .u64 0] 38)).alloc (.cells #[.int .i64 0, .int .i64 0, .int .i64 0, .int .u64 0] 38) = W := ⟨_, rfl⟩
  rw [hW, hg2, hg6] at H0
  rw [hW, hg2, hg6]
  have h26 : g2 < g6 := by omega
  have hw2 : w.heap.size ≤ g2 := by omega
  have HQ := Lib.hid (show QI g2 g6 s R w W 0 none [] 0 (.slice none 0 0) from ⟨by rw [List.drop_zero]; exact HS.out.2.2.1, by omega, by omega, by simp, by simp, H0.out.2.2, H0.out.2.1, Own.nil _ _ _, New.nil _, H0.out.1⟩)
  clear hW hg2 hg6 H0
  go_loopw [7, 8, 9, 10] (fun v7 v8 v9 v10 wr => ∃ (a : Nat) (o : Option PlanA) (l : List EventA) (j : Nat), v8 = .bool o.isSome ∧ v9 = .int .i64 ((j : Int) + 1) ∧ v10 = .int .i64 a ∧ Hid (QI g2 g6 s R w wr a o l j v7)) (fun _ _ _ v10 _ => s.length - (intOf v10).toNat)
  case atStart => exact ⟨0, none, [], 0, rfl, rfl, rfl, HQ.out⟩
  case round =>
    obtain ⟨a, o, l, j, rfl, rfl, rfl, hq⟩ := hrel
    have ha := hq.out.al
    have hj := hq.out.ja
    by_cases hlt : a < s.length
    · have hne : s.drop a ≠ [] := by
        intro e
        have := congrArg List.length e
        simp at this
        omega
      go_wp2_with fail
      go_loop [11] (fun x => ∃ b : Nat, x = .int .i64 b ∧ a ≤ b ∧ b ≤ s.length ∧ Hid (10 ∉ (s.drop a).take (b - a))) (fun x => s.length - (intOf x).toNat)
      case atStart => exact ⟨a, rfl, by omega, by omega, by unfold Hid; simp⟩
      case round =>
        obtain ⟨b, rfl, hab, hbl, hnn⟩ := hrel
        by_cases hb : b < s.length
        · obtain ⟨x, hx⟩ := at_of s hb
          have ib := HS.out.2.2.2.1 b x hx
          by_cases h10 : x = 10
          · subst h10
            have hline := line_at hab hx hnn.out
            obtain ⟨ln, hln⟩ : ∃ ln, (s.drop a).take (b - a) = ln := ⟨_, rfl⟩
            rw [hln] at hline
            have hy : (cutV 10 (s.drop a)).2.2 = true := by rw [hline]
            have h1 : (cutV 10 (s.drop a)).1 = ln := by rw [hline]
            have hnx : nextL (s.drop a) = s.drop (b + 1) := by unfold nextL; rw [hline]
            have hXe := HS.out.2.2.2.2.1 a b hab
            rw [hln] at hXe
            have zS := HS.out.2.2.2.2.2
            have lX := strLen ln
            have hlnl : ln.length ≤ 1000000 := by rw [← hln]; simp; omega
            have hb1 : b + 1 ≤ s.length := by omega
            cases ln with
            | nil =>
              have hgo : scriptGo (s.drop (b + 1)) o l (j + 1) = R := by rw [← hq.out.go, go_pass o l j hne hy (.inl h1), hnx]
              have HP := Lib.hid (hq.out.pass hgo (by omega) hb1)
              obtain ⟨X, hX⟩ : ∃ X, Str [] = X := ⟨_, rfl⟩
              rw [hX] at hXe lX
              clear hx hline hy h1 hnx hgo hln hX hnn
              go_wp2
              go_roundw
              case rel => exact ⟨b + 1, o, l, j + 1, rfl, by first | rfl | (congr 1; omega), by first | rfl | (congr 1; omega), HP⟩
              case measure => simp [intOf]; omega
            | cons c r =>
              have iX := strIdx0 (s := c :: r) (c := c) rfl
              have hgt : (0 : Int) < ((c :: r).length : Int) := by simp
              obtain ⟨X, hX⟩ : ∃ X, Str (c :: r) = X := ⟨_, rfl⟩
              rw [hX] at hXe lX iX
              by_cases h35 : c = 35
              · subst h35
                have hgo : scriptGo (s.drop (b + 1)) o l (j + 1) = R := by rw [← hq.out.go, go_pass o l j hne hy (.inr (by rw [h1]; rfl)), hnx]
                have HP := Lib.hid (hq.out.pass hgo (by omega) hb1)
                clear hx hline hy h1 hnx hgo hln hX hnn
                go_wp2
                go_roundw
                case rel => exact ⟨b + 1, o, l, j + 1, rfl, by first | rfl | (congr 1; omega), by first | rfl | (congr 1; omega), HP⟩
                case measure => simp [intOf]; omega
              · have h35i : ((c.toNat : Int) == 35) = false := by
                  simp
                  intro e
                  exact h35 (UInt8.toNat_inj.1 (by have : (35 : UInt8).toNat = 35 := rfl; omega))
                have hnp : ¬ ((cutV 10 (s.drop a)).1 = [] ∨ (cutV 10 (s.drop a)).1[0]? = some 35) := by
                  rw [h1]
                  simp [h35]
                cases o with
                | none =>
                  have hgo := go_plan l j hne hy hnp
                  rw [hq.out.go, h1, hnx] at hgo
                  have C := fun W => refPlan_any (c :: r) hlnl W
                  unfold PlanR planAgg at C
                  have hrt := fun p => @planV_right (c :: r) p
                  generalize planV (c :: r) = o at C hgo hrt
                  rw [hX] at C
                  have HC := Lib.hid C
                  have HG := Lib.hid (And.intro hgo hrt)
                  clear hx hline hy h1 hnx hgo hln hX hnn hnp C hrt
                  simp only [Option.isSome_none]
                  go_wp2_with fail
                  refine (HC.out _).mono ?_
                  clear HC
                  rintro e w2 ⟨⟨p, rfl, hp⟩, f2⟩
                  have f3 := f2.alloc (.cells #[.int .i64 p.threads, .int .i64 p.slots, .int .i64 p.levels, .int .u64 p.gen] 38)
                  have p3 := PB.new w2 p
                  have Q3 := hq.out.keep0 f3
                  cases o with
                  | none =>
                    obtain ⟨g0, g1, g2', g3⟩ := (⟨Q3.c2.c0, Q3.c2.c1, Q3.c2.c2, Q3.c2.c3⟩ : _ ∧ _ ∧ _ ∧ _)
                    have z0 := Q3.c2.fz 0
                    have z1 := Q3.c2.fz 1
                    have z2 := Q3.c2.fz 2
                    have z3 := Q3.c2.fz 3
                    have HQ3 := Lib.hid Q3
                    clear Q3 p3 f3 f2 hp
                    simp only [Option.isSome_none]
                    go_wp2
                    refine rparse_door w _ _ g2 noPlan (.slice none 0 0) ((j : Int) + 1) 1 _ rfl rfl rfl rfl (HQ3.out.c2.setAll noPlan) ⟨?_, HQ3.out.fr.setP (.inr hw2) _ _ _ _⟩
                    unfold ScriptE
                    rw [HS.out.2.1, HG.out.1]
                    rfl
                  | some q =>
                    obtain rfl := hp q rfl
                    have HP := Lib.hid (Q3.setPlan h26 hw2 p (HG.out.2 p rfl) HG.out.1.symm (by omega) hb1)
                    obtain ⟨g0, g1, g2', g3⟩ := (⟨Q3.c6.c0, Q3.c6.c1, Q3.c6.c2, Q3.c6.c3⟩ : _ ∧ _ ∧ _ ∧ _)
                    have z0 := Q3.c6.fz 0
                    have z1 := Q3.c6.fz 1
                    have z2 := Q3.c6.fz 2
                    have z3 := Q3.c6.fz 3
                    have y0 := p3.c0
                    have y1 := p3.c1
                    have y2 := p3.c2
                    have y3 := p3.c3
                    clear Q3 p3 f3 f2 hp
                    simp only [Option.isSome_some]
                    go_wp2
                    go_roundw
                    case rel => exact ⟨b + 1, some p, l, j + 1, rfl, by first | rfl | (congr 1; omega), by first | rfl | (congr 1; omega), HP⟩
                    case measure => simp [intOf]; omega
                | some p =>
                  have hgo := go_event p l j hne hy hnp
                  rw [hq.out.go, h1, hnx] at hgo
                  have C := fun W => refEvent_any (c :: r) hlnl W
                  unfold EventR eventAgg at C
                  have hlen : l.length < 4294967296 := by have := hq.out.ll; omega
                  generalize eventV (c :: r) = o at C hgo
                  rw [hX] at C
                  have HC := Lib.hid C
                  have HG := Lib.hid hgo
                  clear hx hline hy h1 hnx hgo hln hX hnn hnp C
                  simp only [Option.isSome_some]
                  go_wp2_with fail
                  refine (HC.out _).mono ?_
                  clear HC
                  rintro e w2 ⟨⟨ev, rfl, hev⟩, f2⟩
                  have f3 := f2.alloc (.cells #[.int .i64 ev.kind, .int .i64 ev.thread, .int .i64 ev.call.kind, .int .i64 ev.call.deadline, .int .u64 ev.call.draw, .int .u64 ev.call.handle, .int .i64 ev.call.count, .int .i64 ev.ticks] 49)
                  have p3 := Box.new w2 #[.int .i64 ev.kind, .int .i64 ev.thread, .int .i64 ev.call.kind, .int .i64 ev.call.deadline, .int .u64 ev.call.draw, .int .u64 ev.call.handle, .int .i64 ev.call.count, .int .i64 ev.ticks] 49
                  have Q3 := hq.out.keep0 f3
                  cases o with
                  | none =>
                    obtain ⟨g0, g1, g2', g3⟩ := (⟨Q3.c2.c0, Q3.c2.c1, Q3.c2.c2, Q3.c2.c3⟩ : _ ∧ _ ∧ _ ∧ _)
                    have z0 := Q3.c2.fz 0
                    have z1 := Q3.c2.fz 1
                    have z2 := Q3.c2.fz 2
                    have z3 := Q3.c2.fz 3
                    have HQ3 := Lib.hid Q3
                    clear Q3 p3 f3 f2 hev
                    simp only [Option.isSome_none]
                    go_wp2
                    refine rparse_door w _ _ g2 noPlan (.slice none 0 0) ((j : Int) + 1) 8 _ rfl rfl rfl rfl (HQ3.out.c2.setAll noPlan) ⟨?_, HQ3.out.fr.setP (.inr hw2) _ _ _ _⟩
                    unfold ScriptE
                    rw [HS.out.2.1, HG.out]
                    rfl
                  | some q =>
                    obtain rfl := hev q rfl
                    simp only [Option.isSome_some]
                    go_upto_region 25 with (fail)
                    obtain ⟨q, hq'⟩ : ∃ q, w2.heap.size = q := ⟨_, rfl⟩
                    obtain ⟨V, hV⟩ : ∃ V, w2.alloc (.cells #[.int .i64 ev.kind, .int .i64 ev.thread, .int .i64 ev.call.kind, .int .i64 ev.call.deadline, .int .u64 ev.call.draw, .int .u64 ev.call.handle, .int .i64 ev.call.count, .int .i64 ev.ticks] 49) = V := ⟨_, rfl⟩
                    rw [hV] at f3 p3 Q3
                    rw [hq'] at p3
                    rw [hV, hq']
                    clear hV hq'
                    have y0 := p3.cell 0
                    have y1 := p3.cell 1
                    have y2 := p3.cell 2
                    have y3 := p3.cell 3
                    have y4 := p3.cell 4
                    have y5 := p3.cell 5
                    have y6 := p3.cell 6
                    have y7 := p3.cell 7
                    have HQ3 := Lib.hid Q3
                    clear Q3 p3 f3 f2 hev
                    go_wp2_with (at_builtin; refine wpList_app encE slE rfl _ _ rfl HQ3.out.own ev rfl rfl hlen ?_ rfl; intro v8 w8 hO8 f8 hw8 _)
                    go_roundw
                    case rel => exact ⟨b + 1, some p, l ++ [ev], j + 1, rfl, by first | rfl | (congr 1; omega), by first | rfl | (congr 1; omega), HQ3.out.event h26 hw2 HQ3.out.c6.lt HG.out.symm (by omega) hb1 hO8 f8 hw8⟩
                    case measure => simp [intOf]; omega
          · have h10i : ((x.toNat : Int) == 10) = false := by
              simp
              intro e
              exact h10 (UInt8.toNat_inj.1 (by have : (10 : UInt8).toNat = 10 := rfl; omega))
            have hnx := Lib.hid (take_snoc_not hab hx h10 hnn.out)
            clear hx
            go_wp2
            go_round
            case rel => exact ⟨b + 1, by first | rfl | (congr 1; omega), by omega, by omega, hnx⟩
            case measure => simp [intOf]; omega
        · have hbe : b = s.length := by omega
          subst hbe
          have hno : 10 ∉ s.drop a := by
            have := hnn.out
            rwa [List.take_of_length_le (by simp)] at this
          have hgo := go_open o l j hne (line_open hno)
          rw [hq.out.go] at hgo
          have HG := Lib.hid hgo
          obtain ⟨g0, g1, g2', g3⟩ := (⟨hq.out.c2.c0, hq.out.c2.c1, hq.out.c2.c2, hq.out.c2.c3⟩ : _ ∧ _ ∧ _ ∧ _)
          have z0 := hq.out.c2.fz 0
          have z1 := hq.out.c2.fz 1
          have z2 := hq.out.c2.fz 2
          have z3 := hq.out.c2.fz 3
          clear hgo hno hnn
          go_wp2
          refine rparse_door w _ _ g2 noPlan (.slice none 0 0) ((j : Int) + 1) 9 _ rfl rfl rfl rfl (hq.out.c2.setAll noPlan) ⟨?_, hq.out.fr.setP (.inr hw2) _ _ _ _⟩
          unfold ScriptE
          rw [HS.out.2.1, HG.out]
          rfl
    · have hal : a = s.length := by omega
      have hgo := hq.out.go
      rw [List.drop_eq_nil_of_le (by omega), go_nil] at hgo
      obtain ⟨g0, g1, g2', g3⟩ := (⟨hq.out.c2.c0, hq.out.c2.c1, hq.out.c2.c2, hq.out.c2.c3⟩ : _ ∧ _ ∧ _ ∧ _)
      have z0 := hq.out.c2.fz 0
      have z1 := hq.out.c2.fz 1
      have z2 := hq.out.c2.fz 2
      have z3 := hq.out.c2.fz 3
      obtain ⟨y0, y1, y2, y3⟩ := (⟨hq.out.c6.c0, hq.out.c6.c1, hq.out.c6.c2, hq.out.c6.c3⟩ : _ ∧ _ ∧ _ ∧ _)
      have HG := Lib.hid hgo
      subst hal
      cases o with
      | none =>
        clear hgo
        simp only [Option.isSome_none]
        go_wp2
        refine rparse_door w _ _ g2 noPlan (.slice none 0 0) ((j : Int) + 1) 1 _ rfl rfl rfl rfl (hq.out.c2.setAll noPlan) ⟨?_, hq.out.fr.setP (.inr hw2) _ _ _ _⟩
        unfold ScriptE
        rw [HS.out.2.1, ← HG.out]
        rfl
      | some p =>
        clear hgo
        simp only [Option.isSome_some]
        go_wp2
        refine rparse_door w _ _ g2 p u7 0 0 _ rfl rfl rfl rfl (hq.out.c2.setAll p) ⟨?_, hq.out.fr.setP (.inr hw2) _ _ _ _⟩
        unfold ScriptE
        rw [HS.out.2.1, ← HG.out]
        refine ⟨_, rfl, ?_⟩
        obtain ⟨gg, hgg⟩ := (hq.out.own.keep ((Fr.refl [g2] _).setP (g := g2) (.inl (by simp)) _ _ _ _) (fun x hx => by have := hq.out.new x hx; simp; omega)).rd
        exact ⟨gg, 0, hgg⟩
end Go.Proofs.YtkdmodanfcpcfaaDoor
