/- DERIVED. Chapter 42: event, of the reference. -/
import Derived.Test.YtkdmodanfcpcfaaDoorEventOf
import Derived.Test.YtkdmodanfcpcfaaDoorRPlan
import Derived.Test.YtkdmodanfcpcfaaDoorCallP
import Derived.Test.YtkdmodanfcpcfaaDoorRCallP
namespace Go.Proofs.YtkdmodanfcpcfaaDoor
open Go.RowKit

/-- a text whose second word there is, as its words have it -/
theorem words_two (s : List UInt8) : (wordsV s).length < 2 ↔ (cutV 32 s).2.2 = false := by
  rw [words_cut]
  cases h : (cutV 32 s).2.2
  · simp
  · have := List.length_pos_iff.2 (wordsV_ne (cutV 32 s).2.1)
    simp; omega
theorem words_0 (s : List UInt8) : (wordsV s)[0]? = some (cutV 32 s).1 := by
  rw [words_cut]
  have h2 := (cutV_len 32 s).2.2.2.1
  cases h : (cutV 32 s).2.2
  · simp [(h2 h).1]
  · simp
theorem words_1 (s : List UInt8) (h : (cutV 32 s).2.2 = true) : (wordsV s)[1]? = some (cutV 32 (cutV 32 s).2.1).1 := by
  rw [words_cut, if_pos h, List.getElem?_cons_succ, words_0]
theorem words_many (s : List UInt8) (h : (cutV 32 s).2.2 = true) : (wordsV s).length = 2 ↔ (cutV 32 (cutV 32 s).2.1).2.2 = false := by
  rw [words_cut, if_pos h, ← words_two]
  have := List.length_pos_iff.2 (wordsV_ne (cutV 32 s).2.1)
  simp; omega
theorem numB_nil0 {B : Nat} {s : List UInt8} (h : s = []) : numB B s = none := by subst h; exact numB_nil
/-- the reference's way -/
def eventW (s : List UInt8) (ws : List (List UInt8)) : Option EventA :=
  if ws.length < 2 then none
  else (numB 9223372036854775808 ((ws[1]?).getD [])).bind fun n =>
    if ws[0]? = some wStep ∧ ws.length = 2 then some ⟨2, n, noCall, 0⟩
    else if ws[0]? = some wTick ∧ ws.length = 2 then some ⟨3, 0, noCall, n⟩
    else if ws[0]? ≠ some wCall ∨ ws.length < 3 then none
    else (callV (s.drop (6 + ((ws[1]?).getD []).length))).map fun c => ⟨1, n, c, 0⟩
theorem eventW_eq (s : List UInt8) : eventW s (wordsV s) = eventV s := by
  unfold eventW eventV eventU
  by_cases h : (cutV 32 s).2.2 = true
  · rw [if_neg (by rw [words_two, h]; decide), words_1 s h, words_0]
    simp only [Option.getD_some]
    cases hn : numB 9223372036854775808 (cutV 32 (cutV 32 s).2.1).1 with
    | none => rfl
    | some n =>
      simp only [Option.bind_some]
      have hm := words_many s h
      have hs := (cutV_len 32 s).2.2.1 h
      have hs2 := (cutV_len 32 (cutV 32 s).2.1).2.2.1
      have hge : ¬ (wordsV s).length < 2 := by rw [words_two, h]; decide
      generalize hwd : (cutV 32 s).1 = wd at *
      generalize hre : (cutV 32 s).2.1 = re at *
      generalize hmo : (cutV 32 re).2.2 = mo at *
      generalize hnu : (cutV 32 re).1 = nu at *
      generalize htx : (cutV 32 re).2.1 = tx at *
      have inj : ∀ x : List UInt8, some wd = some x ↔ wd = x := fun x => ⟨fun h => by injection h, fun h => by rw [h]⟩
      simp only [inj, ne_eq]
      cases mo with
      | false =>
        have h2 : (wordsV s).length = 2 := hm.2 rfl
        rw [h2]
        by_cases hc : wd = wCall
        · rw [if_neg (by rw [hc]; decide), if_neg (by rw [hc]; decide), if_pos (by omega), if_pos (by simp [hc])]
        · rw [if_neg (by simp [hc] : ¬ ¬ (false = decide (wd = wCall)))]
          by_cases h3 : wd = wStep
          · rw [if_pos ⟨h3, rfl⟩, if_pos h3]
          · rw [if_neg (fun h => h3 h.1), if_neg h3]
            by_cases h4 : wd = wTick
            · rw [if_pos ⟨h4, rfl⟩, if_pos h4]
            · rw [if_neg (fun h => h4 h.1), if_neg h4, if_pos (by omega), if_neg hc]
      | true =>
        have h2 : (wordsV s).length ≠ 2 := fun e => by have := hm.1 e; cases this
        rw [if_neg (fun h => h2 h.2), if_neg (fun h => h2 h.2)]
        by_cases hc : wd = wCall
        · rw [if_neg (by rintro (h | h); exact h hc; omega), if_neg (by simp [hc]), if_neg (by rw [hc]; decide), if_neg (by rw [hc]; decide), if_pos hc]
          congr 2
          rw [hs, hs2 rfl, hc]
          rw [show wCall ++ 32 :: (nu ++ 32 :: tx) = (wCall ++ 32 :: nu ++ [32]) ++ tx by simp]
          rw [show 6 + nu.length = (wCall ++ 32 :: nu ++ [32]).length by simp [wCall]; omega]
          rw [List.drop_left]
        · rw [if_pos (Or.inl hc), if_pos (by simp [hc])]
  · have hf : (cutV 32 s).2.2 = false := by cases hh : (cutV 32 s).2.2 <;> simp_all
    rw [if_pos ((words_two s).2 hf)]
    have := ((cutV_len 32 s).2.2.2.1 hf).2
    rw [this, numB_nil0 (by rfl)]
    rfl
end Go.Proofs.YtkdmodanfcpcfaaDoor

/- DERIVED. Chapter 42: event, of the reference: the walk. -/
namespace Go.Proofs.YtkdmodanfcpcfaaDoor
open Go.RowKit

theorem revent_door (w wd : World) (tmps : Array Value) (g : Nat) (p : EventA) (s : List UInt8) (b : Bool) (h2 : tmps[2]?.getD undef = .pointer (some ⟨g, 0, none⟩)) (h3 : tmps[3]?.getD undef = .bool b) (hc : BF wd g p.cs) (hf : Fr [] w wd) (hb : b = (eventV s).isSome) (hq : ∀ q, eventV s = some q → p = q) :
    bodyPost Tryd.prog Tryd.f37 (fun e w' => EventR s e ∧ Fr [] w w') Exit.ret { tmps := tmps, defers := [] } wd := by
  refine bodyPost_ret (v := .tuple #[eventAgg p, .bool b]) ?_ rfl ⟨⟨p, by rw [hb], hq⟩, hf⟩
  simp [results, Tryd.results37, go_sem, h2, h3, hc.cell, eventAgg, EventA.cs]
theorem ext_drop (s : List UInt8) (k : Nat) : (Str s).extract k s.length = Str (s.drop k) := by
  apply ByteArray.ext
  apply Array.ext'
  rw [Lib.extract_data, show (Str s).data.toList = s by simp [Str]]
  rw [List.take_of_length_le (by simp)]
  simp [Str]

set_option maxRecDepth 20000 in
set_option maxHeartbeats 4000000 in
theorem refEvent_any (s : List UInt8) (hs : s.length ≤ 1000000) (w : World) :
    Calls Tryd.prog 37 #[.string (Str s)] w fun e w' => EventR s e ∧ Fr [] w w' := by
  have F0 : Fr [] w (w.alloc (.cells #[.int .i64 0, .int .i64 0, .int .i64 0, .int .i64 0, .int .u64 0, .int .u64 0, .int .i64 0, .int .i64 0] 49)) := (Fr.refl _ _).alloc _
  have C0 : BF (w.alloc (.cells #[.int .i64 0, .int .i64 0, .int .i64 0, .int .i64 0, .int .u64 0, .int .u64 0, .int .i64 0, .int .i64 0] 49)) w.heap.size noEvent.cs := BF.new w _ _
  have SP := refWords_any s hs (w.alloc (.cells #[.int .i64 0, .int .i64 0, .int .i64 0, .int .i64 0, .int .u64 0, .int .u64 0, .int .i64 0, .int .i64 0] 49))
  have hV : eventV s = eventW s (wordsV s) := (eventW_eq s).symm
  have hws := wordsV_each s
  have hw1 : 1 ≤ (wordsV s).length := List.length_pos_iff.2 (wordsV_ne s)
  have h3 : 3 ≤ (wordsV s).length → ∀ x0 x1, (wordsV s)[0]? = some x0 → (wordsV s)[1]? = some x1 → x0.length + x1.length + 2 ≤ s.length := by
    intro h x0 x1 h0 h1
    have ht : (cutV 32 s).2.2 = true := by
      cases hh : (cutV 32 s).2.2 with
      | true => rfl
      | false => have := (words_two s).2 hh; omega
    have ht2 : (cutV 32 (cutV 32 s).2.1).2.2 = true := by
      cases hh : (cutV 32 (cutV 32 s).2.1).2.2 with
      | true => rfl
      | false => have := (words_many s ht).2 hh; omega
    rw [words_0] at h0
    rw [words_1 s ht] at h1
    injection h0 with h0
    injection h1 with h1
    have e1 := congrArg List.length ((cutV_len 32 s).2.2.1 ht)
    have e2 := congrArg List.length ((cutV_len 32 (cutV 32 s).2.1).2.2.1 ht2)
    rw [List.length_append, List.length_cons] at e1 e2
    rw [h0] at e1
    rw [h1] at e2
    omega
  obtain ⟨ws, hws'⟩ : ∃ ws, wordsV s = ws := ⟨_, rfl⟩
  rw [hws'] at SP hws hw1 hV h3
  have lS := strLen s
  have hS1 : ∀ k, (Str s).extract k s.length = Str (s.drop k) := ext_drop s
  have hS2 : (Str s).size = s.length := Str.size s
  obtain ⟨S, hS⟩ : ∃ S, Str s = S := ⟨_, rfl⟩
  rw [hS] at SP lS hS2 ⊢
  simp only [hS] at hS1
  have HSP := Lib.hid SP
  have H0 := Lib.hid (And.intro F0 (And.intro C0 (And.intro hws (And.intro hV (And.intro h3 (And.intro hS1 hS2))))))
  clear SP F0 C0 hws hV hws' hS h3 hS1 hS2
  go_enter Tryd.func37, Tryd.ntmps37
  go_wp2_with fail
  refine HSP.out.mono ?_
  clear HSP
  rintro e w1 ⟨v, rfl, ⟨h, ho, hr⟩, f1⟩
  obtain ⟨ao, cap, rfl, hao, _⟩ := hr.val
  have hne : ws ≠ [] := by rintro rfl; simp at hw1
  obtain rfl := hao hne
  clear hao
  have C1 := H0.out.2.1.keep0 f1
  obtain ⟨g, hgg⟩ : ∃ g, w.heap.size = g := ⟨_, rfl⟩
  have gw : w.heap.size ≤ g := by omega
  rw [hgg] at C1
  rw [hgg]
  clear hgg
  have F1 := Lib.hid (And.intro (H0.out.1.trans0 f1) (And.intro C1 hr))
  have lw : ∀ (ty : TypeId) (W : World), Sem.run Tryd.prog (Builtin.len_ #[55] ty #[.slice (some ⟨h, ho, none⟩) ws.length cap]) W = .ok (.int .i64 ws.length) W := lenS hr
  clear f1 C1 hr
  have NO : eventV s = none → ∀ (W : World) (tmps : Array Value), Fr [] w1 W → tmps[2]?.getD undef = .pointer (some ⟨g, 0, none⟩) → tmps[3]?.getD undef = .bool false → bodyPost Tryd.prog Tryd.f37 (fun e w' => EventR s e ∧ Fr [] w w') Exit.ret { tmps := tmps, defers := [] } (set8 W g noEvent) := by
    intro hno W tmps hF h2 h3
    exact revent_door w _ tmps g noEvent s false h2 h3 ((F1.out.2.1.keep0 hF).set8 noEvent) ((F1.out.1.trans0 hF).set8 (.inr gw) noEvent) (by rw [hno]; rfl) (fun q hq => by rw [hno] at hq; cases hq)
  have YES : ∀ e, eventV s = some e → ∀ (W : World) (tmps : Array Value), Fr [] w1 W → tmps[2]?.getD undef = .pointer (some ⟨g, 0, none⟩) → tmps[3]?.getD undef = .bool true → bodyPost Tryd.prog Tryd.f37 (fun e w' => EventR s e ∧ Fr [] w w') Exit.ret { tmps := tmps, defers := [] } (set8 W g e) := by
    intro e hyes W tmps hF h2 h3
    exact revent_door w _ tmps g e s true h2 h3 ((F1.out.2.1.keep0 hF).set8 e) ((F1.out.1.trans0 hF).set8 (.inr gw) e) (by rw [hyes]; rfl) (fun q hq => by rw [hyes] at hq; injection hq)
  have HNO := Lib.hid NO
  have HYES := Lib.hid YES
  clear NO YES
  by_cases h2 : ws.length < 2
  · have HN := Lib.hid (show eventV s = none by rw [H0.out.2.2.2.1]; unfold eventW; rw [if_pos h2])
    obtain ⟨⟨g0, g1, g2, g3, g4, g5, g6, g7⟩, ⟨z0, z1, z2, z3, z4, z5, z6, z7⟩⟩ := F1.out.2.1.ev
    go_wp2
    exact HNO.out HN.out _ _ (Fr.refl _ _) rfl rfl
  · obtain ⟨x0, hx0⟩ := at_of ws (k := 0) (by omega)
    obtain ⟨x1, hx1⟩ := at_of ws (k := 1) (by omega)
    have i0 : ∀ W, Sem.run Tryd.prog (Instr.indexAt 55 (.slice (some ⟨h, ho, none⟩) ws.length cap) (.int .i64 0)) W = .ok (.pointer (some ⟨h, ho, none⟩)) W := idxS F1.out.2.2 (k := 0) (by omega)
    have i1 : ∀ W, Sem.run Tryd.prog (Instr.indexAt 55 (.slice (some ⟨h, ho, none⟩) ws.length cap) (.int .i64 1)) W = .ok (.pointer (some ⟨h, ho + 1, none⟩)) W := idxS F1.out.2.2 (k := 1) (by omega)
    have c1 := cellS F1.out.2.2 hx1
    have CC : ∀ W, Fr [] w1 W → W.cell? ⟨h, ho, none⟩ = some (.string (Str x0)) ∧ W.cell? ⟨h, ho + 1, none⟩ = some (.string (Str x1)) := fun W hF =>
      have hr := F1.out.2.2.keep0 hF
      ⟨cellS hr hx0, cellS hr hx1⟩
    have hV : eventV s = (numB 9223372036854775808 x1).bind fun n => if x0 = wStep ∧ ws.length = 2 then some ⟨2, n, noCall, 0⟩ else if x0 = wTick ∧ ws.length = 2 then some ⟨3, 0, noCall, n⟩ else if x0 ≠ wCall ∨ ws.length < 3 then none else (callV (s.drop (6 + x1.length))).map fun c => ⟨1, n, c, 0⟩ := by
      rw [H0.out.2.2.2.1]
      unfold eventW
      rw [if_neg h2, hx0, hx1]
      simp
    have P1 := fun W => small_any x1 (Nat.le_trans (H0.out.2.2.1 x1 (List.mem_of_getElem? hx1)) hs) W
    have hlx := H0.out.2.2.2.2.1
    have lx := strLen x1
    have eqw : ∀ x : List UInt8, Str x0 = Str x ↔ x0 = x := fun x => ⟨fun h => by have := congrArg (fun b => b.data.toList) h; simpa [Str] using this, fun h => by rw [h]⟩
    obtain ⟨SW, hSW⟩ : ∃ Y, Str x0 = Y := ⟨_, rfl⟩
    obtain ⟨SN, hSN⟩ : ∃ Y, Str x1 = Y := ⟨_, rfl⟩
    rw [hSN] at c1 P1 lx
    simp only [hSW, hSN] at CC
    simp only [hSW] at eqw
    generalize hn : numB 9223372036854775808 x1 = o at *
    have HL := Lib.hid (And.intro hV (And.intro CC (And.intro eqw (fun h => hlx h x0 x1 hx0 hx1))))
    have HP1 := Lib.hid P1
    clear hV P1 CC eqw hx0 hx1 hSW hSN hlx hn
    go_wp2_with fail
    refine (HP1.out _).mono ?_
    clear HP1
    rintro e w2 ⟨rfl, f2⟩
    obtain ⟨⟨g0, g1, g2, g3, g4, g5, g6, g7⟩, ⟨z0, z1, z2, z3, z4, z5, z6, z7⟩⟩ := (F1.out.2.1.keep0 f2).ev
    obtain ⟨c0, c1'⟩ := HL.out.2.1 w2 f2
    have F2 := Lib.hid f2
    clear f2 c1
    cases o with
    | none =>
      have HN := Lib.hid (show eventV s = none by rw [HL.out.1]; rfl)
      simp only [Option.getD_none, Option.isSome_none]
      clear i0 i1 c0 c1'
      go_wp2
      exact HNO.out HN.out _ _ F2.out rfl rfl
    | some n =>
      have HV := Lib.hid HL.out.1
      rw [Option.bind_some] at HV
      simp only [Option.getD_some, Option.isSome_some]
      by_cases hst : x0 = wStep
      · obtain rfl : SW = ⟨#[115, 116, 101, 112]⟩ := (HL.out.2.2.1 wStep).2 hst
        by_cases hl : ws.length = 2
        · have hl2 : ((ws.length : Int) == 2) = true := by simp; omega
          have HN := Lib.hid (show eventV s = some ⟨2, n, noCall, 0⟩ by rw [HV.out, if_pos ⟨hst, hl⟩])
          clear hst hl
          go_wp2
          exact HYES.out _ HN.out _ _ F2.out rfl rfl
        · have hl2 : ((ws.length : Int) == 2) = false := by simp; omega
          have HN := Lib.hid (show eventV s = none by rw [HV.out, if_neg (fun h => hl h.2), if_neg (fun h => hl h.2), if_pos (.inl (by rw [hst]; decide))])
          clear hst hl
          go_wp2
          exact HNO.out HN.out _ _ F2.out rfl rfl
      · have hq1 : (SW.toList == [115, 116, 101, 112]) = false := by simpa using (Lib.bytes_beq_false_iff SW ⟨#[115, 116, 101, 112]⟩).2 (fun e => hst ((HL.out.2.2.1 wStep).1 e))
        by_cases htk : x0 = wTick
        · obtain rfl : SW = ⟨#[116, 105, 99, 107]⟩ := (HL.out.2.2.1 wTick).2 htk
          by_cases hl : ws.length = 2
          · have hl2 : ((ws.length : Int) == 2) = true := by simp; omega
            have HN := Lib.hid (show eventV s = some ⟨3, 0, noCall, n⟩ by rw [HV.out, if_neg (fun h => hst h.1), if_pos ⟨htk, hl⟩])
            clear hst htk hl
            go_wp2
            exact HYES.out _ HN.out _ _ F2.out rfl rfl
          · have hl2 : ((ws.length : Int) == 2) = false := by simp; omega
            have HN := Lib.hid (show eventV s = none by rw [HV.out, if_neg (fun h => hl h.2), if_neg (fun h => hl h.2), if_pos (.inl (by rw [htk]; decide))])
            clear hst htk hl
            go_wp2
            exact HNO.out HN.out _ _ F2.out rfl rfl
        · have hq2 : (SW.toList == [116, 105, 99, 107]) = false := by simpa using (Lib.bytes_beq_false_iff SW ⟨#[116, 105, 99, 107]⟩).2 (fun e => htk ((HL.out.2.2.1 wTick).1 e))
          by_cases hc : x0 = wCall
          · obtain rfl : SW = ⟨#[99, 97, 108, 108]⟩ := (HL.out.2.2.1 wCall).2 hc
            by_cases hl : ws.length < 3
            · have hl2 : ((ws.length : Int) < 3) := by omega
              have HN := Lib.hid (show eventV s = none by rw [HV.out, if_neg (fun h => hst h.1), if_neg (fun h => htk h.1), if_pos (.inr hl)])
              clear hst htk hl hc
              go_wp2
              exact HNO.out HN.out _ _ F2.out rfl rfl
            · have hl2 : ¬ ((ws.length : Int) < 3) := by omega
              have HN := Lib.hid (show eventV s = (callV (s.drop (6 + x1.length))).map fun c => ⟨1, n, c, 0⟩ by rw [HV.out, if_neg (fun h => hst h.1), if_neg (fun h => htk h.1), if_neg (by rintro (h | h); exact h hc; exact hl h)])
              have hb := HL.out.2.2.2 (by omega)
              rw [hc] at hb
              simp only [wCall, List.length_cons, List.length_nil] at hb
              have hsz := H0.out.2.2.2.2.2.2
              have hex := H0.out.2.2.2.2.2.1 (6 + x1.length)
              have C := fun W => refCallParse_any (s.drop (6 + x1.length)) (by simp; omega) W
              obtain ⟨ST, hST⟩ : ∃ Y, Str (s.drop (6 + x1.length)) = Y := ⟨_, rfl⟩
              rw [hST] at C hex
              have HC := Lib.hid C
              clear hst htk hl hc C hST hq1 hq2
              go_wp2_with fail
              refine (HC.out _).mono ?_
              clear HC
              rintro e w4 ⟨rfl, f4⟩
              have F4 := Lib.hid (And.intro (F1.out.1.trans0 (F2.out.trans0 f4)) (F1.out.2.1.keep0 (F2.out.trans0 f4)))
              clear f4 g0 g1 g2 g3 g4 g5 g6 g7 z0 z1 z2 z3 z4 z5 z6 z7 i0 i1 c0 c1' lw lx lS hex hsz
              cases hr : callV (s.drop (6 + x1.length)) with
              | none =>
                have HN2 := Lib.hid (show eventV s = none by rw [HN.out, hr]; rfl)
                have A4 : Fr [] w4 (w4.alloc (.cells #[.int .i64 0, .int .i64 0, .int .u64 0, .int .u64 0, .int .i64 0] 24)) := (Fr.refl _ _).alloc _
                have F5 := Lib.hid (And.intro (F4.out.1.trans0 A4) (F4.out.2.keep0 A4))
                obtain ⟨⟨g0, g1, g2, g3, g4, g5, g6, g7⟩, ⟨z0, z1, z2, z3, z4, z5, z6, z7⟩⟩ := F5.out.2.ev
                clear A4 hr
                simp only [Option.getD_none, Option.isSome_none, callAgg, noCall]
                go_wp2
                exact revent_door w _ _ g ⟨1, n, noCall, 0⟩ s false rfl rfl (F5.out.2.set8 ⟨1, n, noCall, 0⟩) (F5.out.1.set8 (.inr gw) ⟨1, n, noCall, 0⟩) (by rw [HN2.out]; rfl) (fun q hq => by rw [HN2.out] at hq; cases hq)
              | some c =>
                have HN2 := Lib.hid (show eventV s = some ⟨1, n, c, 0⟩ by rw [HN.out, hr]; rfl)
                have A4 : Fr [] w4 (w4.alloc (.cells #[.int .i64 c.kind, .int .i64 c.deadline, .int .u64 c.draw, .int .u64 c.handle, .int .i64 c.count] 24)) := (Fr.refl _ _).alloc _
                have F5 := Lib.hid (And.intro (F4.out.1.trans0 A4) (F4.out.2.keep0 A4))
                obtain ⟨⟨g0, g1, g2, g3, g4, g5, g6, g7⟩, ⟨z0, z1, z2, z3, z4, z5, z6, z7⟩⟩ := F5.out.2.ev
                clear A4 hr
                simp only [Option.getD_some, Option.isSome_some, callAgg]
                go_wp2
                exact revent_door w _ _ g ⟨1, n, c, 0⟩ s true rfl rfl (F5.out.2.set8 ⟨1, n, c, 0⟩) (F5.out.1.set8 (.inr gw) ⟨1, n, c, 0⟩) (by rw [HN2.out]; rfl) (fun q hq => by rw [HN2.out] at hq; injection hq)
          · have hq3 : (SW.toList == [99, 97, 108, 108]) = false := by simpa using (Lib.bytes_beq_false_iff SW ⟨#[99, 97, 108, 108]⟩).2 (fun e => hc ((HL.out.2.2.1 wCall).1 e))
            have HN := Lib.hid (show eventV s = none by rw [HV.out, if_neg (fun h => hst h.1), if_neg (fun h => htk h.1), if_pos (.inl hc)])
            clear hst htk hc
            go_wp2
            exact HNO.out HN.out _ _ F2.out rfl rfl
end Go.Proofs.YtkdmodanfcpcfaaDoor
