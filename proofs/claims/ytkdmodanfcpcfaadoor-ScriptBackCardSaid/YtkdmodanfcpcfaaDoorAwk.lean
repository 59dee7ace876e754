/- DERIVED. Chapter 42: Parse at whatever text, of both; the example; ScriptReads. -/
import Derived.Test.YtkdmodanfcpcfaaDoorParse
import Derived.Test.YtkdmodanfcpcfaaDoorRParseW
import Derived.Test.YtkdmodanfcpcfaaDoorSameE
namespace Go.Proofs.YtkdmodanfcpcfaaDoor
open Go.RowKit

theorem parse_any (s : List UInt8) (w : World) (hg : Glob w) :
    Calls Tryd.prog 15 #[.string (Str s)] w fun e w' => ScriptE s e w' ∧ Fr [] w w' := by
  by_cases h : s.length ≤ 262144
  · exact parse_ok s h w hg
  · have hV : scriptV s = .bad 0 10 := by unfold scriptV; rw [if_pos (by omega)]
    have HV := Lib.hid hV
    have lS := strLen s
    obtain ⟨S, hS⟩ : ∃ S, Str s = S := ⟨_, rfl⟩
    rw [hS] at lS ⊢
    have hl : (262144 : Int) < s.length := by omega
    have F0 : Fr [] w ((((w.alloc (.cells #[.int .i64 0, .int .i64 0, .int .i64 0, .int .u64 0] 38)).alloc (.cells #[.slice none 0 0] 39)).alloc (.cells #[.int .i64 0] 3)).alloc (.cells #[.int .i64 10] 25)) := ((((Fr.refl _ _).alloc _).alloc _).alloc _).alloc _
    have HF := Lib.hid F0
    clear hV hS h F0
    go_enter Tryd.func15, Tryd.ntmps15
    go_wp2
    refine bodyPost_ret (v := .tuple #[planAgg ⟨0, 0, 0, 0⟩, .slice none 0 0, .int .i64 0, .int .i64 10]) (by simp [results, Tryd.results15, go_sem, planAgg]) rfl ⟨?_, HF.out⟩
    unfold ScriptE
    rw [HV.out]
    rfl
theorem refParse_any (s : List UInt8) (w : World) :
    Calls Tryd.prog 16 #[.string (Str s)] w fun e w' => ScriptE s e w' ∧ Fr [] w w' := by
  by_cases h : s.length ≤ 262144
  · exact refParse_ok s h w
  · have hV : scriptV s = .bad 0 10 := by unfold scriptV; rw [if_pos (by omega)]
    have HV := Lib.hid hV
    have lS := strLen s
    obtain ⟨S, hS⟩ : ∃ S, Str s = S := ⟨_, rfl⟩
    rw [hS] at lS ⊢
    have hl : (262144 : Int) < s.length := by omega
    have HF := Lib.hid ((Fr.refl [] w).alloc (.cells #[.int .i64 0, .int .i64 0, .int .i64 0, .int .u64 0] 38))
    clear hV hS h
    go_enter Tryd.func16, Tryd.ntmps16
    go_wp2
    refine bodyPost_ret (v := .tuple #[planAgg ⟨0, 0, 0, 0⟩, .slice none 0 0, .int .i64 0, .int .i64 10]) (by simp [results, Tryd.results16, go_sem, planAgg]) rfl ⟨?_, HF.out⟩
    unfold ScriptE
    rw [HV.out]
    rfl

def awakeT : List UInt8 := [112, 108, 97, 110, 32, 49, 32, 49, 32, 49, 32, 48, 10, 99, 97, 108, 108, 32, 48, 32, 116, 105, 100, 121, 10, 115, 116, 101, 112, 32, 48, 10, 116, 105, 99, 107, 32, 53, 10]
theorem num1 {B d : Nat} (h : d < 10) (hB : d < B) : numB B [UInt8.ofNat (48 + d)] = some d := numB_some.2 ⟨(Lib.decDigits_one h).symm, hB⟩
theorem num_0 {B : Nat} (hB : 0 < B) : numB B [48] = some 0 := num1 (d := 0) (by omega) hB
theorem num_1 {B : Nat} (hB : 1 < B) : numB B [49] = some 1 := num1 (d := 1) (by omega) hB
theorem num_5 {B : Nat} (hB : 5 < B) : numB B [53] = some 5 := num1 (d := 5) (by omega) hB
theorem plan1 : planV [112, 108, 97, 110, 32, 49, 32, 49, 32, 49, 32, 48] = some ⟨1, 1, 1, 0⟩ := by
  unfold planV
  rw [show wordsV [112, 108, 97, 110, 32, 49, 32, 49, 32, 49, 32, 48] = [[112, 108, 97, 110], [49], [49], [49], [48]] by decide]
  simp only [planW]
  rw [if_pos (by decide), num_1 (by omega), num_0 (by omega)]
  simp only [Option.bind_some]
  rw [if_pos (by decide)]
  rfl
theorem callTidy : callV [116, 105, 100, 121] = some ⟨6, 0, 0, 0, 0⟩ := by
  unfold callV
  rw [show wordsV [116, 105, 100, 121] = [[116, 105, 100, 121]] by decide]
  simp [callR, shapeW, shapeF, fillV]
theorem ev1 : eventV [99, 97, 108, 108, 32, 48, 32, 116, 105, 100, 121] = some ⟨1, 0, ⟨6, 0, 0, 0, 0⟩, 0⟩ := by
  show eventU [99, 97, 108, 108] [48] [116, 105, 100, 121] true = _
  unfold eventU
  rw [num_0 (by omega), Option.bind_some, if_neg (by decide), if_neg (by decide), if_neg (by decide), if_pos (by decide), callTidy]
  rfl
theorem ev2 : eventV [115, 116, 101, 112, 32, 48] = some ⟨2, 0, noCall, 0⟩ := by
  show eventU [115, 116, 101, 112] [48] [] false = _
  unfold eventU
  rw [num_0 (by omega), Option.bind_some, if_neg (by decide), if_pos (by decide)]
  rfl
theorem ev3 : eventV [116, 105, 99, 107, 32, 53] = some ⟨3, 0, noCall, 5⟩ := by
  show eventU [116, 105, 99, 107] [53] [] false = _
  unfold eventU
  rw [num_5 (by omega), Option.bind_some, if_neg (by decide), if_neg (by decide), if_pos (by decide)]
  rfl
theorem awakeV : scriptV awakeT = .good ⟨1, 1, 1, 0⟩ [⟨1, 0, ⟨6, 0, 0, 0, 0⟩, 0⟩, ⟨2, 0, noCall, 0⟩, ⟨3, 0, noCall, 5⟩] := by
  unfold scriptV
  rw [if_neg (by decide), go_plan [] 0 (by decide) (by decide) (by decide)]
  rw [show (cutV 10 awakeT).1 = [112, 108, 97, 110, 32, 49, 32, 49, 32, 49, 32, 48] by decide, plan1]
  dsimp only
  rw [show nextL awakeT = [99, 97, 108, 108, 32, 48, 32, 116, 105, 100, 121, 10, 115, 116, 101, 112, 32, 48, 10, 116, 105, 99, 107, 32, 53, 10] by decide]
  rw [go_event _ [] 1 (by decide) (by decide) (by decide)]
  rw [show (cutV 10 [99, 97, 108, 108, 32, 48, 32, 116, 105, 100, 121, 10, 115, 116, 101, 112, 32, 48, 10, 116, 105, 99, 107, 32, 53, 10]).1 = [99, 97, 108, 108, 32, 48, 32, 116, 105, 100, 121] by decide, ev1]
  dsimp only
  rw [show nextL [99, 97, 108, 108, 32, 48, 32, 116, 105, 100, 121, 10, 115, 116, 101, 112, 32, 48, 10, 116, 105, 99, 107, 32, 53, 10] = [115, 116, 101, 112, 32, 48, 10, 116, 105, 99, 107, 32, 53, 10] by decide]
  rw [go_event _ _ 2 (by decide) (by decide) (by decide)]
  rw [show (cutV 10 [115, 116, 101, 112, 32, 48, 10, 116, 105, 99, 107, 32, 53, 10]).1 = [115, 116, 101, 112, 32, 48] by decide, ev2]
  dsimp only
  rw [show nextL [115, 116, 101, 112, 32, 48, 10, 116, 105, 99, 107, 32, 53, 10] = [116, 105, 99, 107, 32, 53, 10] by decide]
  rw [go_event _ _ 3 (by decide) (by decide) (by decide)]
  rw [show (cutV 10 [116, 105, 99, 107, 32, 53, 10]).1 = [116, 105, 99, 107, 32, 53] by decide, ev3]
  dsimp only
  rw [show nextL [116, 105, 99, 107, 32, 53, 10] = [] by decide, go_nil]
  rfl

set_option maxRecDepth 20000 in
set_option maxHeartbeats 2000000 in
theorem awake42 (w : World) (hg : Glob w) : Calls Tryd.prog 14 #[] w fun e w' => e = .returned (.bool true) ∧ Fr [] w w' := by
  have C := parse_any awakeT w hg
  unfold ScriptE at C
  rw [awakeV] at C
  simp only [planAgg] at C
  have HC := Lib.hid C
  clear C
  go_enter Tryd.func14, Tryd.ntmps14
  go_wp2_with fail
  refine (show Calls Tryd.prog 15 #[.string ⟨awakeT.toArray⟩] w _ from HC.out).mono ?_
  clear HC
  rintro e w1 ⟨⟨v, rfl, b, o, hr⟩, f1⟩
  have lv := lenE hr
  have i0 : ∀ W, Sem.run Tryd.prog (Instr.indexAt 39 v (.int .i64 0)) W = .ok (.pointer (some ⟨b, o, none⟩)) W := idxE hr (k := 0) (by simp)
  have i2 : ∀ W, Sem.run Tryd.prog (Instr.indexAt 39 v (.int .i64 2)) W = .ok (.pointer (some ⟨b, o + 16, none⟩)) W := idxE hr (k := 2) (by simp)
  have fa : Fr [] w1 (w1.alloc (.cells #[.int .i64 1, .int .i64 1, .int .i64 1, .int .u64 0] 38)) := (Fr.refl _ _).alloc _
  have c0 : (w1.alloc (.cells #[.int .i64 1, .int .i64 1, .int .i64 1, .int .u64 0] 38)).cell? ⟨b, o + 2, none⟩ = some (.int .i64 6) := (cellE (hr.keep0 fa) (k := 0) rfl).2.2.1
  have c2 : (w1.alloc (.cells #[.int .i64 1, .int .i64 1, .int .i64 1, .int .u64 0] 38)).cell? ⟨b, o + 16 + 7, none⟩ = some (.int .i64 5) := (cellE (hr.keep0 fa) (k := 2) rfl).2.2.2.2.2.2.2
  have HF := Lib.hid (f1.trans0 fa)
  clear hr f1 fa
  go_wp2
  go_ret
  exact ⟨rfl, HF.out⟩

theorem scriptE_form (s : List UInt8) : ∃ (p : PlanA) (l : List EventA) (line k : Int), ∀ e w', ScriptE s e w' → ∃ v, e = .returned (.tuple #[.agg #[.int .i64 p.threads, .int .i64 p.slots, .int .i64 p.levels, .int .u64 p.gen], v, .int .i64 line, .int .i64 k]) ∧ Rd encE w' v l := by
  cases hr : scriptV s with
  | bad line k =>
    refine ⟨⟨0, 0, 0, 0⟩, [], line, k, fun e w' h => ?_⟩
    unfold ScriptE at h
    rw [hr] at h
    exact ⟨_, h, 0, 0, ⟨none, 0, rfl, by simp, by simp, by simp⟩, by simp, by simp⟩
  | good p l =>
    refine ⟨p, l, 0, 0, fun e w' h => ?_⟩
    unfold ScriptE at h
    rw [hr] at h
    exact h
set_option maxRecDepth 20000 in
set_option maxHeartbeats 2000000 in
/-- ScriptReads, behind its guard -/
theorem reads_core (s : List UInt8) (hs : s.length ≤ 20000 ∨ 262144 < s.length) (w : World) (hg : Glob w) :
    Calls Tryd.prog 4 #[.string (Str s)] w fun e w' => e = .returned (.bool true) ∧ Fr [] w w' := by
  obtain ⟨p, l, line, k, hf⟩ := scriptE_form s
  have C1 : Calls Tryd.prog 15 #[.string (Str s)] w fun e w' => (∃ v, e = .returned (.tuple #[.agg #[.int .i64 p.threads, .int .i64 p.slots, .int .i64 p.levels, .int .u64 p.gen], v, .int .i64 line, .int .i64 k]) ∧ Rd encE w' v l) ∧ Fr [] w w' := (parse_any s w hg).mono fun e w' h => ⟨hf e w' h.1, h.2⟩
  have C2 : ∀ W, Calls Tryd.prog 16 #[.string (Str s)] W fun e w' => (∃ v, e = .returned (.tuple #[.agg #[.int .i64 p.threads, .int .i64 p.slots, .int .i64 p.levels, .int .u64 p.gen], v, .int .i64 line, .int .i64 k]) ∧ Rd encE w' v l) ∧ Fr [] W w' := fun W => (refParse_any s W).mono fun e w' h => ⟨hf e w' h.1, h.2⟩
  have lS := strLen s
  obtain ⟨S, hS⟩ : ∃ S, Str s = S := ⟨_, rfl⟩
  rw [hS] at lS C1 ⊢
  simp only [hS] at C2
  clear hS hf
  have HG := Lib.hid hg
  clear hg
  have HC1 := Lib.hid C1
  have HC2 := Lib.hid C2
  clear C1 C2
  rcases hs with hs | hs
  all_goals
    have h1 : ((20000 : Int) < s.length) ↔ ¬ (s.length ≤ 20000) := by omega
    have h2 : ((s.length : Int) ≤ 262144) ↔ (s.length ≤ 262144) := by omega
    have h3 : ¬ s.length ≤ 262144 ∨ s.length ≤ 20000 := by omega
    try have h4 : ¬ ((20000 : Int) < s.length) := by omega
    try have h5 : ((20000 : Int) < s.length) := by omega
    try have h6 : ¬ ((s.length : Int) ≤ 262144) := by omega
    clear h1 h2 h3
    go_enter Tryd.func4, Tryd.ntmps4
    go_wp2_with fail
    refine HC1.out.mono ?_
    rintro e w1 ⟨⟨v, rfl, hv⟩, f1⟩
    have fa := f1.alloc (.cells #[.int .i64 p.threads, .int .i64 p.slots, .int .i64 p.levels, .int .u64 p.gen] 38)
    have p3 := PB.new w1 p
    have HV := Lib.hid (And.intro (hv.keep0 ((Fr.refl [] _).alloc (.cells #[.int .i64 p.threads, .int .i64 p.slots, .int .i64 p.levels, .int .u64 p.gen] 38))) fa)
    clear hv f1 fa
    go_upto_region 4 with (fail)
    obtain ⟨g3, h3⟩ : ∃ g, w1.heap.size = g := ⟨_, rfl⟩
    obtain ⟨U, hU⟩ : ∃ U, w1.alloc (.cells #[.int .i64 p.threads, .int .i64 p.slots, .int .i64 p.levels, .int .u64 p.gen] 38) = U := ⟨_, rfl⟩
    rw [hU] at p3 HV
    rw [h3] at p3
    rw [hU, h3]
    clear hU h3
    have HP := Lib.hid p3
    clear p3
    go_wp2_with fail
    refine (HC2.out _).mono ?_
    rintro e w2 ⟨⟨u, rfl, hu⟩, f2⟩
    have fb := f2.alloc (.cells #[.int .i64 p.threads, .int .i64 p.slots, .int .i64 p.levels, .int .u64 p.gen] 38)
    have p7 := PB.new w2 p
    have fc := (Fr.refl [] w2).alloc (.cells #[.int .i64 p.threads, .int .i64 p.slots, .int .i64 p.levels, .int .u64 p.gen] 38)
    have HU := Lib.hid (And.intro (hu.keep0 fc) (And.intro (HV.out.1.keep0 fb) (And.intro (HV.out.2.trans0 fb) (HP.out.keep0 fb))))
    clear hu f2 fb fc
    go_upto_region 5 with (fail)
    obtain ⟨g7, h7⟩ : ∃ g, w2.heap.size = g := ⟨_, rfl⟩
    obtain ⟨V, hV⟩ : ∃ V, w2.alloc (.cells #[.int .i64 p.threads, .int .i64 p.slots, .int .i64 p.levels, .int .u64 p.gen] 38) = V := ⟨_, rfl⟩
    rw [hV] at p7 HU
    rw [h7] at p7
    rw [hV, h7]
    clear hV h7
    have a0 := HU.out.2.2.2.c0
    have a1 := HU.out.2.2.2.c1
    have a2 := HU.out.2.2.2.c2
    have a3 := HU.out.2.2.2.c3
    have b0 := p7.c0
    have b1 := p7.c1
    have b2 := p7.c2
    have b3 := p7.c3
    have HSN := Lib.hid (same_any v u l V HU.out.2.1 HU.out.1)
    have HAW := Lib.hid (fun W hW => awake42 W (HG.out.keep hW))
    clear p7
    go_wp2_with (first | (go_at_call 17; refine HSN.out.mono ?_; rintro e w3 ⟨rfl, f3⟩; have F3 := HU.out.2.2.1.trans0 f3) | (go_at_call 14; refine (HAW.out _ F3).mono ?_; rintro e w4 ⟨rfl, f4⟩))
    go_ret
    exact ⟨rfl, F3.trans0 f4⟩
set_option maxRecDepth 20000 in
set_option maxHeartbeats 2000000 in
theorem reads_any (s : List UInt8) (w : World) (hg : Glob w) :
    Calls Tryd.prog 4 #[.string (Str s)] w fun e w' => e = .returned (.bool true) ∧ Fr [] w w' := by
  by_cases h : s.length ≤ 20000 ∨ 262144 < s.length
  · exact reads_core s h w hg
  · have lS := strLen s
    obtain ⟨S, hS⟩ : ∃ S, Str s = S := ⟨_, rfl⟩
    rw [hS] at lS ⊢
    have h1 : (20000 : Int) < s.length := by omega
    have h2 : (s.length : Int) ≤ 262144 := by omega
    have HAW := Lib.hid (awake42 w hg)
    clear hS h hg
    go_enter Tryd.func4, Tryd.ntmps4
    go_wp2_with fail
    refine HAW.out.mono ?_
    rintro e w1 ⟨rfl, f1⟩
    go_wp2
    go_ret
    exact ⟨rfl, f1⟩
end Go.Proofs.YtkdmodanfcpcfaaDoor
