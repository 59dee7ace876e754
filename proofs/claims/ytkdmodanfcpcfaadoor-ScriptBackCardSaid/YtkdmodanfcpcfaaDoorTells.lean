/- DERIVED. Chapter 42: Text, of the program. -/
import Derived.Test.YtkdmodanfcpcfaaDoorRHead
import Derived.Test.YtkdmodanfcpcfaaDoorEventV
import Derived.Test.YtkdmodanfcpcfaaDoorSameE
import Derived.Test.YtkdmodanfcpcfaaDoorBld
import Derived.Test.YtkdmodanfcpcfaaDoorAwk
namespace Go.Proofs.YtkdmodanfcpcfaaDoor
open Go.RowKit

theorem Fr.below_of {a w w' : World} {b : Nat} (h : Fr [] a w) (k : Below b w w') (hb : a.heap.size ≤ b) : Fr [] a w' :=
  ⟨k.os.trans h.os, k.tape.trans h.tape, k.output.trans h.output, Nat.le_trans h.size k.size, fun i hi hn => (k.block i (by omega)).trans (h.block i hi hn)⟩
theorem textV_bad {p : PlanA} (l : List EventA) (h : p.right = false) : textV p l = ([], 1) := by unfold textV; rw [h]; rfl
theorem textV_no {p : PlanA} {l : List EventA} (h : p.right = true) {x : EventA} (hx : x ∈ l) (h2 : lineV x = none) : textV p l = ([], 2) := by
  have hn : ¬ allV l := fun a => by have := a x hx; rw [h2] at this; cases this
  unfold textV; rw [if_pos h, if_neg hn]
theorem textV_yes {p : PlanA} {l : List EventA} (h : p.right = true) (ha : ∀ e ∈ l, (lineV e).isSome = true) (hz : (planT p ++ linesV l).length ≤ 262144) : textV p l = (planT p ++ linesV l, 0) := by
  unfold textV; rw [if_pos h, if_pos (show allV l from ha), if_neg (by omega)]
theorem linesV_len (l : List EventA) (h : ∀ e ∈ l, e.ok) : (linesV l).length ≤ 300 * l.length := by
  induction l with
  | nil => simp [linesV]
  | cons a r ih =>
    have h1 := lineV_len (h a (by simp))
    have h2 := ih (fun e he => h e (by simp [he]))
    simp only [linesV, List.flatMap_cons, List.length_append, List.length_cons] at h2 ⊢
    omega
set_option maxRecDepth 20000 in
set_option maxHeartbeats 4000000 in
theorem text_any (p : PlanA) (hp : p.ok) (v : Value) (l : List EventA) (hl : l.length ≤ 300) (hok : ∀ e ∈ l, e.ok) (w : World) (hg : Glob w) (hv : Rd encE w v l) :
    Calls Tryd.prog 18 #[.agg #[.int .i64 p.threads, .int .i64 p.slots, .int .i64 p.levels, .int .u64 p.gen], v] w fun x w' => x = .returned (.tuple #[.string (Str (textV p l).1), .int .i64 (textV p l).2]) ∧ Fr [] w w' := by
  have F0 : Fr [] w (w.alloc (.cells #[.int .i64 p.threads, .int .i64 p.slots, .int .i64 p.levels, .int .u64 p.gen] 38)) := (Fr.refl _ _).alloc _
  have B0 := Box.new w #[.int .i64 p.threads, .int .i64 p.slots, .int .i64 p.levels, .int .u64 p.gen] 38
  have CR := fun W => right_any p.threads p.slots p.levels p.gen W
  have HH := Lib.hid (fun W hW => head_any p hp W hW)
  have HL := Lib.hid (And.intro hl (And.intro hok (And.intro hg (And.intro hv (planT_len hp)))))
  clear hl hok hp hg
  obtain ⟨b0, o0, hv⟩ := hv
  have lv := lenE hv
  have HV := Lib.hid hv
  have hl3 : l.length ≤ 300 := HL.out.1
  clear hv
  go_enter Tryd.func18, Tryd.ntmps18
  go_wp2_with fail
  refine (CR _).mono ?_
  rintro e w1 ⟨rfl, f1⟩
  clear CR
  cases hr : PlanA.right ⟨p.threads, p.slots, p.levels, p.gen⟩ with
  | false =>
    have hR := Lib.hid (textV_bad (p := p) l hr)
    have FX := Lib.hid (F0.trans0 f1)
    clear f1 F0 B0 hr
    go_wp2
    go_ret2
    exact ⟨by rw [hR.out]; rfl, FX.out⟩
  | true =>
    have FB := f1.alloc (.cells #[.pointer none, .slice none 0 0] 72)
    have B1 := B0.keep0 FB
    have c0 := B1.cell 0
    have c1 := B1.cell 1
    have c2 := B1.cell 2
    have c3 := B1.cell 3
    have hbld := Bld.new w1
    have F1 := F0.trans0 FB
    have hgb : w.heap.size ≤ w1.heap.size := (F0.trans0 f1).size
    clear B0 B1 FB f1 F0
    obtain ⟨b, hb⟩ : ∃ b, w1.heap.size = b := ⟨_, rfl⟩
    rw [hb] at hbld hgb
    have HB := Lib.hid (And.intro F1 (And.intro hbld hgb))
    go_wp2_with fail
    clear hb c0 c1 c2 c3 F1 hbld hgb
    refine (HH.out _ (HL.out.2.2.1.keep HB.out.1)).mono ?_
    rintro e w2 ⟨rfl, f2⟩
    have h2 := HB.out.2.1.keep f2
    have F2 := HB.out.1.trans0 f2
    clear f2
    have HW := wstr_any b [] (planT p) (by have := HL.out.2.2.2.2; simp; omega) w2 h2
    have HF := Lib.hid F2
    go_wp2_with fail
    refine HW.mono ?_
    rintro e w3 ⟨rfl, h3, k3⟩
    have H3 := Lib.hid (And.intro h3 (HF.out.below_of k3 HB.out.2.2))
    clear HW h2 F2 HF h3 k3
    go_wp2
    go_loopw [22] (fun i wr => ∃ k : Nat, k ≤ l.length ∧ i = .int .i64 k ∧ Bld b (planT p ++ linesV (l.take k)) wr ∧ Fr [] w wr ∧ ∀ e ∈ l.take k, (lineV e).isSome = true) (fun i _ => l.length - (intOf i).toNat)
    case atStart => exact ⟨0, by omega, rfl, by simpa [linesV] using H3.out.1, H3.out.2, by simp⟩
    case round =>
      obtain ⟨k, hk, rfl, hrel⟩ := hrel
      by_cases hlt : k < l.length
      · obtain ⟨x, hx⟩ := at_of l hlt
        have i1 := idxE HV.out hlt
        obtain ⟨a0, a1, a2, a3, a4, a5, a6, a7⟩ := cellE (HV.out.keep0 hrel.2.1) hx
        have HR := Lib.hid hrel
        clear hrel
        have hxl := List.mem_of_getElem? hx
        have HX := Lib.hid (And.intro hx (And.intro (HL.out.2.1 x hxl) hxl))
        have FA := HR.out.2.1.alloc (.cells #[.int .i64 x.kind, .int .i64 x.thread, .int .i64 x.call.kind, .int .i64 x.call.deadline, .int .u64 x.call.draw, .int .u64 x.call.handle, .int .i64 x.call.count, .int .i64 x.ticks] 49)
        have LA := line_any x HX.out.2.1 _ (HL.out.2.2.1.keep FA)
        have FA0 := (Fr.refl [] wr).alloc (.cells #[.int .i64 x.kind, .int .i64 x.thread, .int .i64 x.call.kind, .int .i64 x.call.deadline, .int .u64 x.call.draw, .int .u64 x.call.handle, .int .i64 x.call.count, .int .i64 x.ticks] 49)
        have HA := Lib.hid (And.intro FA0 FA)
        clear hx hxl FA FA0
        go_wp2_with fail
        refine LA.mono ?_
        rintro e w5 ⟨rfl, f5⟩
        have HF := Lib.hid (And.intro (HR.out.1.keep (HA.out.1.trans0 f5)) (HA.out.2.trans0 f5))
        clear LA f5 HA a0 a1 a2 a3 a4 a5 a6 a7 i1
        cases hlv : lineV x with
        | none =>
          have hT := Lib.hid (textV_no (p := p) (l := l) hr HX.out.2.2 hlv)
          simp only [Option.getD_none, Option.isSome_none]
          clear hlv
          go_wp2
          go_ret2
          exact ⟨by rw [hT.out]; rfl, HF.out.2⟩
        | some t =>
          have hT := Lib.hid hlv
          have h1 : (planT p ++ linesV (l.take k)).length + t.length ≤ 1000000 := by
            have a := linesV_len (l.take k) (fun e he => HL.out.2.1 e (List.mem_of_mem_take he))
            have c := lineV_len HX.out.2.1
            have d := HL.out.2.2.2.2
            have z := HL.out.1
            rw [hT.out] at c
            simp only [Option.getD_some] at c
            rw [List.length_take] at a
            simp only [List.length_append]
            omega
          have WS := wstr_any b (planT p ++ linesV (l.take k)) t h1 w5 HF.out.1
          clear h1 hlv
          simp only [Option.getD_some, Option.isSome_some]
          go_wp2_with fail
          refine WS.mono ?_
          rintro e w6 ⟨rfl, h6, k6⟩
          have H6 := Lib.hid (And.intro h6 (HF.out.2.below_of k6 HB.out.2.2))
          clear h6 k6 WS
          go_wp2
          go_roundw
          case rel =>
            refine ⟨k + 1, by omega, by go_num, ?_, H6.out.2, ?_⟩
            · have e1 : l.take (k + 1) = l.take k ++ [x] := by rw [List.take_add_one, HX.out.1]; rfl
              have e2 : planT p ++ linesV (l.take (k + 1)) = planT p ++ linesV (l.take k) ++ t := by rw [e1]; simp [linesV, hT.out]
              rw [e2]
              exact H6.out.1
            · have e1 : l.take (k + 1) = l.take k ++ [x] := by rw [List.take_add_one, HX.out.1]; rfl
              rw [e1]
              intro e he
              rcases List.mem_append.1 he with h | h
              · exact HR.out.2.2 e h
              · simp at h; subst h; rw [hT.out]; rfl
          case measure => simp [intOf]; omega
      · have hkl : k = l.length := by omega
        subst hkl
        rw [List.take_length] at hrel
        have hT := Lib.hid (textV_yes (p := p) (l := l) hr hrel.2.2 (by
          have a := linesV_len l HL.out.2.1
          have d := HL.out.2.2.2.2
          have z := HL.out.1
          simp only [List.length_append]
          omega))
        have hz : ¬ ((262144 : Int) < (planT p ++ linesV l).length) := by
          have a := linesV_len l HL.out.2.1
          have d := HL.out.2.2.2.2
          have z := HL.out.1
          simp only [List.length_append]
          omega
        have LN := blen_any b (planT p ++ linesV l) wr hrel.1
        have ST := bstr_any b (planT p ++ linesV l) wr hrel.1
        have HR := Lib.hid hrel
        clear hrel
        obtain ⟨T, hTT⟩ : ∃ T, planT p ++ linesV l = T := ⟨_, rfl⟩
        rw [hTT] at hT LN ST hz
        clear hTT
        go_wp2_with fail
        refine LN.mono ?_
        rintro e w5 ⟨rfl, rfl⟩
        go_wp2_with fail
        refine ST.mono ?_
        rintro e w6 ⟨rfl, k6⟩
        have H6 := Lib.hid (HR.out.2.1.below_of k6 HB.out.2.2)
        go_wp2
        go_ret2
        exact ⟨by rw [hT.out]; rfl, H6.out⟩
end Go.Proofs.YtkdmodanfcpcfaaDoor

/- DERIVED. Chapter 42: Text, of the document's answer. -/
namespace Go.Proofs.YtkdmodanfcpcfaaDoor
open Go.RowKit

set_option maxRecDepth 20000 in
set_option maxHeartbeats 4000000 in
theorem rtext_any (p : PlanA) (hp : p.ok) (v : Value) (l : List EventA) (hl : l.length ≤ 300) (hok : ∀ e ∈ l, e.ok) (w : World) (hv : Rd encE w v l) :
    Calls Tryd.prog 19 #[.agg #[.int .i64 p.threads, .int .i64 p.slots, .int .i64 p.levels, .int .u64 p.gen], v] w fun x w' => x = .returned (.tuple #[.string (Str (textV p l).1), .int .i64 (textV p l).2]) ∧ Fr [] w w' := by
  have CR := fun W => refRight_any p.threads p.slots p.levels p.gen W
  have HH := Lib.hid (fun W => rhead_any p hp W)
  have HL := Lib.hid (And.intro hl (And.intro hok (And.intro hv (planT_len hp))))
  have hl3 : l.length ≤ 300 := hl
  clear hl hok hp
  obtain ⟨b0, o0, hv⟩ := hv
  have lv := lenE hv
  have HV := Lib.hid hv
  clear hv
  have F0 : Fr [] w (w.alloc (.cells #[.int .i64 p.threads, .int .i64 p.slots, .int .i64 p.levels, .int .u64 p.gen] 38)) := (Fr.refl _ _).alloc _
  have B0 := Box.new w #[.int .i64 p.threads, .int .i64 p.slots, .int .i64 p.levels, .int .u64 p.gen] 38
  go_enter Tryd.func19, Tryd.ntmps19
  go_wp2_with fail
  refine (CR _).mono ?_
  rintro e w1 ⟨rfl, f1⟩
  clear CR
  cases hr : PlanA.right ⟨p.threads, p.slots, p.levels, p.gen⟩ with
  | false =>
    have hR := Lib.hid (textV_bad (p := p) l hr)
    have FX := Lib.hid (F0.trans0 f1)
    clear f1 hr F0 B0
    go_wp2
    go_ret2
    exact ⟨by rw [hR.out]; rfl, FX.out⟩
  | true =>
    have F1 := Lib.hid (And.intro (F0.trans0 f1) (And.intro (B0.keep0 f1) hr))
    clear f1 F0 B0 hr
    go_wp2
    go_loopw [6] (fun i wr => ∃ k : Nat, k ≤ l.length ∧ i = .int .i64 k ∧ Fr [] w1 wr ∧ ∀ e ∈ l.take k, (lineV e).isSome = true) (fun i _ => l.length - (intOf i).toNat)
    case atStart => exact ⟨0, by omega, rfl, Fr.refl _ _, by simp⟩
    case round =>
      obtain ⟨k, hk, rfl, hrel⟩ := hrel
      by_cases hlt : k < l.length
      · obtain ⟨x, hx⟩ := at_of l hlt
        have i1 := idxE HV.out hlt
        obtain ⟨a0, a1, a2, a3, a4, a5, a6, a7⟩ := cellE (HV.out.keep0 (F1.out.1.trans0 hrel.1)) hx
        have HR := Lib.hid hrel
        have hxl := List.mem_of_getElem? hx
        have HX := Lib.hid (And.intro hx (And.intro (HL.out.2.1 x hxl) hxl))
        clear hrel hx hxl
        go_wp2_with fail
        refine (rline_any x HX.out.2.1 _).mono ?_
        rintro e w5 ⟨rfl, f5⟩
        have HF := Lib.hid (HR.out.1.trans0 f5)
        clear f5 a0 a1 a2 a3 a4 a5 a6 a7 i1
        cases hlv : lineV x with
        | none =>
          have hT := Lib.hid (textV_no (p := p) (l := l) F1.out.2.2 HX.out.2.2 hlv)
          simp only [Option.getD_none, Option.isSome_none]
          clear hlv
          go_wp2
          go_ret2
          exact ⟨by rw [hT.out]; rfl, F1.out.1.trans0 HF.out⟩
        | some t =>
          have hT := Lib.hid hlv
          clear hlv
          simp only [Option.getD_some, Option.isSome_some]
          go_wp2
          go_roundw
          case rel =>
            refine ⟨k + 1, by omega, by go_num, HF.out, ?_⟩
            have e1 : l.take (k + 1) = l.take k ++ [x] := by rw [List.take_add_one, HX.out.1]; rfl
            rw [e1]
            intro e he
            rcases List.mem_append.1 he with h | h
            · exact HR.out.2 e h
            · simp at h; subst h; rw [hT.out]; rfl
          case measure => simp [intOf]; omega
      · have hkl : k = l.length := by omega
        subst hkl
        rw [List.take_length] at hrel
        have FW := Lib.hid (And.intro (F1.out.1.trans0 hrel.1) hrel.2)
        have B1 := F1.out.2.1.keep0 hrel.1
        have c0 := B1.cell 0
        have c1 := B1.cell 1
        have c2 := B1.cell 2
        have c3 := B1.cell 3
        clear hrel B1
        go_wp2_with fail
        refine (HH.out _).mono ?_
        rintro e w2 ⟨rfl, f2⟩
        have F2 := Lib.hid (FW.out.1.trans0 f2)
        clear f2 c0 c1 c2 c3
        go_wp2
        clear hlt hk
        go_loopw [9, 10] (fun s i wr => ∃ k : Nat, k ≤ l.length ∧ i = .int .i64 k ∧ s = .string (Str (planT p ++ linesV (l.take k))) ∧ Fr [] w wr) (fun _ i _ => l.length - (intOf i).toNat)
        case atStart => exact ⟨0, by omega, rfl, by simp [linesV], F2.out⟩
        case round =>
          obtain ⟨k, hk, rfl, rfl, hrel⟩ := hrel
          by_cases hlt : k < l.length
          · obtain ⟨x, hx⟩ := at_of l hlt
            have i1 := idxE HV.out hlt
            obtain ⟨a0, a1, a2, a3, a4, a5, a6, a7⟩ := cellE (HV.out.keep0 hrel) hx
            have HR := Lib.hid hrel
            have hxl := List.mem_of_getElem? hx
            have HX := Lib.hid (And.intro hx (And.intro (HL.out.2.1 x hxl) hxl))
            obtain ⟨t, ht⟩ := Option.isSome_iff_exists.1 (FW.out.2 x hxl)
            have h1 : (Str (planT p ++ linesV (l.take k))).size + (Str t).size ≤ 262144 := by
              have a := linesV_len (l.take k) (fun e he => HL.out.2.1 e (List.mem_of_mem_take he))
              have c := lineV_len HX.out.2.1
              have d := HL.out.2.2.2
              have z := HL.out.1
              rw [ht] at c
              simp only [Option.getD_some] at c
              rw [List.length_take] at a
              simp only [List.length_append, Str.size]
              omega
            have e2 : Str (planT p ++ linesV (l.take k)) ++ Str t = Str (planT p ++ linesV (l.take (k + 1))) := by
              have e1 : l.take (k + 1) = l.take k ++ [x] := by rw [List.take_add_one, hx]; rfl
              rw [e1, Str.app]
              simp [linesV, ht]
            have HT := Lib.hid (And.intro ht e2)
            obtain ⟨A, hA⟩ : ∃ A, Str (planT p ++ linesV (l.take k)) = A := ⟨_, rfl⟩
            obtain ⟨B, hB⟩ : ∃ B, Str t = B := ⟨_, rfl⟩
            rw [hA, hB] at h1
            have y1 : ¬ (9223372036854775807 < A.size + B.size) := by omega
            have y2 : ¬ ((262144 : Int) < ((A ++ B).size : Nat)) := by rw [ByteArray.size_append]; omega
            have y3 : ¬ ((262144 : Int) < (A.size : Int) + (B.size : Int)) := by omega
            rw [hA]
            clear hrel hx hxl
            go_wp2_with fail
            refine (rline_any x HX.out.2.1 _).mono ?_
            rintro e w5 ⟨rfl, f5⟩
            have HF := Lib.hid (HR.out.trans0 f5)
            clear f5 a0 a1 a2 a3 a4 a5 a6 a7 i1
            simp only [ht, Option.getD_some, Option.isSome_some, hB]
            clear ht e2
            go_wp2
            go_roundw
            case rel =>
              refine ⟨k + 1, by omega, by go_num, ?_, HF.out⟩
              rw [← HT.out.2, hA, hB]
            case measure => simp [intOf]; omega
          · have hkl : k = l.length := by omega
            subst hkl
            rw [List.take_length]
            have hT := Lib.hid (textV_yes (p := p) (l := l) F1.out.2.2 FW.out.2 (by
              have a := linesV_len l HL.out.2.1
              have d := HL.out.2.2.2
              have z := HL.out.1
              simp only [List.length_append]
              omega))
            have HR := Lib.hid hrel
            clear hrel
            go_wp2
            go_ret2
            exact ⟨by rw [hT.out]; rfl, HR.out⟩
end Go.Proofs.YtkdmodanfcpcfaaDoor

/- DERIVED. Chapter 42: ScriptTells, behind the row. -/
namespace Go.Proofs.YtkdmodanfcpcfaaDoor
open Go.RowKit

set_option maxRecDepth 20000 in
set_option maxHeartbeats 4000000 in
theorem scriptTells_any (p : PlanA) (hp : p.ok) (v : Value) (l : List EventA) (hok : ∀ e ∈ l, e.ok) (w : World) (hg : Glob w) (hv : Rd encE w v l) :
    Calls Tryd.prog 5 #[.agg #[.int .i64 p.threads, .int .i64 p.slots, .int .i64 p.levels, .int .u64 p.gen], v] w fun x w' => x = .returned (.bool true) ∧ Fr [] w w' := by
  have hv0 := hv
  have hlen := hv.len_le
  obtain ⟨b0, o0, hv⟩ := hv
  have lv := lenE hv
  have HV := Lib.hid (And.intro hv (And.intro hv0 (And.intro hok (And.intro hp hg))))
  clear hv hv0 hok hp hg
  go_enter Tryd.func5, Tryd.ntmps5
  have F0 : Fr [] w (w.alloc (.cells #[.int .i64 p.threads, .int .i64 p.slots, .int .i64 p.levels, .int .u64 p.gen] 38)) := (Fr.refl _ _).alloc _
  have B0 := Box.new w #[.int .i64 p.threads, .int .i64 p.slots, .int .i64 p.levels, .int .u64 p.gen] 38
  by_cases hl : l.length ≤ 300
  · obtain ⟨T, hT⟩ : ∃ T, Str (textV p l).1 = T := ⟨_, rfl⟩
    obtain ⟨n, hn⟩ : ∃ n, (textV p l).2 = n := ⟨_, rfl⟩
    have C1 := fun W hW (hF : Fr [] w W) => text_any p HV.out.2.2.2.1 v l hl HV.out.2.2.1 W hW (HV.out.2.1.keep0 hF)
    have C2 := fun W (hF : Fr [] w W) => rtext_any p HV.out.2.2.2.1 v l hl HV.out.2.2.1 W (HV.out.2.1.keep0 hF)
    rw [hT, hn] at C1 C2
    have HC1 := Lib.hid C1
    have HC2 := Lib.hid C2
    clear C1 C2 hT hn
    go_wp2_with fail
    refine (HC1.out _ (HV.out.2.2.2.2.keep F0) F0).mono ?_
    rintro e w1 ⟨rfl, f1⟩
    have F1 := Lib.hid (F0.trans0 f1)
    have B1 := B0.keep0 f1
    have c0 := B1.cell 0
    have c1 := B1.cell 1
    have c2 := B1.cell 2
    have c3 := B1.cell 3
    clear B0 F0 B1 f1
    go_wp2_with fail
    refine (HC2.out _ F1.out).mono ?_
    rintro e w2 ⟨rfl, f2⟩
    have F2 := Lib.hid (F1.out.trans0 f2)
    clear f2 c0 c1 c2 c3
    go_wp2
    go_loopw [9] (fun i wr => ∃ k : Nat, k ≤ l.length ∧ i = .int .i64 k ∧ Fr [] w wr) (fun i _ => l.length - (intOf i).toNat)
    case atStart => exact ⟨0, by omega, rfl, F2.out⟩
    case round =>
      obtain ⟨k, hk, rfl, hrel⟩ := hrel
      by_cases hlt : k < l.length
      · obtain ⟨x, hx⟩ := at_of l hlt
        have i1 := idxE HV.out.1 hlt
        obtain ⟨a0, a1, a2, a3, a4, a5, a6, a7⟩ := cellE (HV.out.1.keep0 hrel) hx
        have HR := Lib.hid hrel
        have HX := Lib.hid (And.intro hx (HV.out.2.2.1 x (List.mem_of_getElem? hx)))
        obtain ⟨A, hA⟩ : ∃ A, Str ((lineV x).getD []) = A := ⟨_, rfl⟩
        obtain ⟨c, hc⟩ : ∃ c, (lineV x).isSome = c := ⟨_, rfl⟩
        have L1 := fun W hW => line_any x HX.out.2 W hW
        have L2 := fun W => rline_any x HX.out.2 W
        unfold LineR at L1 L2
        rw [hA, hc] at L1 L2
        clear hrel hx hA hc
        go_wp2_with fail
        refine (L1 _ (HV.out.2.2.2.2.keep HR.out)).mono ?_
        rintro e w5 ⟨rfl, f5⟩
        have HF := Lib.hid (HR.out.trans0 f5)
        clear f5 a0 a1 a2 a3 a4 a5 a6 a7 L1
        obtain ⟨a0, a1, a2, a3, a4, a5, a6, a7⟩ := cellE (HV.out.1.keep0 HF.out) HX.out.1
        go_wp2_with fail
        refine (L2 _).mono ?_
        rintro e w6 ⟨rfl, f6⟩
        have HE := Lib.hid (HF.out.trans0 f6)
        clear f6 a0 a1 a2 a3 a4 a5 a6 a7 L2 i1
        cases c
        all_goals
          go_wp2
          go_roundw
          case rel => exact ⟨k + 1, by omega, by go_num, HE.out⟩
          case measure => simp [intOf]; omega
      · have hkl : k = l.length := by omega
        subst hkl
        have HR := Lib.hid hrel
        clear hrel
        go_wp2_with fail
        refine (awake42 _ (HV.out.2.2.2.2.keep HR.out)).mono ?_
        rintro e w5 ⟨rfl, f5⟩
        have F5 := Lib.hid (HR.out.trans0 f5)
        clear f5
        go_wp2
        go_ret
        exact ⟨rfl, F5.out⟩
  · have hl2 : (300 : Int) < l.length := by omega
    go_wp2_with fail
    refine (awake42 _ (HV.out.2.2.2.2.keep F0)).mono ?_
    rintro e w1 ⟨rfl, f1⟩
    have F1 := Lib.hid (F0.trans0 f1)
    clear B0 F0 f1
    go_wp2
    go_ret
    exact ⟨rfl, F1.out⟩
end Go.Proofs.YtkdmodanfcpcfaaDoor
