/- DERIVED. Chapter 42: ScriptBack, behind the row. -/
import Derived.Test.YtkdmodanfcpcfaaDoorBackX
import Derived.BigRegion
import Derived.Deep.RegionHeld3
namespace Go.Proofs.YtkdmodanfcpcfaaDoor
open Go.RowKit

set_option maxRecDepth 20000 in
set_option maxHeartbeats 4000000 in
theorem scriptBack_any (p : PlanA) (hp : p.ok) (v : Value) (l : List EventA) (hok : ∀ e ∈ l, e.ok) (s : List UInt8) (w : World) (hg : Glob w) (hv : Rd encE w v l) :
    Calls Tryd.prog 6 #[.agg #[.int .i64 p.threads, .int .i64 p.slots, .int .i64 p.levels, .int .u64 p.gen], v, .string (Str s)] w fun x w' => x = .returned (.bool true) ∧ Fr [] w w' := by
  have hv0 := hv
  have hlen := hv.len_le
  obtain ⟨b0, o0, hv⟩ := hv
  have lv := lenE hv
  have HV := Lib.hid (And.intro hv (And.intro hv0 (And.intro hok (And.intro hp hg))))
  clear hv hv0 hok hp hg
  have lS : (Str s).size = s.length := Str.size s
  obtain ⟨S, hS⟩ : ∃ S, Str s = S := ⟨_, rfl⟩
  rw [hS] at lS ⊢
  have HS := Lib.hid hS
  clear hS
  go_enter Tryd.func6, Tryd.ntmps6
  have F0 : Fr [] w (w.alloc (.cells #[.int .i64 p.threads, .int .i64 p.slots, .int .i64 p.levels, .int .u64 p.gen] 38)) := (Fr.refl _ _).alloc _
  have B0 := Box.new w #[.int .i64 p.threads, .int .i64 p.slots, .int .i64 p.levels, .int .u64 p.gen] 38
  by_cases hbig : 300 < l.length
  · have h1 : (300 : Int) < l.length := by omega
    go_wp2_with fail
    refine (awake42 _ (HV.out.2.2.2.2.keep F0)).mono ?_
    rintro e w1 ⟨rfl, f1⟩
    have F1 := Lib.hid (F0.trans0 f1)
    clear B0 F0 f1
    go_wp2
    go_ret
    exact ⟨rfl, F1.out⟩
  by_cases hbig2 : 3000 < s.length
  · have h1 : (3000 : Int) < S.size := by omega
    have h0 : ¬ (300 : Int) < l.length := by omega
    go_wp2_with fail
    refine (awake42 _ (HV.out.2.2.2.2.keep F0)).mono ?_
    rintro e w1 ⟨rfl, f1⟩
    have F1 := Lib.hid (F0.trans0 f1)
    clear B0 F0 f1
    go_wp2
    go_ret
    exact ⟨rfl, F1.out⟩
  have h1 : ¬ (3000 : Int) < S.size := by omega
  have h0 : ¬ (300 : Int) < l.length := by omega
  have HF := Lib.hid (And.intro F0 B0)
  clear F0 B0
  go_wp2
  go_loopw [7] (fun i wr => ∃ k : Nat, k ≤ s.length ∧ i = .int .i64 k ∧ Fr [] (w.alloc (.cells #[.int .i64 p.threads, .int .i64 p.slots, .int .i64 p.levels, .int .u64 p.gen] 38)) wr ∧ (10 : UInt8) ∉ s.take k) (fun i _ => s.length - (intOf i).toNat)
  case atStart => exact ⟨0, by omega, rfl, Fr.refl _ _, by simp⟩
  case round =>
    obtain ⟨k, hk, rfl, hrel⟩ := hrel
    by_cases hlt : k < s.length
    · obtain ⟨c, hc⟩ := at_of s hlt
      have ik := strIdx hc
      rw [HS.out] at ik
      have HR := Lib.hid hrel
      clear hrel
      by_cases h10 : c = 10
      · subst h10
        clear hc
        go_wp2_with fail
        refine (awake42 _ (HV.out.2.2.2.2.keep (HF.out.1.trans0 HR.out.1))).mono ?_
        rintro e w5 ⟨rfl, f5⟩
        have F5 := Lib.hid (HF.out.1.trans0 (HR.out.1.trans0 f5))
        clear f5
        go_wp2
        go_ret
        exact ⟨rfl, F5.out⟩
      · have hn : ¬ ((c.toNat : Int) = 10) := fun e => h10 (UInt8.toNat_inj.1 (by rw [show (10 : UInt8).toNat = 10 from rfl]; omega))
        have HC := Lib.hid hc
        clear hc
        go_wp2
        go_roundw
        case rel =>
          refine ⟨k + 1, by omega, by go_num, HR.out.1, ?_⟩
          rw [List.take_add_one, HC.out]
          intro hm
          rcases List.mem_append.1 hm with h | h
          · exact HR.out.2 h
          · simp at h; exact h10 h.symm
        case measure => simp [intOf]; omega
    · have hkl : k = s.length := by omega
      subst hkl
      rw [List.take_length] at hrel
      have HR := Lib.hid hrel
      clear hrel hlt hk
      obtain ⟨T, hT⟩ : ∃ T, (textV p l).1 = T := ⟨_, rfl⟩
      obtain ⟨n, hn⟩ : ∃ n, (textV p l).2 = n := ⟨_, rfl⟩
      have C1 := text_any p HV.out.2.2.2.1 v l (by omega) HV.out.2.2.1 wr (HV.out.2.2.2.2.keep (HF.out.1.trans0 HR.out.1)) (HV.out.2.1.keep0 (HF.out.1.trans0 HR.out.1))
      rw [hT, hn] at C1
      have B1 := HF.out.2.keep0 HR.out.1
      have c0 := B1.cell 0
      have c1 := B1.cell 1
      have c2 := B1.cell 2
      have c3 := B1.cell 3
      have HT := Lib.hid (And.intro hT hn)
      clear hT hn B1
      go_wp2_with fail
      refine C1.mono ?_
      rintro e w2 ⟨rfl, f2⟩
      have F2 := Lib.hid (HR.out.1.trans0 f2)
      clear f2 C1 c0 c1 c2 c3
      by_cases hn0 : n = 0
      · subst hn0
        obtain ⟨q1, q2, q3⟩ := textV_ok HT.out.2
        rw [HT.out.1] at q3
        have PA := parse_any ([10, 35] ++ s ++ [10] ++ T ++ [35, 10, 10]) w2 (HV.out.2.2.2.2.keep (HF.out.1.trans0 F2.out))
        have hgood := back_good HV.out.2.2.2.1 q1 l (by omega) HV.out.2.2.1 q2 s HR.out.2 (by omega)
        rw [← q3] at hgood
        unfold ScriptE at PA
        rw [hgood] at PA
        have hcat : Str ([10, 35] ++ s ++ [10] ++ T ++ [35, 10, 10]) = ⟨#[10, 35]⟩ ++ S ++ ⟨#[10]⟩ ++ Str T ++ ⟨#[35, 10, 10]⟩ := by
          rw [← HS.out]
          apply ByteArray.ext
          simp [Str, ByteArray.data_append]
        rw [hcat] at PA
        have lT : (Str T).size ≤ 90092 := by
          have a := linesV_len l HV.out.2.2.1
          have b := planT_len HV.out.2.2.2.1
          rw [q3, Str.size, List.length_append]
          omega
        have HP := Lib.hid PA
        clear PA hgood hcat q1 q2 q3
        obtain ⟨A, hA⟩ : ∃ A, Str T = A := ⟨_, rfl⟩
        rw [hA] at lT HP
        rw [hA]
        have y1 : ¬ (9223372036854775807 < 2 + S.size) := by omega
        have y2 : ¬ (9223372036854775807 < 2 + S.size + 1) := by omega
        have y3 : ¬ (9223372036854775807 < 2 + S.size + 1 + A.size) := by omega
        have y4 : ¬ (9223372036854775807 < 2 + S.size + 1 + A.size + 3) := by omega
        go_wp2_with fail
        clear y1 y2 y3 y4
        refine HP.out.mono ?_
        rintro e w3 ⟨⟨v3, rfl, hv3⟩, f3⟩
        have F3 := F2.out.trans0 f3
        have FA := (Fr.refl [] w3).alloc (.cells #[.int .i64 p.threads, .int .i64 p.slots, .int .i64 p.levels, .int .u64 p.gen] 38)
        have B1 := HF.out.2.keep0 (F3.trans0 FA)
        have c0 := B1.cell 0
        have c1 := B1.cell 1
        have c2 := B1.cell 2
        have c3 := B1.cell 3
        have SM := same_any v v3 l _ (HV.out.2.1.keep0 (HF.out.1.trans0 (F3.trans0 FA))) (hv3.keep0 FA)
        have H3 := Lib.hid (And.intro F3 FA)
        clear F3 FA hv3 f3 B1 HP
        simp only [planAgg]
        go_wp2_with fail
        refine SM.mono ?_
        rintro e w5 ⟨rfl, f5⟩
        have HZ := Lib.hid (HF.out.1.trans0 (H3.out.1.trans0 (H3.out.2.trans0 f5)))
        clear f5 SM c0 c1 c2 c3 H3 F2 HT lT hA
        --2a
        have PA := parse_any (l11 ++ [10] ++ s ++ [10]) w5 (HV.out.2.2.2.2.keep HZ.out)
        have hcat : Str (l11 ++ [10] ++ s ++ [10]) = ⟨#[112, 108, 97, 110, 32, 49, 32, 49, 32, 49, 32, 48, 10]⟩ ++ S ++ ⟨#[10]⟩ := by
          rw [← HS.out]
          apply ByteArray.ext
          simp [Str, l11, ByteArray.data_append]
        have HK := Lib.hid hcat
        rw [hcat] at PA
        have x1 : ¬ (9223372036854775807 < 13 + S.size) := by omega
        have x2 : ¬ (9223372036854775807 < 13 + S.size + 1) := by omega
        clear hcat
        unfold ScriptE at PA
        rcases back_one s HR.out.2 (by omega) with ⟨nb, hb⟩ | hb | ⟨eb, hb, hle, heo⟩
        · rw [hb] at PA
          simp only at PA
          have HPA := Lib.hid PA
          clear PA hb
          go_wp2_with fail
          clear x1 x2
          refine HPA.out.mono ?_
          rintro e w6 ⟨rfl, f6⟩
          have H6 := Lib.hid (HZ.out.trans0 f6)
          clear f6 HPA
          have FA := (Fr.refl [] w6).alloc (.cells #[.int .i64 0, .int .i64 0, .int .i64 0, .int .u64 0] 38)
          have AW := awake42 _ (HV.out.2.2.2.2.keep (H6.out.trans0 FA))
          have H7 := Lib.hid (H6.out.trans0 FA)
          clear FA
          simp only [planAgg]
          go_wp2_with fail
          refine AW.mono ?_
          rintro e w7 ⟨rfl, f7⟩
          have H8 := Lib.hid (H7.out.trans0 f7)
          clear f7 AW
          go_wp2
          go_ret
          exact ⟨rfl, H8.out⟩
        · rw [hb] at PA
          simp only at PA
          have HPA := Lib.hid PA
          clear PA hb
          go_wp2_with fail
          clear x1 x2
          refine HPA.out.mono ?_
          rintro e w6 ⟨⟨v6, rfl, hv6⟩, f6⟩
          have FA := (Fr.refl [] w6).alloc (.cells #[.int .i64 1, .int .i64 1, .int .i64 1, .int .u64 0] 38)
          have TX := text_any p11 p11_ok v6 [] (by simp) (by simp) _ (HV.out.2.2.2.2.keep ((HZ.out.trans0 f6).trans0 FA)) (hv6.keep0 FA)
          rw [text_11] at TX
          have BQ := Box.new w6 #[.int .i64 1, .int .i64 1, .int .i64 1, .int .u64 0] 38
          obtain ⟨b6, o6, hr6⟩ := hv6
          have l6 := lenE hr6
          have H6 := Lib.hid (And.intro ((HZ.out.trans0 f6).trans0 FA) BQ)
          have HTX := Lib.hid TX
          clear f6 HPA FA hr6 TX BQ
          simp only [planAgg, p11]
          go_wp2_with fail
          refine HTX.out.mono ?_
          rintro e w7 ⟨rfl, f7⟩
          have H7 := Lib.hid (H6.out.1.trans0 f7)
          have B7 := H6.out.2.keep0 f7
          have d0 := B7.cell 0
          have d1 := B7.cell 1
          have d2 := B7.cell 2
          have d3 := B7.cell 3
          clear f7 HTX B7
          go_wp2_with fail
          refine (right_any 1 1 1 0 _).mono ?_
          rintro e w8 ⟨rfl, f8⟩
          have H8 := Lib.hid (H7.out.trans0 f8)
          clear f8 d0 d1 d2 d3
          rw [show PlanA.right ⟨1, 1, 1, 0⟩ = true by decide]
          have AW := awake42 _ (HV.out.2.2.2.2.keep H8.out)
          go_wp2_with fail
          refine AW.mono ?_
          rintro e w9 ⟨rfl, f9⟩
          have H9 := Lib.hid (H8.out.trans0 f9)
          clear f9 AW
          go_wp2
          go_ret
          exact ⟨rfl, H9.out⟩
        · rw [hb] at PA
          simp only at PA
          have HPA := Lib.hid PA
          clear PA hb
          go_wp2_with fail
          clear x1 x2
          refine HPA.out.mono ?_
          rintro e w6 ⟨⟨v6, rfl, hv6⟩, f6⟩
          have FA := (Fr.refl [] w6).alloc (.cells #[.int .i64 1, .int .i64 1, .int .i64 1, .int .u64 0] 38)
          have TX := text_any p11 p11_ok v6 [eb] (by simp) (by simpa using heo) _ (HV.out.2.2.2.2.keep ((HZ.out.trans0 f6).trans0 FA)) (hv6.keep0 FA)
          rw [text_1e hle (by omega)] at TX
          simp only at TX
          rw [HK.out] at TX
          have BQ := Box.new w6 #[.int .i64 1, .int .i64 1, .int .i64 1, .int .u64 0] 38
          obtain ⟨b6, o6, hr6⟩ := hv6
          have l6 := lenE hr6
          have H6 := Lib.hid (And.intro ((HZ.out.trans0 f6).trans0 FA) BQ)
          have HTX := Lib.hid TX
          clear f6 HPA FA hr6 TX BQ
          simp only [planAgg, p11]
          go_wp2_with fail
          refine HTX.out.mono ?_
          rintro e w7 ⟨rfl, f7⟩
          have H7 := Lib.hid (H6.out.1.trans0 f7)
          have B7 := H6.out.2.keep0 f7
          have d0 := B7.cell 0
          have d1 := B7.cell 1
          have d2 := B7.cell 2
          have d3 := B7.cell 3
          clear f7 HTX B7
          go_wp2_with fail
          refine (right_any 1 1 1 0 _).mono ?_
          rintro e w8 ⟨rfl, f8⟩
          have H8 := Lib.hid (H7.out.trans0 f8)
          clear f8 d0 d1 d2 d3
          rw [show PlanA.right ⟨1, 1, 1, 0⟩ = true by decide]
          have AW := awake42 _ (HV.out.2.2.2.2.keep H8.out)
          have x1 : ¬ (9223372036854775807 < 13 + S.size) := by omega
          have x2 : ¬ (9223372036854775807 < 13 + S.size + 1) := by omega
          go_wp2_with fail
          refine AW.mono ?_
          rintro e w9 ⟨rfl, f9⟩
          have H9 := Lib.hid (H8.out.trans0 f9)
          clear f9 AW
          go_wp2
          go_ret
          exact ⟨rfl, H9.out⟩
        --end 2a
      · have HZ := Lib.hid (HF.out.1.trans0 F2.out)
        clear F2 HT
        --2b
        have PA := parse_any (l11 ++ [10] ++ s ++ [10]) w2 (HV.out.2.2.2.2.keep HZ.out)
        have hcat : Str (l11 ++ [10] ++ s ++ [10]) = ⟨#[112, 108, 97, 110, 32, 49, 32, 49, 32, 49, 32, 48, 10]⟩ ++ S ++ ⟨#[10]⟩ := by
          rw [← HS.out]
          apply ByteArray.ext
          simp [Str, l11, ByteArray.data_append]
        have HK := Lib.hid hcat
        rw [hcat] at PA
        have x1 : ¬ (9223372036854775807 < 13 + S.size) := by omega
        have x2 : ¬ (9223372036854775807 < 13 + S.size + 1) := by omega
        clear hcat
        unfold ScriptE at PA
        rcases back_one s HR.out.2 (by omega) with ⟨nb, hb⟩ | hb | ⟨eb, hb, hle, heo⟩
        · rw [hb] at PA
          simp only at PA
          have HPA := Lib.hid PA
          clear PA hb
          go_wp2_with fail
          clear x1 x2
          refine HPA.out.mono ?_
          rintro e w6 ⟨rfl, f6⟩
          have H6 := Lib.hid (HZ.out.trans0 f6)
          clear f6 HPA
          have FA := (Fr.refl [] w6).alloc (.cells #[.int .i64 0, .int .i64 0, .int .i64 0, .int .u64 0] 38)
          have AW := awake42 _ (HV.out.2.2.2.2.keep (H6.out.trans0 FA))
          have H7 := Lib.hid (H6.out.trans0 FA)
          clear FA
          simp only [planAgg]
          go_wp2_with fail
          refine AW.mono ?_
          rintro e w7 ⟨rfl, f7⟩
          have H8 := Lib.hid (H7.out.trans0 f7)
          clear f7 AW
          go_wp2
          go_ret
          exact ⟨rfl, H8.out⟩
        · rw [hb] at PA
          simp only at PA
          have HPA := Lib.hid PA
          clear PA hb
          go_wp2_with fail
          clear x1 x2
          refine HPA.out.mono ?_
          rintro e w6 ⟨⟨v6, rfl, hv6⟩, f6⟩
          have FA := (Fr.refl [] w6).alloc (.cells #[.int .i64 1, .int .i64 1, .int .i64 1, .int .u64 0] 38)
          have TX := text_any p11 p11_ok v6 [] (by simp) (by simp) _ (HV.out.2.2.2.2.keep ((HZ.out.trans0 f6).trans0 FA)) (hv6.keep0 FA)
          rw [text_11] at TX
          have BQ := Box.new w6 #[.int .i64 1, .int .i64 1, .int .i64 1, .int .u64 0] 38
          obtain ⟨b6, o6, hr6⟩ := hv6
          have l6 := lenE hr6
          have H6 := Lib.hid (And.intro ((HZ.out.trans0 f6).trans0 FA) BQ)
          have HTX := Lib.hid TX
          clear f6 HPA FA hr6 TX BQ
          simp only [planAgg, p11]
          go_wp2_with fail
          refine HTX.out.mono ?_
          rintro e w7 ⟨rfl, f7⟩
          have H7 := Lib.hid (H6.out.1.trans0 f7)
          have B7 := H6.out.2.keep0 f7
          have d0 := B7.cell 0
          have d1 := B7.cell 1
          have d2 := B7.cell 2
          have d3 := B7.cell 3
          clear f7 HTX B7
          go_wp2_with fail
          refine (right_any 1 1 1 0 _).mono ?_
          rintro e w8 ⟨rfl, f8⟩
          have H8 := Lib.hid (H7.out.trans0 f8)
          clear f8 d0 d1 d2 d3
          rw [show PlanA.right ⟨1, 1, 1, 0⟩ = true by decide]
          have AW := awake42 _ (HV.out.2.2.2.2.keep H8.out)
          go_wp2_with fail
          refine AW.mono ?_
          rintro e w9 ⟨rfl, f9⟩
          have H9 := Lib.hid (H8.out.trans0 f9)
          clear f9 AW
          go_wp2
          go_ret
          exact ⟨rfl, H9.out⟩
        · rw [hb] at PA
          simp only at PA
          have HPA := Lib.hid PA
          clear PA hb
          go_wp2_with fail
          clear x1 x2
          refine HPA.out.mono ?_
          rintro e w6 ⟨⟨v6, rfl, hv6⟩, f6⟩
          have FA := (Fr.refl [] w6).alloc (.cells #[.int .i64 1, .int .i64 1, .int .i64 1, .int .u64 0] 38)
          have TX := text_any p11 p11_ok v6 [eb] (by simp) (by simpa using heo) _ (HV.out.2.2.2.2.keep ((HZ.out.trans0 f6).trans0 FA)) (hv6.keep0 FA)
          rw [text_1e hle (by omega)] at TX
          simp only at TX
          rw [HK.out] at TX
          have BQ := Box.new w6 #[.int .i64 1, .int .i64 1, .int .i64 1, .int .u64 0] 38
          obtain ⟨b6, o6, hr6⟩ := hv6
          have l6 := lenE hr6
          have H6 := Lib.hid (And.intro ((HZ.out.trans0 f6).trans0 FA) BQ)
          have HTX := Lib.hid TX
          clear f6 HPA FA hr6 TX BQ
          simp only [planAgg, p11]
          go_wp2_with fail
          refine HTX.out.mono ?_
          rintro e w7 ⟨rfl, f7⟩
          have H7 := Lib.hid (H6.out.1.trans0 f7)
          have B7 := H6.out.2.keep0 f7
          have d0 := B7.cell 0
          have d1 := B7.cell 1
          have d2 := B7.cell 2
          have d3 := B7.cell 3
          clear f7 HTX B7
          go_wp2_with fail
          refine (right_any 1 1 1 0 _).mono ?_
          rintro e w8 ⟨rfl, f8⟩
          have H8 := Lib.hid (H7.out.trans0 f8)
          clear f8 d0 d1 d2 d3
          rw [show PlanA.right ⟨1, 1, 1, 0⟩ = true by decide]
          have AW := awake42 _ (HV.out.2.2.2.2.keep H8.out)
          have x1 : ¬ (9223372036854775807 < 13 + S.size) := by omega
          have x2 : ¬ (9223372036854775807 < 13 + S.size + 1) := by omega
          go_wp2_with fail
          refine AW.mono ?_
          rintro e w9 ⟨rfl, f9⟩
          have H9 := Lib.hid (H8.out.trans0 f9)
          clear f9 AW
          go_wp2
          go_ret
          exact ⟨rfl, H9.out⟩
        --end 2b
end Go.Proofs.YtkdmodanfcpcfaaDoor
