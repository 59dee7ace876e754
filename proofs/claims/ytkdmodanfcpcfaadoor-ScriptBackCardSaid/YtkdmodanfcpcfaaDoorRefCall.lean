/- DERIVED. Chapter 37: a call's text, of the reference. -/
import Derived.Test.YtkdmodanfcpcfaaDoorCallU
namespace Go.Proofs.YtkdmodanfcpcfaaDoor
open Go.RowKit

set_option maxRecDepth 20000 in
set_option maxHeartbeats 2000000 in
theorem refCall_any (c : CallA) (hc : c.ok) (w : World) :
    Calls Tryd.prog 32 #[.agg #[.int .i64 c.kind, .int .i64 c.deadline, .int .u64 c.draw, .int .u64 c.handle, .int .i64 c.count]] w fun e w' => e = .returned (.string (Str (callT c))) ∧ Fr [] w w' := by
  have F0 : Fr [] w (w.alloc (.cells #[.int .i64 c.kind, .int .i64 c.deadline, .int .u64 c.draw, .int .u64 c.handle, .int .i64 c.count] 24)) := (Fr.refl _ _).alloc _
  have B0 := Box.new w #[.int .i64 c.kind, .int .i64 c.deadline, .int .u64 c.draw, .int .u64 c.handle, .int .i64 c.count] 24
  have CH := fun W => refHandle_any c.handle hc.handle W
  have CA := fun W => number_any c.deadline hc.deadline.1 hc.deadline.2 W
  have CB := fun W => digits_any c.draw hc.draw W
  have CN := fun W => number_any c.count hc.count.1 hc.count.2 W
  simp only [Str.lit] at CA CB CN
  have s1 := handle_len hc.handle
  have s2 := itoa_len c.deadline hc.deadline.1 hc.deadline.2
  have s3 := dig_len c.draw hc.draw
  have s4 := itoa_len c.count hc.count.1 hc.count.2
  have r1 : c.kind = 1 → Str (callT c) = ⟨#[115, 116, 97, 114, 116]⟩ ++ (⟨#[32]⟩ ++ Str (Lib.itoa c.deadline) ++ ⟨#[32]⟩ ++ Str (Lib.decDigits c.draw)) := fun h => ByteArray.ext (by simp [callT, h, joinT_eq, fieldT, Str, ByteArray.data_append])
  have r2 : c.kind = 2 → Str (callT c) = ⟨#[115, 116, 111, 112]⟩ ++ (⟨#[32]⟩ ++ Str (handleT c.handle)) := fun h => ByteArray.ext (by simp [callT, h, joinT_eq, fieldT, Str, ByteArray.data_append])
  have r3 : c.kind = 3 → Str (callT c) = ⟨#[114, 101, 115, 101, 116]⟩ ++ (⟨#[32]⟩ ++ Str (handleT c.handle)) ++ (⟨#[32]⟩ ++ Str (Lib.itoa c.deadline) ++ ⟨#[32]⟩ ++ Str (Lib.decDigits c.draw)) := fun h => ByteArray.ext (by simp [callT, h, joinT_eq, fieldT, Str, ByteArray.data_append])
  have r4 : c.kind = 4 → Str (callT c) = ⟨#[101, 120, 112, 105, 114, 101]⟩ ++ (⟨#[32]⟩ ++ Str (Lib.itoa c.count)) := fun h => ByteArray.ext (by simp [callT, h, joinT_eq, fieldT, Str, ByteArray.data_append])
  have r5 : c.kind = 5 → Str (callT c) = ⟨#[119, 97, 105, 116]⟩ ++ (⟨#[32]⟩ ++ Str (Lib.itoa c.count)) := fun h => ByteArray.ext (by simp [callT, h, joinT_eq, fieldT, Str, ByteArray.data_append])
  have r6 : c.kind = 6 → Str (callT c) = ⟨#[116, 105, 100, 121]⟩ := fun h => ByteArray.ext (by simp [callT, h, joinT_eq, Str])
  have r7 : c.kind ≠ 1 → c.kind ≠ 2 → c.kind ≠ 3 → c.kind ≠ 4 → c.kind ≠ 5 → c.kind ≠ 6 → Str (callT c) = ⟨#[110, 111, 110, 101]⟩ := fun h1 h2 h3 h4 h5 h6 => ByteArray.ext (by simp [callT, h1, h2, h3, h4, h5, h6, Str])
  obtain ⟨res, hres⟩ : ∃ res, Str (callT c) = res := ⟨_, rfl⟩
  rw [hres] at r1 r2 r3 r4 r5 r6 r7 ⊢
  obtain ⟨ah, hh⟩ : ∃ a, Str (handleT c.handle) = a := ⟨_, rfl⟩
  obtain ⟨aa, ha⟩ : ∃ a, Str (Lib.itoa c.deadline) = a := ⟨_, rfl⟩
  obtain ⟨ab, hb⟩ : ∃ a, Str (Lib.decDigits c.draw) = a := ⟨_, rfl⟩
  obtain ⟨an, hn⟩ : ∃ a, Str (Lib.itoa c.count) = a := ⟨_, rfl⟩
  rw [hh] at CH s1 r2 r3
  rw [ha] at CA s2 r1 r3
  rw [hb] at CB s3 r1 r3
  rw [hn] at CN s4 r4 r5
  have HR := Lib.hid (And.intro r1 (And.intro r2 (And.intro r3 (And.intro r4 (And.intro r5 (And.intro r6 r7))))))
  have HC := Lib.hid (And.intro CH (And.intro CA (And.intro CB CN)))
  clear r1 r2 r3 r4 r5 r6 r7 hh ha hb hn hres CH CA CB CN hc
  have z1 : ¬ (9223372036854775807 < 1 + aa.size) := by omega
  have z2 : ¬ (9223372036854775807 < 1 + aa.size + 1) := by omega
  have z3 : ¬ (9223372036854775807 < 1 + aa.size + 1 + ab.size) := by omega
  go_enter Tryd.func32, Tryd.ntmps32
  go_wp2_with fail
  obtain ⟨g, hg⟩ : ∃ g, w.heap.size = g := ⟨_, rfl⟩
  rw [hg] at B0 ⊢
  clear hg
  refine (HC.out.1 _).mono ?_
  rintro e w1 ⟨rfl, f1⟩
  have B1 := B0.keep0 f1
  have F1 := F0.trans0 f1
  have facts : ∀ W, Fr [] w1 W → (W.cell? ⟨g, 1, none⟩ = some (.int .i64 c.deadline) ∧ W.cell? ⟨g, 2, none⟩ = some (.int .u64 c.draw)) := fun W hW => ⟨(B1.keep0 hW).cell 1, (B1.keep0 hW).cell 2⟩
  have FA := Lib.hid facts
  have HB := Lib.hid (And.intro B1 F1)
  have hfr0 : Fr [] w1 w1.drew := (Fr.refl _ _).drew
  clear B0 F0 f1 B1 F1 facts
  go_wp2_with fail
  go_region_held3 (fun W => (W.cell? ⟨g, 1, none⟩ = some (.int .i64 c.deadline) ∧ W.cell? ⟨g, 2, none⟩ = some (.int .u64 c.draw)))
    (first
      | exact FA.out _ hfr0
      | exact FA.out _ (hfr0.trans0 f6)
      | exact FA.out _ ((hfr0.trans0 f6).trans0 f7))
    (first
      | (go_at_call 24; with_reducible refine (HC.out.2.1 _).mono ?_; rintro e w6 ⟨rfl, f6⟩)
      | (go_at_call 48; with_reducible refine (HC.out.2.2.1 _).mono ?_; rintro e w7 ⟨rfl, f7⟩))
  rename_i hHeld
  have B7 := HB.out.1.keep0 ((hfr0.trans0 f6).trans0 f7)
  have b7 := B7.cell
  have H7 := Lib.hid (And.intro B7 ((HB.out.2.trans0 hfr0).trans0 (f6.trans0 f7)))
  clear hHeld hfr0 f6 f7 FA HB B7
  go_wp2_with fail
  clear b7
  refine (HC.out.2.2.2 _).mono ?_
  rintro e w8 ⟨rfl, f8⟩
  have b8 := (H7.out.1.keep0 f8).cell
  have H8 := Lib.hid (H7.out.2.trans0 f8)
  clear f8 H7 HC
  by_cases k1 : c.kind = 1
  · have HE := Lib.hid (HR.out.1 k1)
    rw [k1] at b8
    clear HR k1
    go_wp2
    go_ret
    exact ⟨ret_str HE.out.symm, H8.out⟩
  by_cases k2 : c.kind = 2
  · have HE := Lib.hid (HR.out.2.1 k2)
    rw [k2] at b8
    clear HR k1 k2
    go_wp2
    go_ret
    exact ⟨ret_str HE.out.symm, H8.out⟩
  by_cases k3 : c.kind = 3
  · have HE := Lib.hid (HR.out.2.2.1 k3)
    rw [k3] at b8
    clear HR k1 k2 k3
    go_wp2
    go_ret
    exact ⟨ret_str HE.out.symm, H8.out⟩
  by_cases k4 : c.kind = 4
  · have HE := Lib.hid (HR.out.2.2.2.1 k4)
    rw [k4] at b8
    clear HR k1 k2 k3 k4
    go_wp2
    go_ret
    exact ⟨ret_str HE.out.symm, H8.out⟩
  by_cases k5 : c.kind = 5
  · have HE := Lib.hid (HR.out.2.2.2.2.1 k5)
    rw [k5] at b8
    clear HR k1 k2 k3 k4 k5
    go_wp2
    go_ret
    exact ⟨ret_str HE.out.symm, H8.out⟩
  by_cases k6 : c.kind = 6
  · have HE := Lib.hid (HR.out.2.2.2.2.2.1 k6)
    rw [k6] at b8
    clear HR k1 k2 k3 k4 k5 k6
    go_wp2
    go_ret
    exact ⟨ret_str HE.out.symm, H8.out⟩
  have HE := Lib.hid (HR.out.2.2.2.2.2.2 k1 k2 k3 k4 k5 k6)
  have q1 : (c.kind == 1) = false := by simpa using k1
  have q2 : (c.kind == 2) = false := by simpa using k2
  have q3 : (c.kind == 3) = false := by simpa using k3
  have q4 : (c.kind == 4) = false := by simpa using k4
  have q5 : (c.kind == 5) = false := by simpa using k5
  have q6 : (c.kind == 6) = false := by simpa using k6
  clear HR k1 k2 k3 k4 k5 k6
  go_wp2
  go_ret
  exact ⟨ret_str HE.out.symm, H8.out⟩
end Go.Proofs.YtkdmodanfcpcfaaDoor
