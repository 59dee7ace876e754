/- DERIVED. 'whole' of packages call and script. -/
import Derived.Test.YtkdmodanfcpcfaaDoorWh
import Derived.Lib.SlicesS
namespace Go.Proofs.YtkdmodanfcpcfaaDoor
open Go.RowKit

/-- a number and whether it is one: below B, in its own digits -/
def WholeR (B : Nat) (s : List UInt8) (e : Ending) : Prop :=
  ∃ n : Nat, e = .returned (.tuple #[.int .u64 n, .bool (numB B s).isSome]) ∧ ∀ m, numB B s = some m → n = m
theorem str_ne {s t : List UInt8} (h : s ≠ t) : Str s ≠ Str t := fun e => h (by have := congrArg (fun b => b.data.toList) e; simpa [Str] using this)

set_option maxRecDepth 20000 in
set_option maxHeartbeats 1000000 in
theorem callWhole (B : Nat) (hB : B ≤ 18446744073709551616) (b : Int) (s : List UInt8) (w : World) (ht : Tab w)
    (hp : Calls Tryd.prog 73 #[.string (Str s), .int .i64 10, .int .i64 b] w fun e w' => PuP B s e ∧ Fr [] w w') :
    Calls Tryd.prog 75 #[.string (Str s), .int .i64 b] w fun e w' => WholeR B s e ∧ Fr [] w w' := by
  have HP := Lib.hid hp
  have HT := Lib.hid ht
  obtain ⟨S, hS⟩ : ∃ S, Str s = S := ⟨_, rfl⟩
  rw [hS] at HP ⊢
  have HS := Lib.hid hS
  clear hp ht hS
  go_enter Tryd.func75, Tryd.ntmps75
  go_wp2_with fail
  refine HP.out.mono ?_
  clear HP
  rintro e w1 ⟨h1 | ⟨hn, n, t, p, hnn, rfl⟩, f1⟩
  · obtain ⟨hne, hd, hb, rfl⟩ := h1
    have C := fmtU_any (valV s) (by omega) w1 (HT.out.keep f1)
    obtain ⟨D, hD⟩ : ∃ D : ByteArray, (⟨(Lib.decDigits (valV s)).toArray⟩ : ByteArray) = D := ⟨_, rfl⟩
    rw [hD] at C
    have HC := Lib.hid C
    have H := Lib.hid (And.intro hb (And.intro f1 hD))
    clear hne hd hb f1 C hD
    by_cases he : D = S
    · subst he
      go_wp2_with fail
      refine HC.out.mono ?_
      clear HC
      rintro e w2 ⟨rfl, f2⟩
      have F2 := Lib.hid (H.out.2.1.trans0 f2)
      clear f2
      go_wp2
      go_ret2
      have hs : s = Lib.decDigits (valV s) := by
        have e := congrArg (fun b => b.data.toList) (HS.out.trans H.out.2.2.symm)
        simpa [Str] using e
      have hn : numB B s = some (valV s) := numB_some.2 ⟨hs, H.out.1⟩
      refine ⟨⟨valV s, ?_, fun m hm => ?_⟩, F2.out⟩
      · rw [hn]; rfl
      · rw [hn] at hm; injection hm
    · have hn : numB B s = none := by
        refine numB_none_of fun n e => absurd ?_ he
        rw [← H.out.2.2, ← HS.out]
        have : valV s = n := by rw [e, val_dec]
        rw [this, ← e]; rfl
      have HN := Lib.hid hn
      have hq := (Lib.bytes_beq_false_iff D S).2 he
      clear hn
      go_wp2_with fail
      refine HC.out.mono ?_
      clear HC
      rintro e w2 ⟨rfl, f2⟩
      have F2 := Lib.hid (H.out.2.1.trans0 f2)
      clear f2
      go_wp2
      go_ret2
      refine ⟨⟨valV s, ?_, fun m hm => ?_⟩, F2.out⟩
      · rw [HN.out]; rfl
      · rw [HN.out] at hm; cases hm
  · obtain ⟨k, hk⟩ : ∃ k : Nat, n = k := hnn
    subst hk
    have H := Lib.hid (And.intro hn f1)
    clear hn f1
    go_wp2
    go_ret2
    refine ⟨⟨k, ?_, fun m hm => ?_⟩, H.out.2⟩
    · rw [H.out.1]; rfl
    · rw [H.out.1] at hm; cases hm
theorem callWhole63 (s : List UInt8) (hs : s.length ≤ 1000000) (w : World) (hg : Glob w) : Calls Tryd.prog 75 #[.string (Str s), .int .i64 63] w fun e w' => WholeR 9223372036854775808 s e ∧ Fr [] w w' :=
  callWhole _ (by omega) 63 s w hg.tab (pub63 s hs w hg)
theorem callWhole64 (s : List UInt8) (hs : s.length ≤ 1000000) (w : World) (hg : Glob w) : Calls Tryd.prog 75 #[.string (Str s), .int .i64 64] w fun e w' => WholeR 18446744073709551616 s e ∧ Fr [] w w' :=
  callWhole _ (by omega) 64 s w hg.tab (pub64 s hs w hg)
set_option maxRecDepth 20000 in
set_option maxHeartbeats 1000000 in
theorem scriptWhole (B : Nat) (hB : B ≤ 18446744073709551616) (b : Int) (s : List UInt8) (w : World) (ht : Tab w)
    (hp : Calls Tryd.prog 73 #[.string (Str s), .int .i64 10, .int .i64 b] w fun e w' => PuP B s e ∧ Fr [] w w') :
    Calls Tryd.prog 61 #[.string (Str s), .int .i64 b] w fun e w' => WholeR B s e ∧ Fr [] w w' := by
  have HP := Lib.hid hp
  have HT := Lib.hid ht
  obtain ⟨S, hS⟩ : ∃ S, Str s = S := ⟨_, rfl⟩
  rw [hS] at HP ⊢
  have HS := Lib.hid hS
  clear hp ht hS
  go_enter Tryd.func61, Tryd.ntmps61
  go_wp2_with fail
  refine HP.out.mono ?_
  clear HP
  rintro e w1 ⟨h1 | ⟨hn, n, t, p, hnn, rfl⟩, f1⟩
  · obtain ⟨hne, hd, hb, rfl⟩ := h1
    have C := fmtU_any (valV s) (by omega) w1 (HT.out.keep f1)
    obtain ⟨D, hD⟩ : ∃ D : ByteArray, (⟨(Lib.decDigits (valV s)).toArray⟩ : ByteArray) = D := ⟨_, rfl⟩
    rw [hD] at C
    have HC := Lib.hid C
    have H := Lib.hid (And.intro hb (And.intro f1 hD))
    clear hne hd hb f1 C hD
    by_cases he : D = S
    · subst he
      go_wp2_with fail
      refine HC.out.mono ?_
      clear HC
      rintro e w2 ⟨rfl, f2⟩
      have F2 := Lib.hid (H.out.2.1.trans0 f2)
      clear f2
      go_wp2
      go_ret2
      have hs : s = Lib.decDigits (valV s) := by
        have e := congrArg (fun b => b.data.toList) (HS.out.trans H.out.2.2.symm)
        simpa [Str] using e
      have hn : numB B s = some (valV s) := numB_some.2 ⟨hs, H.out.1⟩
      refine ⟨⟨valV s, ?_, fun m hm => ?_⟩, F2.out⟩
      · rw [hn]; rfl
      · rw [hn] at hm; injection hm
    · have hn : numB B s = none := by
        refine numB_none_of fun n e => absurd ?_ he
        rw [← H.out.2.2, ← HS.out]
        have : valV s = n := by rw [e, val_dec]
        rw [this, ← e]; rfl
      have HN := Lib.hid hn
      have hq := (Lib.bytes_beq_false_iff D S).2 he
      clear hn
      go_wp2_with fail
      refine HC.out.mono ?_
      clear HC
      rintro e w2 ⟨rfl, f2⟩
      have F2 := Lib.hid (H.out.2.1.trans0 f2)
      clear f2
      go_wp2
      go_ret2
      refine ⟨⟨valV s, ?_, fun m hm => ?_⟩, F2.out⟩
      · rw [HN.out]; rfl
      · rw [HN.out] at hm; cases hm
  · obtain ⟨k, hk⟩ : ∃ k : Nat, n = k := hnn
    subst hk
    have H := Lib.hid (And.intro hn f1)
    clear hn f1
    go_wp2
    go_ret2
    refine ⟨⟨k, ?_, fun m hm => ?_⟩, H.out.2⟩
    · rw [H.out.1]; rfl
    · rw [H.out.1] at hm; cases hm
theorem scriptWhole63 (s : List UInt8) (hs : s.length ≤ 1000000) (w : World) (hg : Glob w) : Calls Tryd.prog 61 #[.string (Str s), .int .i64 63] w fun e w' => WholeR 9223372036854775808 s e ∧ Fr [] w w' :=
  scriptWhole _ (by omega) 63 s w hg.tab (pub63 s hs w hg)
theorem scriptWhole64 (s : List UInt8) (hs : s.length ≤ 1000000) (w : World) (hg : Glob w) : Calls Tryd.prog 61 #[.string (Str s), .int .i64 64] w fun e w' => WholeR 18446744073709551616 s e ∧ Fr [] w w' :=
  scriptWhole _ (by omega) 64 s w hg.tab (pub64 s hs w hg)
end Go.Proofs.YtkdmodanfcpcfaaDoor
