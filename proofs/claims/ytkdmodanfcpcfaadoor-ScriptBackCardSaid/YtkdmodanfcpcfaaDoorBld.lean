/- DERIVED. strings.Builder at this dump: WriteString, Len, String. -/
import Derived.Test.YtkdmodanfcpcfaaDoorShelfB
import Derived.Test.YtkdmodanfcpcfaaDoorTxt
namespace Go.Proofs.YtkdmodanfcpcfaaDoor
open Go.RowKit

/-- a builder in block b that holds the text l -/
def Bld (b : Nat) (l : List UInt8) (w : World) : Prop := Lib.IsBuilder 72 5 b b (Lib.byteCells l) w
theorem Bld.lt {b : Nat} {l : List UInt8} {w : World} (h : Bld b l w) : b < w.heap.size := by
  rcases h with h | h <;> exact h.lt
theorem Bld.new (w : World) : Bld w.heap.size [] (w.alloc (.cells #[.pointer none, .slice none 0 0] 72)) := Lib.fresh_isBuilder _ _ w
theorem Bld.keep {b : Nat} {l : List UInt8} {w w' : World} (h : Bld b l w) (hf : Fr [] w w') : Bld b l w' := by
  have key : ∀ p, Lib.BuilderAt 72 5 b b p (Lib.byteCells l) w → Lib.BuilderAt 72 5 b b p (Lib.byteCells l) w' := by
    rintro p ⟨hB, v, hb, hown, hne⟩
    refine ⟨hB, v, ?_, hown.kept (row := none) ⟨hf.os, hf.tape, hf.output, hf.size, fun k hk _ => hf.block k hk (by simp)⟩ (by by_cases hh : v.ownBlock = none; exact .inl hh; exact .inr hh), hne⟩
    rw [hf.block b (Array.getElem?_eq_some_iff.1 hb).1 (by simp)]
    exact hb
  rcases h with h | h
  · exact .inl (key _ h)
  · exact .inr (key _ h)
theorem wstr_any (b : Nat) (l s : List UInt8) (hl : l.length + s.length ≤ 1000000) (w : World) (h : Bld b l w) :
    Calls Tryd.prog 38 #[.pointer (some ⟨b, 0, none⟩), .string (Str s)] w fun e w' => e = .returned (.tuple #[.int .i64 (Str s).size, .nilIface]) ∧ Bld b (l ++ s) w' ∧ Below b w w' := by
  refine (Any.Builder_WriteString (P := Tryd.prog) (ρ := Tryd.lays156_ren) { Tryd.lays156 with } Tryd.Builder_Extra_156 b b (Lib.byteCells l) (Str s) w h (by rw [Lib.byteCells_length, Str.size]; omega) (Nat.le_of_lt h.lt)).mono ?_
  rintro e w' ⟨rfl, h2, h3⟩
  refine ⟨rfl, .inr ?_, h3⟩
  have : Lib.byteCells (l ++ s) = Lib.byteCells l ++ Lib.strCells (Str s) := by simp [Lib.byteCells, Lib.strCells, Str]
  rw [this]
  exact h2
theorem bstr_any (b : Nat) (l : List UInt8) (w : World) (h : Bld b l w) :
    Calls Tryd.prog 41 #[.pointer (some ⟨b, 0, none⟩)] w fun e w' => e = .returned (.string (Str l)) ∧ Below b w w' :=
  Any.Builder_String_any (P := Tryd.prog) (ρ := Tryd.lays156_ren) { Tryd.lays156 with } { Tryd.Builder_Extra_156 with } b b l w h (Nat.le_of_lt h.lt)
set_option maxRecDepth 20000 in
theorem blen_any (b : Nat) (l : List UInt8) (w : World) (h : Bld b l w) :
    Calls Tryd.prog 40 #[.pointer (some ⟨b, 0, none⟩)] w fun e w' => e = .returned (.int .i64 l.length) ∧ w' = w := by
  obtain ⟨p, hB, v, hbk, hown, hne⟩ : ∃ p, Lib.BuilderAt 72 5 b b p (Lib.byteCells l) w := by
    rcases h with h | h
    · exact ⟨_, h⟩
    · exact ⟨_, h⟩
  obtain ⟨ao, cap, rfl⟩ : ∃ ao cap, v = .slice ao l.length cap := by
    rcases hown.2 with ⟨hv, h0⟩ | ⟨g, cap, cur, hv, _⟩
    · exact ⟨none, 0, by rw [hv]; rw [Lib.byteCells_length] at h0; rw [h0]⟩
    · exact ⟨_, _, by rw [hv, Lib.byteCells_length]⟩
  have c1 : w.cell? ⟨b, 1, none⟩ = some (.slice ao l.length cap) := by rw [Lib.cell_of_heap hbk]; rfl
  clear hown hbk hne hB h
  go_enter Tryd.func40, Tryd.ntmps40
  go_wp2
  go_ret
  exact ⟨rfl, rfl⟩
end Go.Proofs.YtkdmodanfcpcfaaDoor
