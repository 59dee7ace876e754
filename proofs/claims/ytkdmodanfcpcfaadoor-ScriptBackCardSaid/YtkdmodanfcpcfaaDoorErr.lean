/- DERIVED. Chapter 51: the errors' words. -/
import Derived.Test.YtkdmodanfcpcfaaDoorTxt
namespace Go.Proofs.YtkdmodanfcpcfaaDoor
open Go.RowKit

def errL : List (List UInt8) := [[111, 107], [112, 108, 97, 110], [97, 114, 103, 117, 109, 101, 110, 116], [102, 117, 108, 108], [116, 104, 114, 101, 97, 100], [98, 117, 115, 121], [105, 100, 108, 101], [107, 105, 110, 100], [116, 101, 120, 116], [108, 105, 110, 101], [108, 111, 110, 103], [109, 111, 100, 101, 108], [111, 114, 100, 101, 114], [110, 111, 110, 101], [103, 101, 110, 101, 114, 97, 116, 105, 111, 110]]
def errT (e : Int) : List UInt8 := if e < 0 ∨ 15 ≤ e then Lib.itoa e else (errL[e.toNat]?).getD []
theorem errT_in {k : Nat} (h : k < 15) : ∃ l, errL[k]? = some l ∧ errT k = l ∧ l.length ≤ 10 ∧ (#[.string ⟨#[111, 107]⟩, .string ⟨#[112, 108, 97, 110]⟩, .string ⟨#[97, 114, 103, 117, 109, 101, 110, 116]⟩, .string ⟨#[102, 117, 108, 108]⟩, .string ⟨#[116, 104, 114, 101, 97, 100]⟩, .string ⟨#[98, 117, 115, 121]⟩, .string ⟨#[105, 100, 108, 101]⟩, .string ⟨#[107, 105, 110, 100]⟩, .string ⟨#[116, 101, 120, 116]⟩, .string ⟨#[108, 105, 110, 101]⟩, .string ⟨#[108, 111, 110, 103]⟩, .string ⟨#[109, 111, 100, 101, 108]⟩, .string ⟨#[111, 114, 100, 101, 114]⟩, .string ⟨#[110, 111, 110, 101]⟩, .string ⟨#[103, 101, 110, 101, 114, 97, 116, 105, 111, 110]⟩] : Array Value)[k]? = some (.string (Str l)) := by
  have hl : errL.length = 15 := rfl
  obtain ⟨l, hl2⟩ : ∃ l, errL[k]? = some l := ⟨_, List.getElem?_eq_getElem (by omega)⟩
  refine ⟨l, hl2, ?_, ?_, ?_⟩
  · unfold errT; rw [if_neg (by omega), Int.toNat_natCast, hl2]; rfl
  · have hall : ∀ l ∈ errL, l.length ≤ 10 := by decide
    exact hall l (List.mem_of_getElem? hl2)
  · have e1 : (#[.string ⟨#[111, 107]⟩, .string ⟨#[112, 108, 97, 110]⟩, .string ⟨#[97, 114, 103, 117, 109, 101, 110, 116]⟩, .string ⟨#[102, 117, 108, 108]⟩, .string ⟨#[116, 104, 114, 101, 97, 100]⟩, .string ⟨#[98, 117, 115, 121]⟩, .string ⟨#[105, 100, 108, 101]⟩, .string ⟨#[107, 105, 110, 100]⟩, .string ⟨#[116, 101, 120, 116]⟩, .string ⟨#[108, 105, 110, 101]⟩, .string ⟨#[108, 111, 110, 103]⟩, .string ⟨#[109, 111, 100, 101, 108]⟩, .string ⟨#[111, 114, 100, 101, 114]⟩, .string ⟨#[110, 111, 110, 101]⟩, .string ⟨#[103, 101, 110, 101, 114, 97, 116, 105, 111, 110]⟩] : Array Value) = (errL.map fun l => Value.string (Str l)).toArray := rfl
    rw [e1, List.getElem?_toArray, List.getElem?_map, hl2]; rfl
theorem err_len (e : Int) (h0 : -9223372036854775808 ≤ e) (h1 : e ≤ 9223372036854775807) : (Str (errT e)).size ≤ 21 := by
  unfold errT
  split
  · exact itoa_len e h0 h1
  · obtain ⟨k, rfl⟩ : ∃ k : Nat, e = k := ⟨e.toNat, by omega⟩
    obtain ⟨l, h2, _, h3, _⟩ := errT_in (k := k) (by omega)
    rw [Int.toNat_natCast, h2, Str.size]
    simp; omega

set_option maxRecDepth 20000 in
set_option maxHeartbeats 1000000 in
theorem error_any (e : Int) (h0 : -9223372036854775808 ≤ e) (h1 : e ≤ 9223372036854775807) (w : World) (ht : Tab w) :
    Calls Tryd.prog 8 #[.int .i64 e] w fun x w' => x = .returned (.string (Str (errT e))) ∧ Fr [] w w' := by
  have F0 : Fr [] w (w.alloc (.cells #[.string ⟨#[111, 107]⟩, .string ⟨#[112, 108, 97, 110]⟩, .string ⟨#[97, 114, 103, 117, 109, 101, 110, 116]⟩, .string ⟨#[102, 117, 108, 108]⟩, .string ⟨#[116, 104, 114, 101, 97, 100]⟩, .string ⟨#[98, 117, 115, 121]⟩, .string ⟨#[105, 100, 108, 101]⟩, .string ⟨#[107, 105, 110, 100]⟩, .string ⟨#[116, 101, 120, 116]⟩, .string ⟨#[108, 105, 110, 101]⟩, .string ⟨#[108, 111, 110, 103]⟩, .string ⟨#[109, 111, 100, 101, 108]⟩, .string ⟨#[111, 114, 100, 101, 114]⟩, .string ⟨#[110, 111, 110, 101]⟩, .string ⟨#[103, 101, 110, 101, 114, 97, 116, 105, 111, 110]⟩] 53)) := (Fr.refl _ _).alloc _
  by_cases hn : e < 0
  · have IT := itoa_any e h0 h1 _ (ht.keep F0)
    have hr : errT e = Lib.itoa e := by unfold errT; rw [if_pos (by omega)]
    rw [hr]
    simp only [Str.lit] at IT
    obtain ⟨s, hs⟩ : ∃ s, Str (Lib.itoa e) = s := ⟨_, rfl⟩
    rw [hs] at IT ⊢
    have HI := Lib.hid (And.intro IT F0)
    clear IT F0 hr hs ht
    go_enter Tryd.func8, Tryd.ntmps8
    go_wp2_with fail
    refine HI.out.1.mono ?_
    rintro x w1 ⟨rfl, f1⟩
    have HF := Lib.hid (HI.out.2.trans0 f1)
    clear f1 HI
    go_wp2
    go_ret
    exact ⟨rfl, HF.out⟩
  · by_cases hb : 15 ≤ e
    · have IT := itoa_any e h0 h1 _ (ht.keep F0)
      have hr : errT e = Lib.itoa e := by unfold errT; rw [if_pos (by omega)]
      rw [hr]
      simp only [Str.lit] at IT
      obtain ⟨s, hs⟩ : ∃ s, Str (Lib.itoa e) = s := ⟨_, rfl⟩
      rw [hs] at IT ⊢
      have HI := Lib.hid (And.intro IT F0)
      clear IT F0 hr hs ht
      go_enter Tryd.func8, Tryd.ntmps8
      go_wp2_with fail
      refine HI.out.1.mono ?_
      rintro x w1 ⟨rfl, f1⟩
      have HF := Lib.hid (HI.out.2.trans0 f1)
      clear f1 HI
      go_wp2
      go_ret
      exact ⟨rfl, HF.out⟩
    · obtain ⟨k, rfl⟩ : ∃ k : Nat, e = k := ⟨e.toNat, by omega⟩
      have hk : k < 15 := by omega
      obtain ⟨l, _, h3, _, h4⟩ := errT_in hk
      rw [h3]
      have hc := World.cell?_alloc_new w #[.string ⟨#[111, 107]⟩, .string ⟨#[112, 108, 97, 110]⟩, .string ⟨#[97, 114, 103, 117, 109, 101, 110, 116]⟩, .string ⟨#[102, 117, 108, 108]⟩, .string ⟨#[116, 104, 114, 101, 97, 100]⟩, .string ⟨#[98, 117, 115, 121]⟩, .string ⟨#[105, 100, 108, 101]⟩, .string ⟨#[107, 105, 110, 100]⟩, .string ⟨#[116, 101, 120, 116]⟩, .string ⟨#[108, 105, 110, 101]⟩, .string ⟨#[108, 111, 110, 103]⟩, .string ⟨#[109, 111, 100, 101, 108]⟩, .string ⟨#[111, 114, 100, 101, 114]⟩, .string ⟨#[110, 111, 110, 101]⟩, .string ⟨#[103, 101, 110, 101, 114, 97, 116, 105, 111, 110]⟩] 53 k
      rw [h4] at hc
      obtain ⟨s, hs⟩ : ∃ s, Str l = s := ⟨_, rfl⟩
      rw [hs] at hc h4 ⊢
      have HF := Lib.hid F0
      have hk2 : (k : Int) < 15 := by omega
      clear F0 h3 hs ht hn hb
      go_enter Tryd.func8, Tryd.ntmps8
      go_wp2
      go_ret
      exact ⟨rfl, HF.out⟩

set_option maxRecDepth 20000 in
set_option maxHeartbeats 1000000 in
theorem refError_any (e : Int) (h0 : -9223372036854775808 ≤ e) (h1 : e ≤ 9223372036854775807) (w : World) :
    Calls Tryd.prog 9 #[.int .i64 e] w fun x w' => x = .returned (.string (Str (errT e))) ∧ Fr [] w w' := by
  have F0 : Fr [] w (w.alloc (.cells #[.string ⟨#[111, 107]⟩, .string ⟨#[112, 108, 97, 110]⟩, .string ⟨#[97, 114, 103, 117, 109, 101, 110, 116]⟩, .string ⟨#[102, 117, 108, 108]⟩, .string ⟨#[116, 104, 114, 101, 97, 100]⟩, .string ⟨#[98, 117, 115, 121]⟩, .string ⟨#[105, 100, 108, 101]⟩, .string ⟨#[107, 105, 110, 100]⟩, .string ⟨#[116, 101, 120, 116]⟩, .string ⟨#[108, 105, 110, 101]⟩, .string ⟨#[108, 111, 110, 103]⟩, .string ⟨#[109, 111, 100, 101, 108]⟩, .string ⟨#[111, 114, 100, 101, 114]⟩, .string ⟨#[110, 111, 110, 101]⟩, .string ⟨#[103, 101, 110, 101, 114, 97, 116, 105, 111, 110]⟩] 9)) := (Fr.refl _ _).alloc _
  by_cases hn : e < 0
  · have IT := number_any e h0 h1 (w.alloc (.cells #[.string ⟨#[111, 107]⟩, .string ⟨#[112, 108, 97, 110]⟩, .string ⟨#[97, 114, 103, 117, 109, 101, 110, 116]⟩, .string ⟨#[102, 117, 108, 108]⟩, .string ⟨#[116, 104, 114, 101, 97, 100]⟩, .string ⟨#[98, 117, 115, 121]⟩, .string ⟨#[105, 100, 108, 101]⟩, .string ⟨#[107, 105, 110, 100]⟩, .string ⟨#[116, 101, 120, 116]⟩, .string ⟨#[108, 105, 110, 101]⟩, .string ⟨#[108, 111, 110, 103]⟩, .string ⟨#[109, 111, 100, 101, 108]⟩, .string ⟨#[111, 114, 100, 101, 114]⟩, .string ⟨#[110, 111, 110, 101]⟩, .string ⟨#[103, 101, 110, 101, 114, 97, 116, 105, 111, 110]⟩] 9))
    have hr : errT e = Lib.itoa e := by unfold errT; rw [if_pos (by omega)]
    rw [hr]
    simp only [Str.lit] at IT
    obtain ⟨s, hs⟩ : ∃ s, Str (Lib.itoa e) = s := ⟨_, rfl⟩
    rw [hs] at IT ⊢
    have HI := Lib.hid (And.intro IT F0)
    clear IT F0 hr hs
    go_enter Tryd.func9, Tryd.ntmps9
    go_wp2_with fail
    refine HI.out.1.mono ?_
    rintro x w1 ⟨rfl, f1⟩
    have HF := Lib.hid (HI.out.2.trans0 f1)
    clear f1 HI
    go_wp2
    go_ret
    exact ⟨rfl, HF.out⟩
  · by_cases hb : 15 ≤ e
    · have IT := number_any e h0 h1 (w.alloc (.cells #[.string ⟨#[111, 107]⟩, .string ⟨#[112, 108, 97, 110]⟩, .string ⟨#[97, 114, 103, 117, 109, 101, 110, 116]⟩, .string ⟨#[102, 117, 108, 108]⟩, .string ⟨#[116, 104, 114, 101, 97, 100]⟩, .string ⟨#[98, 117, 115, 121]⟩, .string ⟨#[105, 100, 108, 101]⟩, .string ⟨#[107, 105, 110, 100]⟩, .string ⟨#[116, 101, 120, 116]⟩, .string ⟨#[108, 105, 110, 101]⟩, .string ⟨#[108, 111, 110, 103]⟩, .string ⟨#[109, 111, 100, 101, 108]⟩, .string ⟨#[111, 114, 100, 101, 114]⟩, .string ⟨#[110, 111, 110, 101]⟩, .string ⟨#[103, 101, 110, 101, 114, 97, 116, 105, 111, 110]⟩] 9))
      have hr : errT e = Lib.itoa e := by unfold errT; rw [if_pos (by omega)]
      rw [hr]
      simp only [Str.lit] at IT
      obtain ⟨s, hs⟩ : ∃ s, Str (Lib.itoa e) = s := ⟨_, rfl⟩
      rw [hs] at IT ⊢
      have HI := Lib.hid (And.intro IT F0)
      clear IT F0 hr hs
      go_enter Tryd.func9, Tryd.ntmps9
      go_wp2_with fail
      refine HI.out.1.mono ?_
      rintro x w1 ⟨rfl, f1⟩
      have HF := Lib.hid (HI.out.2.trans0 f1)
      clear f1 HI
      go_wp2
      go_ret
      exact ⟨rfl, HF.out⟩
    · obtain ⟨k, rfl⟩ : ∃ k : Nat, e = k := ⟨e.toNat, by omega⟩
      have hk : k < 15 := by omega
      obtain ⟨l, _, h3, _, h4⟩ := errT_in hk
      rw [h3]
      have hc := World.cell?_alloc_new w #[.string ⟨#[111, 107]⟩, .string ⟨#[112, 108, 97, 110]⟩, .string ⟨#[97, 114, 103, 117, 109, 101, 110, 116]⟩, .string ⟨#[102, 117, 108, 108]⟩, .string ⟨#[116, 104, 114, 101, 97, 100]⟩, .string ⟨#[98, 117, 115, 121]⟩, .string ⟨#[105, 100, 108, 101]⟩, .string ⟨#[107, 105, 110, 100]⟩, .string ⟨#[116, 101, 120, 116]⟩, .string ⟨#[108, 105, 110, 101]⟩, .string ⟨#[108, 111, 110, 103]⟩, .string ⟨#[109, 111, 100, 101, 108]⟩, .string ⟨#[111, 114, 100, 101, 114]⟩, .string ⟨#[110, 111, 110, 101]⟩, .string ⟨#[103, 101, 110, 101, 114, 97, 116, 105, 111, 110]⟩] 9 k
      rw [h4] at hc
      obtain ⟨s, hs⟩ : ∃ s, Str l = s := ⟨_, rfl⟩
      rw [hs] at hc h4 ⊢
      have HF := Lib.hid F0
      have hk2 : (k : Int) < 15 := by omega
      clear F0 h3 hs hn hb
      go_enter Tryd.func9, Tryd.ntmps9
      go_wp2
      go_ret
      exact ⟨rfl, HF.out⟩
end Go.Proofs.YtkdmodanfcpcfaaDoor
