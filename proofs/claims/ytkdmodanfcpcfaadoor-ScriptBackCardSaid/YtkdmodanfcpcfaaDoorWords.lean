/- DERIVED. Chapter 51: show, words, at texts and at numbers. -/
import Derived.Test.YtkdmodanfcpcfaaDoorErr
namespace Go.Proofs.YtkdmodanfcpcfaaDoor
open Go.RowKit

def encS : Enc (List UInt8) := ⟨1, fun l => [.string (Str l)], fun _ => rfl, by decide, fun _ u h => by simp at h; subst h; rfl⟩
theorem slS : SlTy Tryd.prog 55 9 encS := SlTy.mk' (.string ⟨#[]⟩) 16 Tryd.underlying55 (by kernel_rfl) rfl (by decide)
theorem lenS {w : World} {v : Value} {xs : List (List UInt8)} {b off : Nat} (h : RdAt encS w v xs b off) (ty : TypeId) (W : World) :
    Sem.run Tryd.prog (Builtin.len_ #[55] ty #[v]) W = .ok (.int .i64 xs.length) W := h.len _ _ Tryd.underlying55 W
theorem idxS {w : World} {v : Value} {xs : List (List UInt8)} {b off : Nat} (h : RdAt encS w v xs b off) {k : Nat} (hk : k < xs.length) (W : World) :
    Sem.run Tryd.prog (Instr.indexAt 55 v (.int .i64 k)) W = .ok (.pointer (some ⟨b, off + k, none⟩)) W := by
  have := h.idx slS k hk W; simpa [encS] using this
theorem cellS {w : World} {v : Value} {xs : List (List UInt8)} {b off : Nat} (h : RdAt encS w v xs b off) {k : Nat} {x : List UInt8} (hx : xs[k]? = some x) : w.cell? ⟨b, off + k, none⟩ = some (.string (Str x)) := by
  have := h.cell k x hx 0 (by decide); simpa [encS] using this
theorem slInt : SlTy Tryd.prog 96 3 encI := SlTy.mk' (.int .i64 0) 8 Tryd.underlying96 (by kernel_rfl) rfl (by decide)
theorem lenInt {w : World} {v : Value} {xs : List Int} {b off : Nat} (h : RdAt encI w v xs b off) (ty : TypeId) (W : World) :
    Sem.run Tryd.prog (Builtin.len_ #[96] ty #[v]) W = .ok (.int .i64 xs.length) W := h.len _ _ Tryd.underlying96 W
theorem idxInt {w : World} {v : Value} {xs : List Int} {b off : Nat} (h : RdAt encI w v xs b off) {k : Nat} (hk : k < xs.length) (W : World) :
    Sem.run Tryd.prog (Instr.indexAt 96 v (.int .i64 k)) W = .ok (.pointer (some ⟨b, off + k, none⟩)) W := by
  have := h.idx slInt k hk W; simpa [encI] using this
theorem cellInt {w : World} {v : Value} {xs : List Int} {b off : Nat} (h : RdAt encI w v xs b off) {k : Nat} {x : Int} (hx : xs[k]? = some x) : w.cell? ⟨b, off + k, none⟩ = some (.int .i64 x) := by
  have := h.cell k x hx 0 (by decide); simpa [encI] using this

theorem ta_int (n : Int) (W : World) : Sem.run Tryd.prog (Instr.typeAssert (.iface 3 (.int .i64 n)) 20 3 true) W = .ok (.tuple #[.int .i64 n, .bool true]) W := by kernel_rfl
theorem ta_no (s : ByteArray) (W : World) : Sem.run Tryd.prog (Instr.typeAssert (.iface 9 (.string s)) 20 3 true) W = .ok (.tuple #[.int .i64 0, .bool false]) W := by kernel_rfl
theorem ta_str (s : ByteArray) (W : World) : Sem.run Tryd.prog (Instr.typeAssert (.iface 9 (.string s)) 20 9 true) W = .ok (.tuple #[.string s, .bool true]) W := by kernel_rfl
set_option maxRecDepth 20000 in
set_option maxHeartbeats 1000000 in
theorem showS_any (s : ByteArray) (w : World) : Calls Tryd.prog 49 #[.string s] w fun e w' => e = .returned (.string s) ∧ w = w' := by
  have t1 := fun W => ta_no s W
  have t2 := fun W => ta_str s W
  go_enter Tryd.func49, Tryd.ntmps49
  go_wp2
  go_ret
  exact ⟨rfl, rfl⟩
set_option maxRecDepth 20000 in
set_option maxHeartbeats 1000000 in
theorem showI_any (n : Int) (h0 : -9223372036854775808 ≤ n) (h1 : n ≤ 9223372036854775807) (w : World) (ht : Tab w) : Calls Tryd.prog 57 #[.int .i64 n] w fun e w' => e = .returned (.string (Str (Lib.itoa n))) ∧ Fr [] w w' := by
  have IT := itoa_any n h0 h1 w ht
  simp only [Str.lit] at IT
  obtain ⟨s, hs⟩ : ∃ s, Str (Lib.itoa n) = s := ⟨_, rfl⟩
  rw [hs] at IT ⊢
  have HI := Lib.hid IT
  have t1 := fun W => ta_int n W
  clear IT ht hs
  go_enter Tryd.func57, Tryd.ntmps57
  go_wp2_with fail
  refine HI.out.mono ?_
  rintro e w1 ⟨rfl, f1⟩
  have HF := Lib.hid f1
  clear f1 HI
  go_wp2
  go_ret
  exact ⟨rfl, HF.out⟩

def wordsT (a : List UInt8) (l : List (List UInt8)) : List UInt8 := a ++ l.flatMap fun x => 32 :: x
theorem wordsT_snoc (a : List UInt8) (l : List (List UInt8)) {k : Nat} {x : List UInt8} (h : l[k]? = some x) : Str (wordsT a (l.take (k + 1))) = Str (wordsT a (l.take k)) ++ (⟨#[32]⟩ ++ Str x) := by
  rw [show (⟨#[32]⟩ : ByteArray) = Str [32] from rfl, Str.app, Str.app, take_at h]
  simp [wordsT]
theorem wordsT_le (a : List UInt8) (l : List (List UInt8)) (k : Nat) : (wordsT a (l.take k)).length ≤ (wordsT a l).length := by
  have h : wordsT a l = wordsT a (l.take k) ++ (l.drop k).flatMap fun x => 32 :: x := by
    simp only [wordsT, List.append_assoc]
    rw [← List.flatMap_append, List.take_append_drop]
  rw [h, List.length_append]; omega
theorem wordsT_mem (a : List UInt8) (l : List (List UInt8)) {x : List UInt8} (h : x ∈ l) : x.length ≤ (wordsT a l).length := by
  induction l with
  | nil => simp at h
  | cons y l ih =>
    simp only [wordsT, List.flatMap_cons, List.length_append, List.length_cons] at ih ⊢
    rcases List.mem_cons.1 h with rfl | h
    · omega
    · have := ih h; omega

set_option maxRecDepth 20000 in
set_option maxHeartbeats 1000000 in
theorem wordsS_any (a : List UInt8) (v : Value) (l : List (List UInt8)) (w : World) (hl : Rd encS w v l) (hb : (wordsT a l).length ≤ 1000000) (hn : l.length ≤ 1000000) :
    Calls Tryd.prog 25 #[.string (Str a), v] w fun e w' => e = .returned (.string (Str (wordsT a l))) ∧ w = w' := by
  obtain ⟨b, o, hl⟩ := hl
  have l1 := lenS hl
  have HH := Lib.hid (And.intro hl hb)
  clear hl hb
  obtain ⟨s, hs⟩ : ∃ s, Str a = s := ⟨_, rfl⟩
  have HS := Lib.hid hs
  rw [hs]
  clear hs
  go_enter Tryd.func25, Tryd.ntmps25
  go_wp2
  go_loop [0, 9] (fun q i => ∃ k : Nat, k ≤ l.length ∧ i = .int .i64 k ∧ q = .string (Str (wordsT a (l.take k)))) (fun _ i => l.length - (intOf i).toNat)
  case atStart => exact ⟨0, by omega, rfl, by rw [← HS.out]; simp [wordsT]⟩
  case round =>
    obtain ⟨k, hk, rfl, rfl⟩ := hrel
    by_cases hlt : k < l.length
    · obtain ⟨x, hx⟩ := at_of l hlt
      have i1 := idxS HH.out.1 hlt
      have c1 := cellS HH.out.1 hx
      have z1 := wordsT_le a l k
      have z2 := wordsT_mem a l (List.mem_of_getElem? hx)
      have z3 := HH.out.2
      have z4 : (Str (wordsT a (l.take k))).size ≤ 1000000 := by rw [Str.size]; omega
      have z5 : (Str x).size ≤ 1000000 := by rw [Str.size]; omega
      have hsn := wordsT_snoc a l hx
      clear z1 z2 z3 hx
      obtain ⟨p, hp⟩ : ∃ p, Str (wordsT a (l.take k)) = p := ⟨_, rfl⟩
      obtain ⟨r, hr⟩ : ∃ r, Str x = r := ⟨_, rfl⟩
      rw [hp, hr] at hsn
      rw [hp] at z4 ⊢
      rw [hr] at z5 c1
      have HN := Lib.hid hsn
      clear hp hr hsn
      go_wp2_with (go_at_call 49; refine (showS_any _ _).mono ?_; rintro e w' ⟨rfl, rfl⟩)
      go_round
      case rel => exact ⟨k + 1, by omega, by go_num, by rw [HN.out]⟩
      case measure => simp [intOf]; omega
    · have hkl : k = l.length := by omega
      subst hkl
      rw [List.take_length]
      go_wp2
      go_ret
      exact ⟨rfl, rfl⟩

def wordsI (a : List UInt8) (l : List Int) : List UInt8 := wordsT a (l.map Lib.itoa)
set_option maxRecDepth 20000 in
set_option maxHeartbeats 1000000 in
theorem wordsI_any (a : List UInt8) (v : Value) (l : List Int) (w : World) (hl : Rd encI w v l) (ht : Tab w) (ho : ∀ n ∈ l, -9223372036854775808 ≤ n ∧ n ≤ 9223372036854775807) (hb : (wordsI a l).length ≤ 1000000) (hn : l.length ≤ 1000000) :
    Calls Tryd.prog 31 #[.string (Str a), v] w fun e w' => e = .returned (.string (Str (wordsI a l))) ∧ Fr [] w w' := by
  obtain ⟨b, o, hl⟩ := hl
  have l1 := lenInt hl
  have HH := Lib.hid (And.intro hl (And.intro hb (And.intro ht ho)))
  clear hl hb ht ho
  obtain ⟨s, hs⟩ : ∃ s, Str a = s := ⟨_, rfl⟩
  have HS := Lib.hid hs
  rw [hs]
  clear hs
  go_enter Tryd.func31, Tryd.ntmps31
  go_wp2
  go_loopw [0, 9] (fun q i wr => ∃ k : Nat, k ≤ l.length ∧ i = .int .i64 k ∧ q = .string (Str (wordsI a (l.take k))) ∧ Fr [] w wr) (fun _ i _ => l.length - (intOf i).toNat)
  case atStart => exact ⟨0, by omega, rfl, by rw [← HS.out]; simp [wordsT, wordsI], Fr.refl _ _⟩
  case round =>
    obtain ⟨k, hk, rfl, rfl, hF⟩ := hrel
    by_cases hlt : k < l.length
    · obtain ⟨x, hx⟩ := at_of l hlt
      have i1 := idxInt HH.out.1 hlt
      have c1 := cellInt (HH.out.1.keep0 hF) hx
      have hx2 : (l.map Lib.itoa)[k]? = some (Lib.itoa x) := by rw [List.getElem?_map, hx]; rfl
      have z1 := wordsT_le a (l.map Lib.itoa) k
      have z2 := wordsT_mem a (l.map Lib.itoa) (List.mem_of_getElem? hx2)
      have z3 : (wordsT a (l.map Lib.itoa)).length ≤ 1000000 := HH.out.2.1
      have z4 : (Str (wordsI a (l.take k))).size ≤ 1000000 := by rw [Str.size]; unfold wordsI; rw [List.map_take]; omega
      have z5 : (Str (Lib.itoa x)).size ≤ 1000000 := by rw [Str.size]; omega
      have hsn : Str (wordsI a (l.take (k + 1))) = Str (wordsI a (l.take k)) ++ (⟨#[32]⟩ ++ Str (Lib.itoa x)) := by
        have := wordsT_snoc a (l.map Lib.itoa) hx2
        unfold wordsI; rw [List.map_take, List.map_take]; exact this
      have SH := showI_any x (HH.out.2.2.2 x (List.mem_of_getElem? hx)).1 (HH.out.2.2.2 x (List.mem_of_getElem? hx)).2 wr (HH.out.2.2.1.keep hF)
      clear z1 z2 z3 hx hx2
      obtain ⟨p, hp⟩ : ∃ p, Str (wordsI a (l.take k)) = p := ⟨_, rfl⟩
      obtain ⟨r, hr⟩ : ∃ r, Str (Lib.itoa x) = r := ⟨_, rfl⟩
      rw [hp, hr] at hsn
      rw [hp] at z4 ⊢
      rw [hr] at z5 SH
      have HN := Lib.hid (And.intro hsn hF)
      have HSH := Lib.hid SH
      clear hp hr hsn SH hF
      go_wp2_with fail
      refine HSH.out.mono ?_
      rintro e w1 ⟨rfl, f1⟩
      have HE := Lib.hid (HN.out.2.trans0 f1)
      clear f1 HSH
      go_wp2
      go_roundw
      case rel => exact ⟨k + 1, by omega, by go_num, by rw [HN.out.1], HE.out⟩
      case measure => simp [intOf]; omega
    · have hkl : k = l.length := by omega
      subst hkl
      rw [List.take_length]
      go_wp2
      go_ret
      exact ⟨rfl, hF⟩
end Go.Proofs.YtkdmodanfcpcfaaDoor
