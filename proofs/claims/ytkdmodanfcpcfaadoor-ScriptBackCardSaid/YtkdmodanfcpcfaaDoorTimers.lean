/- DERIVED. Chapter 51: timers' texts, of the program and of the reference. -/
import Derived.Test.YtkdmodanfcpcfaaDoorWords
import Derived.Test.YtkdmodanfcpcfaaDoorApp
namespace Go.Proofs.YtkdmodanfcpcfaaDoor
open Go.RowKit

structure DueR where
  handle : Nat
  deadline : Int
  seq : Int
def DueR.cs (d : DueR) : List Value := [.int .u64 d.handle, .int .i64 d.deadline, .int .u64 d.seq]
def encDue : Enc DueR := ⟨3, DueR.cs, fun _ => rfl, by decide, fun a u h => by simp only [DueR.cs, List.mem_cons, List.not_mem_nil, or_false] at h; rcases h with rfl | rfl | rfl <;> rfl⟩
structure DueR.ok (d : DueR) : Prop where
  handle : d.handle < 18446744073709551616
  lo : -9223372036854775808 ≤ d.deadline
  hi : d.deadline ≤ 9223372036854775807
theorem slDue : SlTy Tryd.prog 26 88 encDue := SlTy.mk' (.agg #[.int .u64 0, .int .i64 0, .int .u64 0]) 24 Tryd.underlying26 (by kernel_rfl) rfl (by decide)
theorem lenDue {w : World} {v : Value} {xs : List DueR} {b off : Nat} (h : RdAt encDue w v xs b off) (ty : TypeId) (W : World) :
    Sem.run Tryd.prog (Builtin.len_ #[26] ty #[v]) W = .ok (.int .i64 xs.length) W := h.len _ _ Tryd.underlying26 W
theorem idxDue {w : World} {v : Value} {xs : List DueR} {b off : Nat} (h : RdAt encDue w v xs b off) {k : Nat} (hk : k < xs.length) (W : World) :
    Sem.run Tryd.prog (Instr.indexAt 26 v (.int .i64 k)) W = .ok (.pointer (some ⟨b, off + k * 3, none⟩)) W := h.idx slDue k hk W
theorem dueAt {w : World} {v : Value} {xs : List DueR} {b off : Nat} (h : RdAt encDue w v xs b off) {k : Nat} {d : DueR} (hx : xs[k]? = some d) :
    w.cell? ⟨b, off + k * 3, none⟩ = some (.int .u64 d.handle) ∧ w.cell? ⟨b, off + k * 3 + 1, none⟩ = some (.int .i64 d.deadline) ∧ w.cell? ⟨b, off + k * 3 + 2, none⟩ = some (.int .u64 d.seq) := by
  have c := h.cell k d hx
  exact ⟨c 0 (by decide), c 1 (by decide), c 2 (by decide)⟩

def dueT (d : DueR) : List UInt8 := handleT d.handle ++ 64 :: Lib.itoa d.deadline
def timersT (l : List DueR) : List UInt8 := l.flatMap fun d => 32 :: dueT d
theorem dueT_eq (d : DueR) : Str (dueT d) = Str (handleT d.handle) ++ ⟨#[64]⟩ ++ Str (Lib.itoa d.deadline) := by
  rw [show (⟨#[64]⟩ : ByteArray) = Str [64] from rfl, Str.app, Str.app]; simp [dueT]
theorem due_len {d : DueR} (h : d.ok) : (dueT d).length ≤ 63 := by
  have h1 := handle_len h.handle
  have h2 := itoa_len d.deadline h.lo h.hi
  rw [Str.size] at h1 h2
  simp [dueT]; omega
theorem timers_len {l : List DueR} (h : ∀ d ∈ l, d.ok) : (timersT l).length ≤ 64 * l.length := by
  induction l with
  | nil => simp [timersT]
  | cons d l ih =>
    have h1 := due_len (h d (by simp))
    have h2 := ih (fun d hd => h d (by simp [hd]))
    simp only [timersT, List.flatMap_cons, List.length_append, List.length_cons] at h2 ⊢
    omega
theorem timers_words (a : List UInt8) (l : List DueR) : wordsT a (l.map dueT) = a ++ timersT l := by simp [wordsT, timersT, List.flatMap_map]

set_option maxRecDepth 20000 in
set_option maxHeartbeats 2000000 in
theorem timers_any (v : Value) (l : List DueR) (w : World) (hl : Rd encDue w v l) (ht : Tab w) (ho : ∀ d ∈ l, d.ok) (hn : l.length ≤ 100) :
    Calls Tryd.prog 26 #[v] w fun e w' => ∃ v', e = .returned v' ∧ Rd encS w' v' (l.map dueT) ∧ Fr [] w w' := by
  obtain ⟨b, o, hl⟩ := hl
  have l1 := lenDue hl
  have HH := Lib.hid (And.intro hl (And.intro ht ho))
  clear hl ht ho
  go_enter Tryd.func26, Tryd.ntmps26
  go_wp2
  go_loopw [3, 8] (fun q i wr => ∃ k : Nat, k ≤ l.length ∧ i = .int .i64 k ∧ Own encS 9 wr q ((l.take k).map dueT) ∧ New w.heap.size q ∧ Fr [] w wr) (fun _ i _ => l.length - (intOf i).toNat)
  case atStart => exact ⟨0, by omega, rfl, Own.nil _ _ _, New.nil _, Fr.refl _ _⟩
  case round =>
    obtain ⟨k, hk, rfl, hO, hN, hF⟩ := hrel
    by_cases hlt : k < l.length
    · obtain ⟨d, hd⟩ := at_of l hlt
      have hok := HH.out.2.2 d (List.mem_of_getElem? hd)
      have i1 := idxDue HH.out.1 hlt
      have c1 := dueAt (HH.out.1.keep0 hF) hd
      have F1 : Fr [] wr (wr.alloc (.cells #[.int .u64 d.handle, .int .i64 d.deadline, .int .u64 d.seq] 88)) := (Fr.refl _ _).alloc _
      have B1 := Box.new wr #[.int .u64 d.handle, .int .i64 d.deadline, .int .u64 d.seq] 88
      have HO := Lib.hid (And.intro hO (And.intro hN (And.intro hF (And.intro hd (And.intro F1 B1)))))
      clear hO hN hF hd F1 B1
      go_upto_region 5 with (fail)
      obtain ⟨hO, hN, hF, hd, F1, B1⟩ := HO.out
      clear HO i1 c1
      have ne : ∀ y ∈ sblk u3, y ≠ wr.heap.size := fun y hy => Nat.ne_of_lt (hO.lt y hy)
      obtain ⟨eb, heb⟩ : ∃ eb, wr.heap.size = eb := ⟨_, rfl⟩
      rw [heb] at B1 ne ⊢
      obtain ⟨u, hu⟩ : ∃ u, wr.alloc (.cells #[.int .u64 d.handle, .int .i64 d.deadline, .int .u64 d.seq] 88) = u := ⟨_, rfl⟩
      rw [hu] at F1 B1 ⊢
      have hOu := hO.keep0 F1
      have hFu := hF.trans0 F1
      clear hu heb hO hF F1
      have A := fun W (hW : Fr [] u W) => handle_any d.handle hok.handle W (HH.out.2.1.keep (hFu.trans0 hW))
      have C := fun W (hW : Fr [] u W) => itoa_any d.deadline hok.lo hok.hi W (HH.out.2.1.keep (hFu.trans0 hW))
      simp only [Str.lit] at C
      have s1 := handle_len hok.handle
      have s2 := itoa_len d.deadline hok.lo hok.hi
      have hr := dueT_eq d
      have b1 := B1.cell
      obtain ⟨a, ha⟩ : ∃ a, Str (handleT d.handle) = a := ⟨_, rfl⟩
      obtain ⟨c, hc⟩ : ∃ c, Str (Lib.itoa d.deadline) = c := ⟨_, rfl⟩
      rw [ha] at A s1 hr
      rw [hc] at C s2 hr
      have z1 : ¬ (9223372036854775807 < a.size + 1) := by omega
      have z2 : ¬ (9223372036854775807 < a.size + 1 + c.size) := by omega
      have facts : ∀ S W, eb ∉ S → Fr S u W → (W.cell? ⟨eb, 0, none⟩ = some (.int .u64 d.handle) ∧ W.cell? ⟨eb, 1, none⟩ = some (.int .i64 d.deadline)) := fun S W hS hW => ⟨(B1.keep hW hS).cell 0, (B1.keep hW hS).cell 1⟩
      have FA := Lib.hid facts
      have HA := Lib.hid A
      have HC := Lib.hid C
      have HO := Lib.hid (And.intro hOu (And.intro hN (And.intro hFu (And.intro hd hr))))
      have hfr0 : Fr [] u u.drew := (Fr.refl _ _).drew
      clear A C hr ha hc hd hOu hN hFu B1 hok facts b1
      go_region_held3 (fun W => (W.cell? ⟨eb, 0, none⟩ = some (.int .u64 d.handle) ∧ W.cell? ⟨eb, 1, none⟩ = some (.int .i64 d.deadline)))
        (first
          | exact FA.out [] _ (by simp) hfr0
          | exact FA.out [] _ (by simp) (hfr0.trans0 f6)
          | exact FA.out [] _ (by simp) ((hfr0.trans0 f6).trans0 f7)
          | exact FA.out [] _ (by simp) (((hfr0.trans0 f6).trans0 f7).alloc _)
          | exact FA.out (sblk u3) _ (fun h => ne eb h rfl) ((((hfr0.trans0 f6).trans0 f7).mono (by simp)).transS f8))
        (first
          | (go_at_call 27; with_reducible refine (HA.out _ hfr0).mono ?_; rintro e w6 ⟨rfl, f6⟩)
          | (go_at_call 23; with_reducible refine (HC.out _ (hfr0.trans0 f6)).mono ?_; rintro e w7 ⟨rfl, f7⟩)
          | (refine step_app encS slS rfl _ _ rfl (HO.out.1.keep0 ((hfr0.trans0 f6).trans0 f7)) (dueT d) rfl rfl (by simp; omega) (by show [Value.string _] = [Value.string (Str (dueT d))]; rw [HO.out.2.2.2.2]) ?_; intro v8 w8 hO8 f8 hw8 _))
      obtain ⟨hOu, hN, hFu, hd, hr⟩ := HO.out
      have F7 := (hFu.trans0 hfr0).trans0 (f6.trans0 f7)
      have HQ : Own encS 9 w8 v8 ((l.take (k + 1)).map dueT) ∧ New w.heap.size v8 ∧ Fr [] w w8 := by
        refine ⟨?_, hN.step F7.size hw8, F7.new f8 hN⟩
        rw [take_at hd, List.map_append]; exact hO8
      have HR := Lib.hid HQ
      clear HQ hOu hN hFu hd hr F7 HO HA HC FA hfr0 f6 f7 f8 hO8 hw8 ne z1 z2 s1 s2
      go_wp2
      go_roundw
      case rel => exact ⟨k + 1, by omega, by go_num, HR.out⟩
      case measure => simp [intOf]; omega
    · have hkl : k = l.length := by omega
      subst hkl
      rw [List.take_length] at hO
      obtain ⟨gv, hgv⟩ := hO.rd
      have HO := Lib.hid (And.intro hgv hF)
      clear hO hN hF hgv
      go_wp2
      go_ret
      exact ⟨_, rfl, ⟨gv, 0, HO.out.1⟩, HO.out.2⟩

theorem timersT_snoc (l : List DueR) {k : Nat} {d : DueR} (h : l[k]? = some d) : Str (timersT (l.take (k + 1))) = Str (timersT (l.take k)) ++ ⟨#[32]⟩ ++ Str (handleT d.handle) ++ ⟨#[64]⟩ ++ Str (Lib.itoa d.deadline) := by
  rw [show (⟨#[32]⟩ : ByteArray) = Str [32] from rfl, show (⟨#[64]⟩ : ByteArray) = Str [64] from rfl, Str.app, Str.app, Str.app, Str.app, take_at h]
  simp [timersT, dueT]

set_option maxRecDepth 20000 in
set_option maxHeartbeats 2000000 in
theorem refTimers_any (v : Value) (l : List DueR) (w : World) (hl : Rd encDue w v l) (ho : ∀ d ∈ l, d.ok) (hn : l.length ≤ 100) :
    Calls Tryd.prog 28 #[v] w fun e w' => e = .returned (.string (Str (timersT l))) ∧ Fr [] w w' := by
  obtain ⟨b, o, hl⟩ := hl
  have l1 := lenDue hl
  have HH := Lib.hid (And.intro hl ho)
  clear hl ho
  go_enter Tryd.func28, Tryd.ntmps28
  go_wp2
  go_loopw [3, 4] (fun q i wr => ∃ k : Nat, k ≤ l.length ∧ i = .int .i64 k ∧ q = .string (Str (timersT (l.take k))) ∧ Fr [] w wr) (fun _ i _ => l.length - (intOf i).toNat)
  case atStart => exact ⟨0, by omega, rfl, rfl, Fr.refl _ _⟩
  case round =>
    obtain ⟨k, hk, rfl, rfl, hF⟩ := hrel
    by_cases hlt : k < l.length
    · obtain ⟨d, hd⟩ := at_of l hlt
      have hok := HH.out.2 d (List.mem_of_getElem? hd)
      have i1 := idxDue HH.out.1 hlt
      have A := fun W => refHandle_any d.handle hok.handle W
      have C := fun W => number_any d.deadline hok.lo hok.hi W
      simp only [Str.lit] at C
      have s1 := handle_len hok.handle
      have s2 := itoa_len d.deadline hok.lo hok.hi
      have s3 : (Str (timersT (l.take k))).size ≤ 6400 := by
        have h1 := timers_len (l := l.take k) (fun d hd => HH.out.2 d (List.mem_of_mem_take hd))
        have h2 : (l.take k).length ≤ k := List.length_take_le _ _
        rw [Str.size]; omega
      have hr := timersT_snoc l hd
      obtain ⟨p, hp⟩ : ∃ p, Str (timersT (l.take k)) = p := ⟨_, rfl⟩
      obtain ⟨a, ha⟩ : ∃ a, Str (handleT d.handle) = a := ⟨_, rfl⟩
      obtain ⟨c, hc⟩ : ∃ c, Str (Lib.itoa d.deadline) = c := ⟨_, rfl⟩
      rw [hp] at s3 hr ⊢
      rw [ha] at A s1 hr
      rw [hc] at C s2 hr
      have z1 : ¬ (9223372036854775807 < p.size + 1) := by omega
      have z2 : ¬ (9223372036854775807 < p.size + 1 + a.size) := by omega
      have z3 : ¬ (9223372036854775807 < p.size + 1 + a.size + 1) := by omega
      have z4 : ¬ (9223372036854775807 < p.size + 1 + a.size + 1 + c.size) := by omega
      have facts : ∀ W, Fr [] wr W → (W.cell? ⟨b, o + k * 3, none⟩ = some (.int .u64 d.handle) ∧ W.cell? ⟨b, o + k * 3 + 1, none⟩ = some (.int .i64 d.deadline)) := fun W hW =>
        ⟨(dueAt (HH.out.1.keep0 (hF.trans0 hW)) hd).1, (dueAt (HH.out.1.keep0 (hF.trans0 hW)) hd).2.1⟩
      have FA := Lib.hid facts
      have HA := Lib.hid A
      have HC := Lib.hid C
      have HO := Lib.hid (And.intro hF hr)
      have hfr0 : Fr [] wr wr.drew := (Fr.refl _ _).drew
      clear A C hr ha hc hp hd hF hok facts
      go_wp2_with fail
      go_region_held3 (fun W => (W.cell? ⟨b, o + k * 3, none⟩ = some (.int .u64 d.handle) ∧ W.cell? ⟨b, o + k * 3 + 1, none⟩ = some (.int .i64 d.deadline)))
        (first
          | exact FA.out _ hfr0
          | exact FA.out _ (hfr0.trans0 f6)
          | exact FA.out _ ((hfr0.trans0 f6).trans0 f7))
        (first
          | (go_at_call 29; with_reducible refine (HA.out _).mono ?_; rintro e w6 ⟨rfl, f6⟩)
          | (go_at_call 24; with_reducible refine (HC.out _).mono ?_; rintro e w7 ⟨rfl, f7⟩))
      have HR := Lib.hid (((HO.out.1.trans0 hfr0).trans0 f6).trans0 f7)
      clear HA HC FA hfr0 f6 f7 z1 z2 z3 z4 s1 s2 s3 i1
      go_wp2
      go_roundw
      case rel => exact ⟨k + 1, by omega, by go_num, by rw [HO.out.2], HR.out⟩
      case measure => simp [intOf]; omega
    · have hkl : k = l.length := by omega
      subst hkl
      rw [List.take_length]
      go_wp2
      go_ret
      exact ⟨rfl, hF⟩
end Go.Proofs.YtkdmodanfcpcfaaDoor
