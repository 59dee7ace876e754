/- DERIVED. strconv.ParseUint at 63 and 64 bits, as asked by 'whole' of packages call and script; 'whole'. -/
import Derived.Test.YtkdmodanfcpcfaaDoorPu
namespace Go.Proofs.YtkdmodanfcpcfaaDoor
open Go.RowKit

/-- what the walks know of the package-level variables -/
structure Glob (w : World) : Prop where
  tab : Tab w
  max : ∃ m : Int, w.cell? ⟨1, 0, none⟩ = some (.int .i64 m)
  esy : ∃ te pe, w.cell? ⟨2, 0, none⟩ = some (.iface te pe)
  era : ∃ te pe, w.cell? ⟨3, 0, none⟩ = some (.iface te pe)
theorem Glob.keep {w w' : World} (h : Glob w) (hf : Fr [] w w') : Glob w' := by
  obtain ⟨m, h1⟩ := h.max
  obtain ⟨t2, p2, h2⟩ := h.esy
  obtain ⟨t3, p3, h3⟩ := h.era
  have k : ∀ (b : Nat) (v : Value), w.cell? ⟨b, 0, none⟩ = some v → w'.cell? ⟨b, 0, none⟩ = some v := fun b v hc => by
    rw [hf.cell (block_lt_of_cell hc) (by simp)]; exact hc
  exact ⟨h.tab.keep hf, ⟨m, k _ _ h1⟩, ⟨t2, p2, k _ _ h2⟩, ⟨t3, p3, k _ _ h3⟩⟩

def PuP (B : Nat) (s : List UInt8) (e : Ending) : Prop :=
  (s ≠ [] ∧ (∀ c ∈ s, isD c) ∧ valV s < B ∧ e = .returned (.tuple #[.int .u64 (valV s : Nat), .nilIface])) ∨
  (numB B s = none ∧ ∃ (n : Int) (t : TypeId) (p : Value), (∃ k : Nat, n = k) ∧ e = .returned (.tuple #[.int .u64 n, .iface t p]))

theorem Str.data (s : List UInt8) : (Str s).data.toList = s := by simp [Str]
theorem pB_dig (M : Nat) : ∀ (s : List UInt8) (acc u : Nat), Lib.parseUintM M acc s = .ok u → ∀ c ∈ s, isD c
  | [], _, _, _ => by simp
  | c :: s, acc, u, h => by
    rw [Lib.parseUintM] at h
    split at h
    · rename_i hd
      split at h
      · cases h
      · split at h
        · cases h
        · intro x hx
          rcases List.mem_cons.1 hx with rfl | hx
          · exact hd
          · exact pB_dig M s _ u h x hx
    · cases h

set_option maxHeartbeats 1000000 in
theorem pub64 (s : List UInt8) (hs : s.length ≤ 1000000) (w : World) (hg : Glob w) :
    Calls Tryd.prog 73 #[.string (Str s), .int .i64 10, .int .i64 64] w fun e w' => PuP 18446744073709551616 s e ∧ Fr [] w w' := by
  have none_of : (∀ n, Lib.parseUintB 64 s ≠ .ok n) → numB 18446744073709551616 s = none := by
    intro h
    cases hn : numB 18446744073709551616 s with
    | none => rfl
    | some n => exact absurd (pB_ok (B := 64) (by omega) (by omega) hn) (h n)
  cases hp : Lib.parseUintB 64 s with
  | ok u =>
    refine (Tryd.strconv_ParseUint_10_at64_ok (Str s) (by rw [Str.size]; omega) u (by rw [Str.data]; exact hp) w).mono ?_
    rintro e w' ⟨rfl, hw⟩
    obtain ⟨h1, h2⟩ := pB_num (by omega) hp
    have hne : s ≠ [] := by rintro rfl; simp [Lib.parseUintB] at hp
    have hd : ∀ c ∈ s, isD c := by rw [Lib.parseUintB, if_neg hne] at hp; exact pB_dig _ s 0 u hp
    subst h1
    refine ⟨.inl ⟨hne, hd, h2, rfl⟩, ?_⟩
    rcases hw with rfl | rfl
    · exact Fr.refl _ _
    · exact conv_fr _ _ _
  | range =>
    obtain ⟨t, p, h2⟩ := hg.era
    refine (Tryd.strconv_ParseUint_10_at64_range (Str s) (by rw [Str.size]; omega) (by rw [Str.data]; exact hp) _ w h2 (.inr ⟨t, p, rfl⟩)).mono ?_
    rintro e w' ⟨N, rfl, _, _, hb⟩
    exact ⟨.inr ⟨none_of (by rw [hp]; intro n h; cases h), _, _, _, ⟨18446744073709551615, rfl⟩, rfl⟩, Fr.of_below hb⟩
  | _ =>
    obtain ⟨t, p, h2⟩ := hg.esy
    refine (Tryd.strconv_ParseUint_10_at64_syntax (Str s) (by rw [Str.size]; omega) (by rw [Str.data]; exact hp.trans (if_pos rfl).symm) _ w h2 (.inr ⟨t, p, rfl⟩)).mono ?_
    rintro e w' ⟨N, rfl, _, _, hb⟩
    exact ⟨.inr ⟨none_of (by rw [hp]; intro n h; cases h), _, _, _, ⟨0, rfl⟩, rfl⟩, Fr.of_below hb⟩

theorem toErr (s : List UInt8) (hs : s.length ≤ 1000000) (k : Int) (hk : k = 1 ∨ k = 2) (w : World) (hg : Glob w) :
    Calls Tryd.prog 89 #[.string ⟨#[80, 97, 114, 115, 101, 85, 105, 110, 116]⟩, .string (Str s), .int .i64 10, .int .i64 63, .iface 145 (.int .i64 k)] w fun e w' => (∃ t p, e = .returned (.iface t p)) ∧ Fr [] w w' := by
  rcases hk with rfl | rfl
  · obtain ⟨t, p, h2⟩ := hg.era
    refine (AnyPu.strconv_toError_range (P := Tryd.prog) (ρ := Tryd.laysPu14_ren) { Tryd.laysPu14 with } _ (Str s) 10 63 _ w (by rw [Str.size]; omega) h2 (.inr ⟨t, p, rfl⟩)).mono ?_
    rintro e w' ⟨N, rfl, _, _, hb⟩
    exact ⟨⟨_, _, rfl⟩, Fr.of_below hb⟩
  · obtain ⟨t, p, h2⟩ := hg.esy
    refine (AnyPu.strconv_toError_syntax (P := Tryd.prog) (ρ := Tryd.laysPu14_ren) { Tryd.laysPu14 with } _ (Str s) 10 63 _ w (by rw [Str.size]; omega) h2 (.inr ⟨t, p, rfl⟩)).mono ?_
    rintro e w' ⟨N, rfl, _, _, hb⟩
    exact ⟨⟨_, _, rfl⟩, Fr.of_below hb⟩

set_option maxRecDepth 20000 in
set_option maxHeartbeats 1000000 in
theorem pub63 (s : List UInt8) (hs : s.length ≤ 1000000) (w : World) (hg : Glob w) :
    Calls Tryd.prog 73 #[.string (Str s), .int .i64 10, .int .i64 63] w fun e w' => PuP 9223372036854775808 s e ∧ Fr [] w w' := by
  have HP := Lib.hid (pu63 s hs w)
  have HT := Lib.hid (fun k hk W (hW : Fr [] w W) => toErr s hs k hk W (hg.keep hW))
  obtain ⟨S, hS⟩ : ∃ S, Str s = S := ⟨_, rfl⟩
  rw [hS] at HP HT ⊢
  clear hg hS
  go_enter Tryd.func73, Tryd.ntmps73
  go_wp2_with fail
  refine HP.out.mono ?_
  clear HP
  rintro e w1 ⟨h1 | ⟨hn, n, k, hk, hnn, rfl⟩, f1⟩
  · obtain ⟨hne, hd, hb, rfl⟩ := h1
    have H := Lib.hid (And.intro hne (And.intro hd (And.intro hb f1)))
    clear hne hd hb f1
    go_wp2
    go_ret2
    exact ⟨.inl ⟨H.out.1, H.out.2.1, H.out.2.2.1, rfl⟩, H.out.2.2.2⟩
  · have C := HT.out k hk w1 f1
    have H := Lib.hid (And.intro hn (And.intro f1 hnn))
    have HC := Lib.hid C
    clear hn f1 C HT hk hnn
    go_wp2_with fail
    refine HC.out.mono ?_
    clear HC
    rintro e w2 ⟨⟨t, p, rfl⟩, f2⟩
    have H2 := Lib.hid (H.out.2.1.trans0 f2)
    clear f2
    go_wp2
    go_ret2
    exact ⟨.inr ⟨H.out.1, _, _, _, H.out.2.2, rfl⟩, H2.out⟩
end Go.Proofs.YtkdmodanfcpcfaaDoor
