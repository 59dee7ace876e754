/- DERIVED. Chapter 37: a call's text, of the program: the loop over its kind's fields. -/
import Derived.Test.YtkdmodanfcpcfaaDoorCallT
import Derived.Lib.ConvBytes
namespace Go.Proofs.YtkdmodanfcpcfaaDoor
open Go.RowKit

def encB : Enc UInt8 := ⟨1, fun b => [.int .u8 (b.toNat : Int)], fun _ => rfl, by decide, fun _ u h => by simp at h; subst h; rfl⟩
theorem slB : SlTy Tryd.prog 70 5 encB := SlTy.mk' (.int .u8 0) 1 Tryd.underlying70 (by kernel_rfl) rfl (by decide)
theorem idxB {w : World} {v : Value} {xs : List UInt8} {b off : Nat} (h : RdAt encB w v xs b off) {k : Nat} (hk : k < xs.length) (W : World) :
    Sem.run Tryd.prog (Instr.indexAt 70 v (.int .i64 k)) W = .ok (.pointer (some ⟨b, off + k, none⟩)) W := by
  have := h.idx slB k hk W; simpa [encB] using this
theorem cellB {w : World} {v : Value} {xs : List UInt8} {b off : Nat} (h : RdAt encB w v xs b off) {k : Nat} {x : UInt8} (hx : xs[k]? = some x) : w.cell? ⟨b, off + k, none⟩ = some (.int .u8 (x.toNat : Int)) := by
  have := h.cell k x hx 0 (by decide); simpa [encB] using this
theorem conv_fr (w : World) (e : TypeId) (s : ByteArray) : Fr [] w (Go.Lib.bytesWorld w e s) :=
  ⟨rfl, rfl, rfl, by rw [Go.Lib.bytesWorld_size]; omega, fun i hi _ => Go.Lib.bytesWorld_at_old w e s i hi⟩
/-- '[]byte(s)' -/
theorem conv_ok (l : List UInt8) (hl : l.length ≤ 1000000) (w : World) : ∃ c w', (convert 9 70 (.string (Str l))).run Tryd.prog w = .ok (.slice (some ⟨w.heap.size, 0, none⟩) l.length c) w' ∧ Fr [] w w' ∧ RdAt encB w' (.slice (some ⟨w.heap.size, 0, none⟩) l.length c) l w.heap.size 0 := by
  have h := Go.Lib.run_convert_string_bytes (P := Tryd.prog) w 9 70 5 (Str l) Tryd.underlying9 Tryd.underlying70 Tryd.underlying5
  rw [Str.size] at h
  refine ⟨_, _, h, conv_fr _ _ _, ⟨⟨_, _, rfl, fun _ => rfl, ?_, ?_⟩, fun i x hx j hj => ?_, fun _ => by rw [Go.Lib.bytesWorld_size]; omega⟩⟩
  · exact grownCap_ge _ _ _ _
  · exact grownCap_le_maxLen _ _ _ _ (by unfold maxLen; omega)
  · simp only [encB] at hj ⊢
    obtain rfl : j = 0 := by omega
    have hi := (List.getElem?_eq_some_iff.1 hx).1
    have h2 := Go.Lib.bytesWorld_cell w 5 (Str l) i (by rw [Str.size]; exact hi)
    simp only [Nat.mul_one, Nat.add_zero, Nat.zero_add]
    rw [h2]
    have : (Str l).data.toList.getD i 0 = x := by simp [Str, List.getD_eq_getElem?_getD, hx]
    rw [this]; rfl
theorem fieldsOk {fs : List UInt8} (h : ∀ f ∈ fs, f = 68 ∨ f = 88 ∨ f = 72 ∨ f = 78) {n : Nat} {f : UInt8} (hf : fs[n]? = some f) : f = 68 ∨ f = 88 ∨ f = 72 ∨ f = 78 := h f (List.mem_of_getElem? hf)
def partsT (c : CallA) (wd fs : List UInt8) : List (List UInt8) := wd :: fs.map (fieldT c)
def joinT (c : CallA) (wd fs : List UInt8) : List UInt8 := Lib.join (partsT c wd fs) [32]
theorem joinT_eq (c : CallA) (wd fs : List UInt8) : joinT c wd fs = wd ++ fs.flatMap fun f => 32 :: fieldT c f := by
  unfold joinT partsT
  rw [Lib.join_cons]
  simp [Lib.joinTail, List.flatMap_def, Function.comp_def]
theorem joinT_len {c : CallA} (hc : c.ok) (wd fs : List UInt8) : (joinT c wd fs).length ≤ wd.length + 42 * fs.length := by
  rw [joinT_eq, List.length_append]
  have : (fs.flatMap fun f => 32 :: fieldT c f).length ≤ 42 * fs.length := by
    induction fs with
    | nil => simp
    | cons f fs ih =>
      have := field_len hc f
      simp only [List.flatMap_cons, List.length_append, List.length_cons] at ih ⊢
      omega
  omega

set_option maxRecDepth 20000 in
set_option maxHeartbeats 2000000 in
theorem callText_kind (c : CallA) (hc : c.ok) (wd fs : List UInt8) (hwd : wd.length ≤ 10) (hfs : fs.length ≤ 3) (hf : ∀ f ∈ fs, f = 68 ∨ f = 88 ∨ f = 72 ∨ f = 78) (w : World) (ht : Tab w)
    (hof : ∀ w, Calls Tryd.prog 55 #[.int .i64 c.kind] w fun e w' => e = .returned (.tuple #[.agg #[.string (Str wd), .string (Str fs)], .bool true]) ∧ Fr [] w w') :
    Calls Tryd.prog 30 #[.agg #[.int .i64 c.kind, .int .i64 c.deadline, .int .u64 c.draw, .int .u64 c.handle, .int .i64 c.count]] w fun e w' => e = .returned (.string (Str (joinT c wd fs))) ∧ Fr [] w w' := by
  have F0 : Fr [] w (w.alloc (.cells #[.int .i64 c.kind, .int .i64 c.deadline, .int .u64 c.draw, .int .u64 c.handle, .int .i64 c.count] 24)) := (Fr.refl _ _).alloc _
  have B0 := Box.new w #[.int .i64 c.kind, .int .i64 c.deadline, .int .u64 c.draw, .int .u64 c.handle, .int .i64 c.count] 24
  obtain ⟨sw, hsw⟩ : ∃ s, Str wd = s := ⟨_, rfl⟩
  obtain ⟨sf, hsf⟩ : ∃ s, Str fs = s := ⟨_, rfl⟩
  rw [hsw, hsf] at hof
  have HOF := Lib.hid hof
  have HS := Lib.hid (And.intro hsw hsf)
  have H0 := Lib.hid (And.intro F0 (And.intro ht (And.intro hc hf)))
  clear hof hsw hsf F0 ht hc hf
  go_enter Tryd.func30, Tryd.ntmps30
  go_wp2_with fail
  obtain ⟨g, hg⟩ : ∃ g, w.heap.size = g := ⟨_, rfl⟩
  rw [hg] at B0 ⊢
  clear hg
  refine (HOF.out _).mono ?_
  rintro e w1 ⟨rfl, f1⟩
  have B1 := B0.keep0 f1
  have H1 := Lib.hid (H0.out.1.trans0 f1)
  clear B0 f1 HOF
  have HB := Lib.hid B1
  go_upto_region 5 with (fail)
  have G1 : Fr [] w1 (w1.alloc (.cells #[.string sw, .string sf] 92)) := (Fr.refl _ _).alloc _
  have G2 : Fr [] (w1.alloc (.cells #[.string sw, .string sf] 92)) ((w1.alloc (.cells #[.string sw, .string sf] 92)).alloc (.cells #[.string sw] 9)) := (Fr.refl _ _).alloc _
  have S1 := (Box.new w1 #[.string sw, .string sf] 92).keep0 G2
  have e1 : (w1.alloc (.cells #[.string sw, .string sf] 92)).heap.size = w1.heap.size + 1 := by simp
  have hn := heap_alloc_new (w1.alloc (.cells #[.string sw, .string sf] 92)) (.cells #[.string sw] 9)
  rw [e1] at hn
  have O1 : Own encS 9 ((w1.alloc (.cells #[.string sw, .string sf] 92)).alloc (.cells #[.string sw] 9)) (.slice (some ⟨w1.heap.size + 1, 0, none⟩) 1 1) [wd] := Own.lit (xs := [wd]) hn (by rw [← HS.out.1]; rfl) (by simp [maxLen])
  have B2 := (B1.keep0 G1).keep0 G2
  have F2 := H1.out.trans0 (G1.trans0 G2)
  have hww : w.heap.size ≤ w1.heap.size := H1.out.size
  have hus : ((w1.alloc (.cells #[.string sw, .string sf] 92)).alloc (.cells #[.string sw] 9)).heap.size = w1.heap.size + 2 := by simp
  have hgl := B1.lt
  clear G1 G2 e1 hn B1
  obtain ⟨gs, hgs⟩ : ∃ gs, w1.heap.size = gs := ⟨_, rfl⟩
  rw [hgs] at S1 O1 hww hus hgl ⊢
  obtain ⟨u0, hu0⟩ : ∃ u0, (w1.alloc (.cells #[.string sw, .string sf] 92)).alloc (.cells #[.string sw] 9) = u0 := ⟨_, rfl⟩
  rw [hu0] at S1 O1 B2 F2 hus ⊢
  clear hu0 hgs HB H1
  obtain ⟨cap, u1, hcv, f3, hbs⟩ := conv_ok fs (by omega) u0
  rw [HS.out.2] at hcv
  have s1 := S1.cell
  have F3 := F2.trans0 f3
  have O3 := O1.keep0 f3
  have B3 := B2.keep0 f3
  have NW : New w.heap.size (.slice (some ⟨gs + 1, 0, none⟩) 1 1) := by
    intro x hx; simp [sblk] at hx; omega
  have hgbn : u0.heap.size ≠ gs + 1 := by rw [hus]; omega
  have hgn : g ≠ gs + 1 := by omega
  obtain ⟨gb, hgb⟩ : ∃ gb, u0.heap.size = gb := ⟨_, rfl⟩
  rw [hgb] at hcv hbs hgbn
  have HK := Lib.hid (And.intro F3 (And.intro O3 (And.intro B3 (And.intro NW (And.intro hbs (And.intro hgbn hgn))))))
  clear hgbn hgn F2 O1 B2 f3 F3 O3 B3 NW hbs hgb S1 hus hgl
  go_wp2_with fail
  clear hcv s1
  go_loopw [5, 23] (fun q i wr => ∃ n : Nat, n ≤ fs.length ∧ i = .int .i64 n ∧ Own encS 9 wr q (partsT c wd (fs.take n)) ∧ New w.heap.size q ∧ ((∀ x ∈ sblk q, x = gs + 1 ∨ u1.heap.size ≤ x) ∧ Fr [gs + 1] u1 wr) ∧ Fr [] w wr) (fun _ i _ => fs.length - (intOf i).toNat)
  case atStart => exact ⟨0, by omega, rfl, HK.out.2.1, HK.out.2.2.2.1, ⟨fun x hx => by simp [sblk] at hx; exact .inl hx, Fr.refl _ _⟩, HK.out.1⟩
  case round =>
    obtain ⟨n, hn, rfl, hO, hN, hF, hG⟩ := hrel
    by_cases hlt : n < fs.length
    · obtain ⟨f, hfn⟩ := at_of fs hlt
      have i1 := idxB HK.out.2.2.2.2.1 hlt
      have c1 := cellB (HK.out.2.2.2.2.1.keep hF.2 (by simp [sblk]; exact HK.out.2.2.2.2.2.1)) hfn
      have b1 := (HK.out.2.2.1.keep hF.2 (by simp; exact HK.out.2.2.2.2.2.2)).cell
      have hok := H0.out.2.2.1
      have htw := H0.out.2.1.keep hG
      have hstep : partsT c wd (fs.take (n + 1)) = partsT c wd (fs.take n) ++ [fieldT c f] := by simp [partsT, take_at hfn]
      have hl3 : (partsT c wd (fs.take n)).length ≤ 4 := by
        have := List.length_take_le n fs
        simp [partsT]; omega
      have hf4 := fieldsOk H0.out.2.2.2 hfn
      have HN := Lib.hid (And.intro hO (And.intro hN (And.intro hF (And.intro hG (And.intro hstep hl3)))))
      rcases hf4 with rfl | rfl | rfl | rfl
      · have CA := itoa_any c.deadline hok.deadline.1 hok.deadline.2 wr htw
        have hft : fieldT c 68 = Lib.itoa c.deadline := rfl
        simp only [Str.lit] at CA
        rw [← hft] at CA
        obtain ⟨s, hs⟩ : ∃ s, Str (fieldT c 68) = s := ⟨_, rfl⟩
        rw [hs] at CA
        have HCA := Lib.hid CA
        have HSS := Lib.hid hs
        clear CA hft hs hO hN hF hG hstep hl3 hok htw hfn
        simp at c1
        go_wp2_with fail
        refine HCA.out.mono ?_
        rintro e w6 ⟨rfl, f6⟩
        have H6 := Lib.hid f6
        clear f6 HCA
        go_wp2_with (at_builtin; refine wpList_app encS slS rfl _ _ rfl (HN.out.1.keep0 H6.out) (fieldT c 68) rfl rfl (by have := HN.out.2.2.2.2.2; omega) ?_ (by show [Value.string _] = [Value.string (Str (fieldT c 68))]; rw [HSS.out]); intro v8 w8 hO8 f8 hw8 _)
        have HR : Own encS 9 w8 v8 (partsT c wd (fs.take (n + 1))) ∧ New w.heap.size v8 ∧ ((∀ x ∈ sblk v8, x = gs + 1 ∨ u1.heap.size ≤ x) ∧ Fr [gs + 1] u1 w8) ∧ Fr [] w w8 := by
          obtain ⟨hO, hN, hF, hG, hstep, hl3⟩ := HN.out
          have hsz := (hG.trans0 H6.out).size
          have hsu : u1.heap.size ≤ w6.heap.size := (hF.2.trans0 H6.out).size
          refine ⟨by rw [hstep]; exact hO8, hN.step hsz hw8, ⟨fun x hx => ?_, (hF.2.trans0 H6.out).trans f8 (fun x hx => ?_)⟩, (hG.trans0 H6.out).new f8 hN⟩
          · rcases hw8 with hw8 | ⟨g8, hw8, hg8⟩
            · rw [hw8] at hx; exact hF.1 x hx
            · rw [hw8] at hx; simp at hx; subst hx; exact .inr (by omega)
          · rcases hF.1 x hx with h | h
            · exact .inl (by simp [h])
            · exact .inr h
        have HRR := Lib.hid HR
        clear HR hO8 f8 hw8 HN H6 HSS
        go_roundw
        case rel => exact ⟨n + 1, by omega, by go_num, HRR.out⟩
        case measure => simp [intOf]; omega
      · have CA := fmtU_any c.draw hok.draw wr htw
        have hft : fieldT c 88 = Lib.decDigits c.draw := rfl
        simp only [Str.lit] at CA
        rw [← hft] at CA
        obtain ⟨s, hs⟩ : ∃ s, Str (fieldT c 88) = s := ⟨_, rfl⟩
        rw [hs] at CA
        have HCA := Lib.hid CA
        have HSS := Lib.hid hs
        clear CA hft hs hO hN hF hG hstep hl3 hok htw hfn
        simp at c1
        go_wp2_with fail
        refine HCA.out.mono ?_
        rintro e w6 ⟨rfl, f6⟩
        have H6 := Lib.hid f6
        clear f6 HCA
        go_wp2_with (at_builtin; refine wpList_app encS slS rfl _ _ rfl (HN.out.1.keep0 H6.out) (fieldT c 88) rfl rfl (by have := HN.out.2.2.2.2.2; omega) ?_ (by show [Value.string _] = [Value.string (Str (fieldT c 88))]; rw [HSS.out]); intro v8 w8 hO8 f8 hw8 _)
        have HR : Own encS 9 w8 v8 (partsT c wd (fs.take (n + 1))) ∧ New w.heap.size v8 ∧ ((∀ x ∈ sblk v8, x = gs + 1 ∨ u1.heap.size ≤ x) ∧ Fr [gs + 1] u1 w8) ∧ Fr [] w w8 := by
          obtain ⟨hO, hN, hF, hG, hstep, hl3⟩ := HN.out
          have hsz := (hG.trans0 H6.out).size
          have hsu : u1.heap.size ≤ w6.heap.size := (hF.2.trans0 H6.out).size
          refine ⟨by rw [hstep]; exact hO8, hN.step hsz hw8, ⟨fun x hx => ?_, (hF.2.trans0 H6.out).trans f8 (fun x hx => ?_)⟩, (hG.trans0 H6.out).new f8 hN⟩
          · rcases hw8 with hw8 | ⟨g8, hw8, hg8⟩
            · rw [hw8] at hx; exact hF.1 x hx
            · rw [hw8] at hx; simp at hx; subst hx; exact .inr (by omega)
          · rcases hF.1 x hx with h | h
            · exact .inl (by simp [h])
            · exact .inr h
        have HRR := Lib.hid HR
        clear HR hO8 f8 hw8 HN H6 HSS
        go_roundw
        case rel => exact ⟨n + 1, by omega, by go_num, HRR.out⟩
        case measure => simp [intOf]; omega
      · have CA := handle_any c.handle hok.handle wr htw
        have hft : fieldT c 72 = handleT c.handle := rfl
        rw [← hft] at CA
        obtain ⟨s, hs⟩ : ∃ s, Str (fieldT c 72) = s := ⟨_, rfl⟩
        rw [hs] at CA
        have HCA := Lib.hid CA
        have HSS := Lib.hid hs
        clear CA hft hs hO hN hF hG hstep hl3 hok htw hfn
        simp at c1
        go_wp2_with fail
        refine HCA.out.mono ?_
        rintro e w6 ⟨rfl, f6⟩
        have H6 := Lib.hid f6
        clear f6 HCA
        go_wp2_with (at_builtin; refine wpList_app encS slS rfl _ _ rfl (HN.out.1.keep0 H6.out) (fieldT c 72) rfl rfl (by have := HN.out.2.2.2.2.2; omega) ?_ (by show [Value.string _] = [Value.string (Str (fieldT c 72))]; rw [HSS.out]); intro v8 w8 hO8 f8 hw8 _)
        have HR : Own encS 9 w8 v8 (partsT c wd (fs.take (n + 1))) ∧ New w.heap.size v8 ∧ ((∀ x ∈ sblk v8, x = gs + 1 ∨ u1.heap.size ≤ x) ∧ Fr [gs + 1] u1 w8) ∧ Fr [] w w8 := by
          obtain ⟨hO, hN, hF, hG, hstep, hl3⟩ := HN.out
          have hsz := (hG.trans0 H6.out).size
          have hsu : u1.heap.size ≤ w6.heap.size := (hF.2.trans0 H6.out).size
          refine ⟨by rw [hstep]; exact hO8, hN.step hsz hw8, ⟨fun x hx => ?_, (hF.2.trans0 H6.out).trans f8 (fun x hx => ?_)⟩, (hG.trans0 H6.out).new f8 hN⟩
          · rcases hw8 with hw8 | ⟨g8, hw8, hg8⟩
            · rw [hw8] at hx; exact hF.1 x hx
            · rw [hw8] at hx; simp at hx; subst hx; exact .inr (by omega)
          · rcases hF.1 x hx with h | h
            · exact .inl (by simp [h])
            · exact .inr h
        have HRR := Lib.hid HR
        clear HR hO8 f8 hw8 HN H6 HSS
        go_roundw
        case rel => exact ⟨n + 1, by omega, by go_num, HRR.out⟩
        case measure => simp [intOf]; omega
      · have CA := itoa_any c.count hok.count.1 hok.count.2 wr htw
        have hft : fieldT c 78 = Lib.itoa c.count := rfl
        simp only [Str.lit] at CA
        rw [← hft] at CA
        obtain ⟨s, hs⟩ : ∃ s, Str (fieldT c 78) = s := ⟨_, rfl⟩
        rw [hs] at CA
        have HCA := Lib.hid CA
        have HSS := Lib.hid hs
        clear CA hft hs hO hN hF hG hstep hl3 hok htw hfn
        simp at c1
        go_wp2_with fail
        refine HCA.out.mono ?_
        rintro e w6 ⟨rfl, f6⟩
        have H6 := Lib.hid f6
        clear f6 HCA
        go_wp2_with (at_builtin; refine wpList_app encS slS rfl _ _ rfl (HN.out.1.keep0 H6.out) (fieldT c 78) rfl rfl (by have := HN.out.2.2.2.2.2; omega) ?_ (by show [Value.string _] = [Value.string (Str (fieldT c 78))]; rw [HSS.out]); intro v8 w8 hO8 f8 hw8 _)
        have HR : Own encS 9 w8 v8 (partsT c wd (fs.take (n + 1))) ∧ New w.heap.size v8 ∧ ((∀ x ∈ sblk v8, x = gs + 1 ∨ u1.heap.size ≤ x) ∧ Fr [gs + 1] u1 w8) ∧ Fr [] w w8 := by
          obtain ⟨hO, hN, hF, hG, hstep, hl3⟩ := HN.out
          have hsz := (hG.trans0 H6.out).size
          have hsu : u1.heap.size ≤ w6.heap.size := (hF.2.trans0 H6.out).size
          refine ⟨by rw [hstep]; exact hO8, hN.step hsz hw8, ⟨fun x hx => ?_, (hF.2.trans0 H6.out).trans f8 (fun x hx => ?_)⟩, (hG.trans0 H6.out).new f8 hN⟩
          · rcases hw8 with hw8 | ⟨g8, hw8, hg8⟩
            · rw [hw8] at hx; exact hF.1 x hx
            · rw [hw8] at hx; simp at hx; subst hx; exact .inr (by omega)
          · rcases hF.1 x hx with h | h
            · exact .inl (by simp [h])
            · exact .inr h
        have HRR := Lib.hid HR
        clear HR hO8 f8 hw8 HN H6 HSS
        go_roundw
        case rel => exact ⟨n + 1, by omega, by go_num, HRR.out⟩
        case measure => simp [intOf]; omega
    · have hkl : n = fs.length := by omega
      subst hkl
      rw [List.take_length] at hO
      have hne : partsT c wd fs ≠ [] := by simp [partsT]
      obtain ⟨gv, hrv, _, hsv⟩ := hO.rd' hne
      obtain ⟨⟨ao, cap2, hv2, hao, hc1, hc2⟩, hcell, hlt2⟩ := hrv
      have hao := hao hne
      subst hao
      subst hv2
      have hjl : (joinT c wd fs).length ≤ 1000 := by have := joinT_len H0.out.2.2.1 wd fs; omega
      have e1 : (partsT c wd fs).length = ((partsT c wd fs).map Str).length := by simp
      have e2 : ((partsT c wd fs).map Str).map (·.data.toList) = partsT c wd fs := by
        rw [List.map_map]; simp [Function.comp_def, Str]
      have JN := Tryd.strings_Join gv 0 cap2 ((partsT c wd fs).map Str) ⟨#[32]⟩ wr (by
        intro j x hx
        rw [List.getElem?_map] at hx
        obtain ⟨y, hy, rfl⟩ := Option.map_eq_some_iff.1 hx
        have := hcell j y hy 0 (by decide)
        simpa [encS] using this) (hlt2 hne) (by simp [partsT]; omega) (by rw [← e1]; exact hc1) (by rw [e2]; exact Nat.le_trans hjl (by omega))
      rw [e2, ← e1] at JN
      have HJ := Lib.hid JN
      have HG := Lib.hid hG
      clear JN hcell hlt2 e1 e2 hjl hO hN hF hG hne hsv hc1 hc2
      go_wp2_with fail
      with_reducible refine HJ.out.mono ?_
      rintro e w9 ⟨rfl, hb⟩
      have HZ := Lib.hid (HG.out.trans0 (Fr.of_below hb))
      clear hb HJ HG
      go_wp2
      go_ret
      exact ⟨rfl, HZ.out⟩

/-- a call's text -/
def callT (c : CallA) : List UInt8 :=
  if c.kind = 1 then joinT c [115, 116, 97, 114, 116] [68, 88] else if c.kind = 2 then joinT c [115, 116, 111, 112] [72] else if c.kind = 3 then joinT c [114, 101, 115, 101, 116] [72, 68, 88]
  else if c.kind = 4 then joinT c [101, 120, 112, 105, 114, 101] [78] else if c.kind = 5 then joinT c [119, 97, 105, 116] [78] else if c.kind = 6 then joinT c [116, 105, 100, 121] [] else [110, 111, 110, 101]
theorem callT_len {c : CallA} (hc : c.ok) : (Str (callT c)).size ≤ 136 := by
  rw [Str.size]
  unfold callT
  split
  · have := joinT_len hc [115, 116, 97, 114, 116] [68, 88]; simp at this; omega
  · split
    · have := joinT_len hc [115, 116, 111, 112] [72]; simp at this; omega
    · split
      · have := joinT_len hc [114, 101, 115, 101, 116] [72, 68, 88]; simp at this; omega
      · split
        · have := joinT_len hc [101, 120, 112, 105, 114, 101] [78]; simp at this; omega
        · split
          · have := joinT_len hc [119, 97, 105, 116] [78]; simp at this; omega
          · split
            · have := joinT_len hc [116, 105, 100, 121] []; simp at this; omega
            · simp

set_option maxRecDepth 20000 in
set_option maxHeartbeats 1000000 in
theorem callText_none (c : CallA) (w : World) (hk : c.kind < 1 ∨ 6 < c.kind) :
    Calls Tryd.prog 30 #[.agg #[.int .i64 c.kind, .int .i64 c.deadline, .int .u64 c.draw, .int .u64 c.handle, .int .i64 c.count]] w fun e w' => e = .returned (.string (Str [110, 111, 110, 101])) ∧ Fr [] w w' := by
  have F0 : Fr [] w (w.alloc (.cells #[.int .i64 c.kind, .int .i64 c.deadline, .int .u64 c.draw, .int .u64 c.handle, .int .i64 c.count] 24)) := (Fr.refl _ _).alloc _
  have hof : ∀ w, Calls Tryd.prog 55 #[.int .i64 c.kind] w fun e w' => e = .returned (.tuple #[.agg #[.string (Str []), .string (Str [])], .bool false]) ∧ Fr [] w w' := fun w => by
    rcases hk with hk | hk
    · exact of_lo c.kind hk w
    · exact of_hi c.kind hk w
  have HO := Lib.hid (And.intro F0 hof)
  clear F0 hof hk
  go_enter Tryd.func30, Tryd.ntmps30
  go_wp2_with fail
  refine (HO.out.2 _).mono ?_
  rintro e w1 ⟨rfl, f1⟩
  have H1 := Lib.hid (HO.out.1.trans0 f1)
  clear f1 HO
  go_wp2
  go_ret
  exact ⟨rfl, H1.out.alloc _⟩

theorem callText_any (c : CallA) (hc : c.ok) (w : World) (ht : Tab w) :
    Calls Tryd.prog 30 #[.agg #[.int .i64 c.kind, .int .i64 c.deadline, .int .u64 c.draw, .int .u64 c.handle, .int .i64 c.count]] w fun e w' => e = .returned (.string (Str (callT c))) ∧ Fr [] w w' := by
  by_cases k1 : c.kind = 1
  · have := callText_kind c hc [115, 116, 97, 114, 116] [68, 88] (by simp) (by simp) (by simp) w ht (by rw [k1]; exact of_1)
    rw [show callT c = joinT c [115, 116, 97, 114, 116] [68, 88] by unfold callT; rw [if_pos k1]]; exact this
  by_cases k2 : c.kind = 2
  · have := callText_kind c hc [115, 116, 111, 112] [72] (by simp) (by simp) (by simp) w ht (by rw [k2]; exact of_2)
    rw [show callT c = joinT c [115, 116, 111, 112] [72] by unfold callT; rw [if_neg k1, if_pos k2]]; exact this
  by_cases k3 : c.kind = 3
  · have := callText_kind c hc [114, 101, 115, 101, 116] [72, 68, 88] (by simp) (by simp) (by simp) w ht (by rw [k3]; exact of_3)
    rw [show callT c = joinT c [114, 101, 115, 101, 116] [72, 68, 88] by unfold callT; rw [if_neg k1, if_neg k2, if_pos k3]]; exact this
  by_cases k4 : c.kind = 4
  · have := callText_kind c hc [101, 120, 112, 105, 114, 101] [78] (by simp) (by simp) (by simp) w ht (by rw [k4]; exact of_4)
    rw [show callT c = joinT c [101, 120, 112, 105, 114, 101] [78] by unfold callT; rw [if_neg k1, if_neg k2, if_neg k3, if_pos k4]]; exact this
  by_cases k5 : c.kind = 5
  · have := callText_kind c hc [119, 97, 105, 116] [78] (by simp) (by simp) (by simp) w ht (by rw [k5]; exact of_5)
    rw [show callT c = joinT c [119, 97, 105, 116] [78] by unfold callT; rw [if_neg k1, if_neg k2, if_neg k3, if_neg k4, if_pos k5]]; exact this
  by_cases k6 : c.kind = 6
  · have := callText_kind c hc [116, 105, 100, 121] [] (by simp) (by simp) (by simp) w ht (by rw [k6]; exact of_6)
    rw [show callT c = joinT c [116, 105, 100, 121] [] by unfold callT; rw [if_neg k1, if_neg k2, if_neg k3, if_neg k4, if_neg k5, if_pos k6]]; exact this
  have := callText_none c w (by omega)
  rw [show callT c = [110, 111, 110, 101] by unfold callT; rw [if_neg k1, if_neg k2, if_neg k3, if_neg k4, if_neg k5, if_neg k6]]; exact this
end Go.Proofs.YtkdmodanfcpcfaaDoor
