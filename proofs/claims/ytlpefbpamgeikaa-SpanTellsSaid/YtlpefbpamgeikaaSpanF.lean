/- DERIVED. Chapter 50: the law SpanTells. -/
import Derived.Test.YtlpefbpamgeikaaSpanE
import Derived.Deep.RegionHeld3
namespace Go.Proofs.Ytlpefbpamgeikaa
open Go.RowKit

theorem bound_both (p : Plan) : ∃ n : Int, (∀ w, Calls Try.prog 18 #[.agg #[.int .i64 p.threads, .int .i64 p.slots, .int .i64 p.levels, .int .u64 p.gen]] w fun e w' => e = .returned (.int .i64 n) ∧ Fr [] w w') ∧
    (∀ w, Calls Try.prog 19 #[.agg #[.int .i64 p.threads, .int .i64 p.slots, .int .i64 p.levels, .int .u64 p.gen]] w fun e w' => e = .returned (.int .i64 n) ∧ Fr [] w w') := by
  by_cases h : PlanOk p
  · exact ⟨boundV p, fun w => bound_yes p w h, fun w => refBound_yes p w h⟩
  · exact ⟨0, fun w => bound_no p w h, fun w => refBound_no p w h⟩

theorem box4 {W : World} {g : Nat} {a b c d : Value} (h : Box W g #[a, b, c, d]) : W.cell? ⟨g, 0, none⟩ = some a ∧ W.cell? ⟨g, 1, none⟩ = some b ∧ W.cell? ⟨g, 2, none⟩ = some c ∧ W.cell? ⟨g, 3, none⟩ = some d :=
  ⟨h.cell 0, h.cell 1, h.cell 2, h.cell 3⟩
set_option maxHeartbeats 4000000 in
theorem span_core (p : Plan) (v vs : Value) (l : List Rec) (log : List Stp) (w : World) (hl : Rd encRec w v l) (hlen : l.length ≤ 100) (hs : Rd encStp w vs log) (hlog : log.length ≤ 300) (hok : ∀ s ∈ log, okStp s) :
    Calls Try.prog 5 #[.agg #[.int .i64 p.threads, .int .i64 p.slots, .int .i64 p.levels, .int .u64 p.gen], v, vs] w fun e w' => e = .returned (.bool true) ∧ Fr [] w w' := by
  obtain ⟨n, hb1, hb2⟩ := bound_both p
  have HB1 := Lib.hid hb1
  have HB2 := Lib.hid hb2
  clear hb1 hb2
  obtain ⟨b1, o1, hsa⟩ := hs
  obtain ⟨b0, o0, hla⟩ := hl
  have l1 := lenS hsa
  have l0 := lenR hla
  have B0 := Box.new w #[.int .i64 p.threads, .int .i64 p.slots, .int .i64 p.levels, .int .u64 p.gen] 32
  have HBX := Lib.hid B0
  clear B0
  go_enter Try.func5, Try.ntmps5
  go_wp2_with fail
  obtain ⟨g, hg⟩ : ∃ g, w.heap.size = g := ⟨_, rfl⟩
  rw [hg] at HBX ⊢
  have HG := Lib.hid hg
  clear hg
  go_loopw [7] (fun i wr => ∃ k : Nat, k ≤ log.length ∧ i = .int .i64 k ∧ Fr [] (w.alloc (.cells #[.int .i64 p.threads, .int .i64 p.slots, .int .i64 p.levels, .int .u64 p.gen] 32)) wr) (fun i _ => log.length - (intOf i).toNat)
  case atStart => exact ⟨0, by omega, rfl, Fr.refl _ _⟩
  case round =>
    obtain ⟨k, hk, rfl, hf⟩ := hrel
    have F := ((Fr.refl [] w).alloc (.cells #[.int .i64 p.threads, .int .i64 p.slots, .int .i64 p.levels, .int .u64 p.gen] 32)).trans0 hf
    by_cases hlt : k < log.length
    · obtain ⟨s, hsk⟩ := at_of log hlt
      have i1 := idxS hsa hlt
      have HS := Lib.hid hsk
      have c1 := stpAt (hsa.keep0 F) hsk
      obtain ⟨C2, hC2⟩ : ∃ c, cnt l s = c := ⟨_, rfl⟩
      have H2 := Lib.hid hC2
      clear hC2 hsk
      go_wp2_with fail
      go_region_held3 (fun W => W.cell? ⟨b1, o1 + k * 10, none⟩ = some (.int .i64 s.event) ∧ W.cell? ⟨b1, o1 + k * 10 + 1, none⟩ = some (.int .i64 s.thread) ∧ W.cell? ⟨b1, o1 + k * 10 + 2, none⟩ = some (.int .i64 s.kind) ∧
          W.cell? ⟨b1, o1 + k * 10 + 3, none⟩ = some (.int .i64 s.at_) ∧ W.cell? ⟨b1, o1 + k * 10 + 4, none⟩ = some (.int .u64 s.a) ∧ W.cell? ⟨b1, o1 + k * 10 + 5, none⟩ = some (.int .u64 s.b) ∧
          W.cell? ⟨b1, o1 + k * 10 + 6, none⟩ = some (.int .u64 s.by_) ∧ W.cell? ⟨b1, o1 + k * 10 + 7, none⟩ = some (.int .u64 s.found) ∧ W.cell? ⟨b1, o1 + k * 10 + 8, none⟩ = some (.int .u64 s.gen) ∧
          W.cell? ⟨b1, o1 + k * 10 + 9, none⟩ = some (.bool s.parked))
        (first | exact c1 | exact stpAt (hsa.keep0 (F.drew.trans0 f1)) HS.out | exact stpAt (hsa.keep0 ((F.drew.trans0 f1).trans0 f2)) HS.out)
        (first
          | (go_at_call 16; refine (counts_any v l s _ ⟨_, _, hla.keep0 F.drew⟩ hlen).mono ?_; rintro e w1 ⟨rfl, f1⟩; rw [H2.out])
          | (go_at_call 17; refine (refCounts_any v l s _ ⟨_, _, hla.keep0 (F.drew.trans0 f1)⟩ hlen).mono ?_; rintro e w2 ⟨rfl, f2⟩; rw [H2.out]))
      have F2 := (hf.drew.trans0 f1).trans0 f2
      clear c1 f1 f2
      go_wp2
      go_roundw
      case rel => exact ⟨k + 1, by omega, by go_num, F2⟩
      case measure => simp [intOf]; omega
    · have hl' : Rd encRec w v l := ⟨_, _, hla⟩
      have hs' : Rd encStp w vs log := ⟨_, _, hsa⟩
      have BX := (HBX.out.keep0 hf)
      have c0 := box4 BX
      go_wp2_with fail
      go_region_held3 (fun W => W.cell? ⟨g, 0, none⟩ = some (.int .i64 p.threads) ∧ W.cell? ⟨g, 1, none⟩ = some (.int .i64 p.slots) ∧ W.cell? ⟨g, 2, none⟩ = some (.int .i64 p.levels) ∧ W.cell? ⟨g, 3, none⟩ = some (.int .u64 p.gen))
        (first
          | exact c0
          | exact box4 (BX.keep0 ((Fr.refl [] _).drew.trans0 f1))
          | exact box4 (BX.keep0 (((Fr.refl [] _).drew.trans0 f1).trans0 f2))
          | exact box4 (BX.keep0 ((((Fr.refl [] _).drew.trans0 f1).trans0 f2).trans0 f3))
          | exact box4 (BX.keep0 (((((Fr.refl [] _).drew.trans0 f1).trans0 f2).trans0 f3).trans0 f4))
          | exact box4 (BX.keep0 ((((((Fr.refl [] _).drew.trans0 f1).trans0 f2).trans0 f3).trans0 f4).trans0 f5)))
        (first
          | (go_at_call 18; refine (HB1.out _).mono ?_; rintro e w1 ⟨rfl, f1⟩)
          | (go_at_call 19; refine (HB2.out _).mono ?_; rintro e w2 ⟨rfl, f2⟩)
          | (go_at_call 20; refine (longest_any v vs l log _ (hl'.keep0 ((F.drew.trans0 f1).trans0 f2)) hlen (hs'.keep0 ((F.drew.trans0 f1).trans0 f2)) hlog hok).mono ?_; rintro e w3 ⟨rfl, f3⟩)
          | (go_at_call 21; refine (refLongest_any v vs l log _ (hl'.keep0 (((F.drew.trans0 f1).trans0 f2).trans0 f3)) hlen (hs'.keep0 (((F.drew.trans0 f1).trans0 f2).trans0 f3)) hlog).mono ?_; rintro e w4 ⟨rfl, f4⟩)
          | (go_at_call 15; refine (awake50 _).mono ?_; rintro e w5 ⟨rfl, f5⟩))
      have F2 := ((((F.drew.trans0 f1).trans0 f2).trans0 f3).trans0 f4).trans0 f5
      clear c0 f1 f2 f3 f4 f5
      go_wp2
      go_ret
      exact ⟨rfl, F2⟩

set_option maxHeartbeats 1000000 in
theorem span_long (p : Plan) (v vs : Value) (l : List Rec) (log : List Stp) (w : World) (hl : Rd encRec w v l) (hs : Rd encStp w vs log) (h : 100 < l.length ∨ 300 < log.length) :
    Calls Try.prog 5 #[.agg #[.int .i64 p.threads, .int .i64 p.slots, .int .i64 p.levels, .int .u64 p.gen], v, vs] w fun e w' => e = .returned (.bool true) ∧ Fr [] w w' := by
  obtain ⟨b1, o1, hsa⟩ := hs
  obtain ⟨b0, o0, hla⟩ := hl
  have l1 := lenS hsa
  have l0 := lenR hla
  by_cases h1 : 100 < l.length
  · clear h
    go_enter Try.func5, Try.ntmps5
    go_wp2_with fail
    refine (awake50 _).mono ?_
    rintro e w1 ⟨rfl, f1⟩
    go_wp2
    go_ret
    exact ⟨rfl, ((Fr.refl _ _).alloc _).trans0 f1⟩
  · have h2 : 300 < log.length := by omega
    clear h
    go_enter Try.func5, Try.ntmps5
    go_wp2_with fail
    refine (awake50 _).mono ?_
    rintro e w1 ⟨rfl, f1⟩
    go_wp2
    go_ret
    exact ⟨rfl, ((Fr.refl _ _).alloc _).trans0 f1⟩
end Go.Proofs.Ytlpefbpamgeikaa
