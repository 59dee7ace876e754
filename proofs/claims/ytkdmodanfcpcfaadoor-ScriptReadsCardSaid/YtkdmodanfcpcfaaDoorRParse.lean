/- DERIVED. Chapter 42: Parse, of the reference. -/
import Derived.Test.YtkdmodanfcpcfaaDoorREventW
import Derived.Test.YtkdmodanfcpcfaaDoorRPlan
import Derived.BigRegion
namespace Go.Proofs.YtkdmodanfcpcfaaDoor
open Go.RowKit

theorem cut_no {c : UInt8} {t : List UInt8} (h : c ∉ t) : cutV c t = (t, [], false) := by
  induction t with
  | nil => rfl
  | cons x r ih =>
    simp at h
    rw [cutV_cons, if_neg (fun e => h.1 e.symm), ih h.2]
theorem cut_yes {c : UInt8} {a b : List UInt8} (h : c ∉ a) : cutV c (a ++ c :: b) = (a, b, true) := by
  induction a with
  | nil => simp [cutV]
  | cons x r ih =>
    simp at h
    rw [List.cons_append, cutV_cons, if_neg (fun e => h.1 e.symm), ih h.2]
theorem ext_take (s : List UInt8) (a b : Nat) (h1 : a ≤ b) : (Str s).extract a b = Str ((s.drop a).take (b - a)) := by
  apply ByteArray.ext
  apply Array.ext'
  rw [Lib.extract_data, show (Str s).data.toList = s by simp [Str]]
  simp [Str]
/-- the line that begins at a and ends ahead of b -/
theorem line_at {s : List UInt8} {a b : Nat} (h1 : a ≤ b) (hb : s[b]? = some 10) (hn : 10 ∉ (s.drop a).take (b - a)) : cutV 10 (s.drop a) = ((s.drop a).take (b - a), s.drop (b + 1), true) := by
  have e : s.drop a = (s.drop a).take (b - a) ++ 10 :: s.drop (b + 1) := by
    have h2 : (s.drop a).drop (b - a) = 10 :: s.drop (b + 1) := by
      rw [List.drop_drop, show a + (b - a) = b by omega]
      obtain ⟨hlt, hv⟩ := List.getElem?_eq_some_iff.1 hb
      rw [List.drop_eq_getElem_cons hlt, hv]
    rw [← h2, List.take_append_drop]
  conv => lhs; rw [e]
  exact cut_yes hn
theorem line_open {s : List UInt8} {a : Nat} (hn : 10 ∉ s.drop a) : (cutV 10 (s.drop a)).2.2 = false := by rw [cut_no hn]
theorem take_snoc_not {s : List UInt8} {a b : Nat} {x : UInt8} (h1 : a ≤ b) (hb : s[b]? = some x) (hx : x ≠ 10) (hn : 10 ∉ (s.drop a).take (b - a)) : 10 ∉ (s.drop a).take (b + 1 - a) := by
  have : (s.drop a).take (b + 1 - a) = (s.drop a).take (b - a) ++ [x] := by
    rw [show b + 1 - a = (b - a) + 1 by omega]
    have h2 : (s.drop a)[b - a]? = some x := by rw [List.getElem?_drop, show a + (b - a) = b by omega]; exact hb
    obtain ⟨hlt, hv⟩ := List.getElem?_eq_some_iff.1 h2
    rw [List.take_succ_eq_append_getElem hlt, hv]
  rw [this]
  simp
  exact ⟨hn, fun e => hx e.symm⟩

theorem rparse_door (w wd : World) (tmps : Array Value) (g : Nat) (p : PlanA) (v : Value) (line e : Int) (R : Ending → World → Prop) (h2 : tmps[2]?.getD undef = .pointer (some ⟨g, 0, none⟩)) (h3 : tmps[3]?.getD undef = v) (h4 : tmps[4]?.getD undef = .int .i64 line) (h5 : tmps[5]?.getD undef = .int .i64 e) (hc : PB wd g p)
    (hR : R (.returned (.tuple #[planAgg p, v, .int .i64 line, .int .i64 e])) wd) :
    bodyPost Tryd.prog Tryd.f16 R Exit.ret { tmps := tmps, defers := [] } wd := by
  refine bodyPost_ret (v := .tuple #[planAgg p, v, .int .i64 line, .int .i64 e]) ?_ rfl hR
  simp [results, Tryd.results16, go_sem, h2, h3, h4, h5, hc.c0, hc.c1, hc.c2, hc.c3, planAgg]
end Go.Proofs.YtkdmodanfcpcfaaDoor
