/- DERIVED. Chapter 42: a script read from its text: plain. -/
import Derived.Test.YtkdmodanfcpcfaaDoorEventV
import Derived.Test.YtkdmodanfcpcfaaDoorLines
namespace Go.Proofs.YtkdmodanfcpcfaaDoor
open Go.RowKit

inductive ScriptR where
  | bad (line : Nat) (e : Nat)
  | good (p : PlanA) (l : List EventA)
def scriptGo (t : List UInt8) (o : Option PlanA) (l : List EventA) (line : Nat) : ScriptR :=
  if h : t = [] then (match o with
    | none => .bad (line + 1) 1
    | some p => .good p l)
  else if (cutV 10 t).2.2 = false then .bad (line + 1) 9
  else if (cutV 10 t).1 = [] ∨ (cutV 10 t).1[0]? = some 35 then scriptGo (nextL t) o l (line + 1)
  else match o with
    | none => (match planV (cutV 10 t).1 with
      | none => .bad (line + 1) 1
      | some p => scriptGo (nextL t) (some p) l (line + 1))
    | some p => (match eventV (cutV 10 t).1 with
      | none => .bad (line + 1) 8
      | some e => scriptGo (nextL t) (some p) (l ++ [e]) (line + 1))
termination_by t.length
decreasing_by all_goals exact nextL_lt h
def scriptV (s : List UInt8) : ScriptR := if 262144 < s.length then .bad 0 10 else scriptGo s none [] 0

theorem go_nil (o : Option PlanA) (l : List EventA) (line : Nat) : scriptGo [] o l line = match o with
    | none => .bad (line + 1) 1
    | some p => .good p l := by rw [scriptGo.eq_def]; simp
theorem go_open {t : List UInt8} (o : Option PlanA) (l : List EventA) (line : Nat) (h : t ≠ []) (h1 : (cutV 10 t).2.2 = false) : scriptGo t o l line = .bad (line + 1) 9 := by
  rw [scriptGo.eq_def, dif_neg h, if_pos h1]
theorem go_pass {t : List UInt8} (o : Option PlanA) (l : List EventA) (line : Nat) (h : t ≠ []) (h1 : (cutV 10 t).2.2 = true) (h2 : (cutV 10 t).1 = [] ∨ (cutV 10 t).1[0]? = some 35) : scriptGo t o l line = scriptGo (nextL t) o l (line + 1) := by
  rw [scriptGo.eq_def, dif_neg h, if_neg (by rw [h1]; decide), if_pos h2]
theorem go_plan {t : List UInt8} (l : List EventA) (line : Nat) (h : t ≠ []) (h1 : (cutV 10 t).2.2 = true) (h2 : ¬ ((cutV 10 t).1 = [] ∨ (cutV 10 t).1[0]? = some 35)) : scriptGo t none l line = match planV (cutV 10 t).1 with
      | none => .bad (line + 1) 1
      | some p => scriptGo (nextL t) (some p) l (line + 1) := by
  rw [scriptGo.eq_def, dif_neg h, if_neg (by rw [h1]; decide), if_neg h2]
theorem go_event {t : List UInt8} (p : PlanA) (l : List EventA) (line : Nat) (h : t ≠ []) (h1 : (cutV 10 t).2.2 = true) (h2 : ¬ ((cutV 10 t).1 = [] ∨ (cutV 10 t).1[0]? = some 35)) : scriptGo t (some p) l line = match eventV (cutV 10 t).1 with
      | none => .bad (line + 1) 8
      | some e => scriptGo (nextL t) (some p) (l ++ [e]) (line + 1) := by
  rw [scriptGo.eq_def, dif_neg h, if_neg (by rw [h1]; decide), if_neg h2]

/-- a plan that was read is none of zeros -/
theorem planV_right {s : List UInt8} {p : PlanA} (h : planV s = some p) : p.right = true := by
  unfold planV planW at h
  split at h
  · split at h
    · simp only [Option.bind_eq_some_iff] at h
      obtain ⟨a, _, b, _, c, _, g, _, h⟩ := h
      split at h
      · injection h with h; subst h; assumption
      · cases h
    · cases h
  · cases h
theorem right_pos {p : PlanA} (h : p.right = true) : 1 ≤ p.threads := by
  simp [PlanA.right] at h; omega

def EventA.cs (e : EventA) : List Value := [.int .i64 e.kind, .int .i64 e.thread, .int .i64 e.call.kind, .int .i64 e.call.deadline, .int .u64 e.call.draw, .int .u64 e.call.handle, .int .i64 e.call.count, .int .i64 e.ticks]
def encE : Enc EventA := ⟨8, EventA.cs, fun _ => rfl, by decide, fun a u h => by simp only [EventA.cs, List.mem_cons, List.not_mem_nil, or_false] at h; rcases h with rfl | rfl | rfl | rfl | rfl | rfl | rfl | rfl <;> rfl⟩
theorem slE : SlTy Tryd.prog 39 49 encE := SlTy.mk' (.agg #[.int .i64 0, .int .i64 0, .int .i64 0, .int .i64 0, .int .u64 0, .int .u64 0, .int .i64 0, .int .i64 0]) 64 Tryd.underlying39 (by kernel_rfl) rfl (by decide)
theorem lenE {w : World} {v : Value} {xs : List EventA} {b off : Nat} (h : RdAt encE w v xs b off) (ty : TypeId) (W : World) :
    Sem.run Tryd.prog (Builtin.len_ #[39] ty #[v]) W = .ok (.int .i64 xs.length) W := h.len _ _ Tryd.underlying39 W
theorem idxE {w : World} {v : Value} {xs : List EventA} {b off : Nat} (h : RdAt encE w v xs b off) {k : Nat} (hk : k < xs.length) (W : World) :
    Sem.run Tryd.prog (Instr.indexAt 39 v (.int .i64 k)) W = .ok (.pointer (some ⟨b, off + k * 8, none⟩)) W := h.idx slE k hk W

/-- what a reader of scripts answers -/
def ScriptE (s : List UInt8) (e : Ending) (w' : World) : Prop :=
  match scriptV s with
  | .bad line k => e = .returned (.tuple #[planAgg ⟨0, 0, 0, 0⟩, .slice none 0 0, .int .i64 line, .int .i64 k])
  | .good p l => ∃ v, e = .returned (.tuple #[planAgg p, v, .int .i64 0, .int .i64 0]) ∧ Rd encE w' v l
end Go.Proofs.YtkdmodanfcpcfaaDoor
