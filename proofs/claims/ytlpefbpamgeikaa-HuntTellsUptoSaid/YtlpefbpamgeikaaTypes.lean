/- DERIVED. The plain data of package api as Lean structures, and how they lie in cells. -/
import Derived.Test.YtlpefbpamgeikaaLib
import Derived.Test.YtlpefbpamgeikaaOpen
namespace Go.Proofs.Ytlpefbpamgeikaa
open Go.RowKit Go.ChangeShapes Go.WideShapes

/-- a slice's three words -/
structure Sl where
  a : Option Addr
  n : Nat
  c : Nat
def Sl.v (s : Sl) : Value := .slice s.a s.n s.c

structure Plan where
  threads : Int
  slots : Int
  levels : Int
  gen : Int
structure Call where
  kind : Int
  deadline : Int
  draw : Int
  handle : Int
  count : Int
structure Rec where
  thread : Int
  call : Call
  beg : Int
  fin : Int
  done : Bool
  err : Int
  aok : Bool
  ahandle : Int
  batch : Sl
  acts : Sl
structure Stp where
  event : Int
  thread : Int
  kind : Int
  at_ : Int
  a : Int
  b : Int
  by_ : Int
  found : Int
  gen : Int
  parked : Bool
structure ActR where
  kind : Int
  handle : Int
  deadline : Int
  step : Int

def Plan.cs (p : Plan) : List Value := [.int .i64 p.threads, .int .i64 p.slots, .int .i64 p.levels, .int .u64 p.gen]
def Call.cs (c : Call) : List Value := [.int .i64 c.kind, .int .i64 c.deadline, .int .u64 c.draw, .int .u64 c.handle, .int .i64 c.count]
def Rec.cs (r : Rec) : List Value := [.int .i64 r.thread, .int .i64 r.call.kind, .int .i64 r.call.deadline, .int .u64 r.call.draw, .int .u64 r.call.handle, .int .i64 r.call.count, .int .i64 r.beg, .int .i64 r.fin, .bool r.done, .int .i64 r.err, .bool r.aok, .int .u64 r.ahandle, .slice r.batch.a r.batch.n r.batch.c, .slice r.acts.a r.acts.n r.acts.c]
def Stp.cs (s : Stp) : List Value := [.int .i64 s.event, .int .i64 s.thread, .int .i64 s.kind, .int .i64 s.at_, .int .u64 s.a, .int .u64 s.b, .int .u64 s.by_, .int .u64 s.found, .int .u64 s.gen, .bool s.parked]
def ActR.cs (a : ActR) : List Value := [.int .i64 a.kind, .int .u64 a.handle, .int .i64 a.deadline, .int .i64 a.step]

def encCall : Enc Call := ⟨5, Call.cs, fun _ => rfl, by decide, fun a u h => by simp only [Call.cs, List.mem_cons, List.not_mem_nil, or_false] at h; rcases h with rfl | rfl | rfl | rfl | rfl <;> rfl⟩
def encAct : Enc ActR := ⟨4, ActR.cs, fun _ => rfl, by decide, fun a u h => by simp only [ActR.cs, List.mem_cons, List.not_mem_nil, or_false] at h; rcases h with rfl | rfl | rfl | rfl <;> rfl⟩
def encStp : Enc Stp := ⟨10, Stp.cs, fun _ => rfl, by decide, fun a u h => by simp only [Stp.cs, List.mem_cons, List.not_mem_nil, or_false] at h; rcases h with rfl | rfl | rfl | rfl | rfl | rfl | rfl | rfl | rfl | rfl <;> rfl⟩
def encRec : Enc Rec := ⟨14, Rec.cs, fun _ => rfl, by decide, fun a u h => by simp only [Rec.cs, List.mem_cons, List.not_mem_nil, or_false] at h; rcases h with rfl | rfl | rfl | rfl | rfl | rfl | rfl | rfl | rfl | rfl | rfl | rfl | rfl | rfl <;> rfl⟩

/-! ### reading in a walk -/
theorem recAt {w : World} {v : Value} {xs : List Rec} {b off : Nat} (h : RdAt encRec w v xs b off) {k : Nat} {r : Rec} (hx : xs[k]? = some r) :
    w.cell? ⟨b, off + k * 14, none⟩ = some (.int .i64 r.thread) ∧ w.cell? ⟨b, off + k * 14 + 1, none⟩ = some (.int .i64 r.call.kind) ∧ w.cell? ⟨b, off + k * 14 + 2, none⟩ = some (.int .i64 r.call.deadline) ∧
    w.cell? ⟨b, off + k * 14 + 3, none⟩ = some (.int .u64 r.call.draw) ∧ w.cell? ⟨b, off + k * 14 + 4, none⟩ = some (.int .u64 r.call.handle) ∧ w.cell? ⟨b, off + k * 14 + 5, none⟩ = some (.int .i64 r.call.count) ∧
    w.cell? ⟨b, off + k * 14 + 6, none⟩ = some (.int .i64 r.beg) ∧ w.cell? ⟨b, off + k * 14 + 7, none⟩ = some (.int .i64 r.fin) ∧ w.cell? ⟨b, off + k * 14 + 8, none⟩ = some (.bool r.done) ∧
    w.cell? ⟨b, off + k * 14 + 9, none⟩ = some (.int .i64 r.err) ∧ w.cell? ⟨b, off + k * 14 + 10, none⟩ = some (.bool r.aok) ∧ w.cell? ⟨b, off + k * 14 + 11, none⟩ = some (.int .u64 r.ahandle) ∧
    w.cell? ⟨b, off + k * 14 + 12, none⟩ = some (.slice r.batch.a r.batch.n r.batch.c) ∧ w.cell? ⟨b, off + k * 14 + 13, none⟩ = some (.slice r.acts.a r.acts.n r.acts.c) := by
  have c := h.cell k r hx
  exact ⟨c 0 (by decide), c 1 (by decide), c 2 (by decide), c 3 (by decide), c 4 (by decide), c 5 (by decide), c 6 (by decide), c 7 (by decide), c 8 (by decide), c 9 (by decide), c 10 (by decide), c 11 (by decide), c 12 (by decide), c 13 (by decide)⟩
theorem stpAt {w : World} {v : Value} {xs : List Stp} {b off : Nat} (h : RdAt encStp w v xs b off) {k : Nat} {r : Stp} (hx : xs[k]? = some r) :
    w.cell? ⟨b, off + k * 10, none⟩ = some (.int .i64 r.event) ∧ w.cell? ⟨b, off + k * 10 + 1, none⟩ = some (.int .i64 r.thread) ∧ w.cell? ⟨b, off + k * 10 + 2, none⟩ = some (.int .i64 r.kind) ∧
    w.cell? ⟨b, off + k * 10 + 3, none⟩ = some (.int .i64 r.at_) ∧ w.cell? ⟨b, off + k * 10 + 4, none⟩ = some (.int .u64 r.a) ∧ w.cell? ⟨b, off + k * 10 + 5, none⟩ = some (.int .u64 r.b) ∧
    w.cell? ⟨b, off + k * 10 + 6, none⟩ = some (.int .u64 r.by_) ∧ w.cell? ⟨b, off + k * 10 + 7, none⟩ = some (.int .u64 r.found) ∧ w.cell? ⟨b, off + k * 10 + 8, none⟩ = some (.int .u64 r.gen) ∧
    w.cell? ⟨b, off + k * 10 + 9, none⟩ = some (.bool r.parked) := by
  have c := h.cell k r hx
  exact ⟨c 0 (by decide), c 1 (by decide), c 2 (by decide), c 3 (by decide), c 4 (by decide), c 5 (by decide), c 6 (by decide), c 7 (by decide), c 8 (by decide), c 9 (by decide)⟩
theorem actAt {w : World} {v : Value} {xs : List ActR} {b off : Nat} (h : RdAt encAct w v xs b off) {k : Nat} {r : ActR} (hx : xs[k]? = some r) :
    w.cell? ⟨b, off + k * 4, none⟩ = some (.int .i64 r.kind) ∧ w.cell? ⟨b, off + k * 4 + 1, none⟩ = some (.int .u64 r.handle) ∧ w.cell? ⟨b, off + k * 4 + 2, none⟩ = some (.int .i64 r.deadline) ∧
    w.cell? ⟨b, off + k * 4 + 3, none⟩ = some (.int .i64 r.step) := by
  have c := h.cell k r hx
  exact ⟨c 0 (by decide), c 1 (by decide), c 2 (by decide), c 3 (by decide)⟩
end Go.Proofs.Ytlpefbpamgeikaa
