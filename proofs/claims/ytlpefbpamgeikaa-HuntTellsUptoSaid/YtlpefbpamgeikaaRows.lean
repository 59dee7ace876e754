/-
  No cell of these rows narrows 'for every input' (looked for: loops, veiled, ifaces, maps, wideKeys, modest, calm, conditions, laid).
  DERIVED. THE GIVEN ROWS OF THIS SEAT. 4 by the template 'for every input the law returns true; each argument reads behind the call as it read before'; 0 by the template 'total and deterministic' (their statements: YtlpefbpamgeikaaTotals.lean).
  GIVEN WITH THE SEED: the statements are not yours to turn. If you find one false, say at which input.
  Laid BY PROGRAM, IN A SANDBOX (cutbox-rows.mjs): the forced cells as the released guide's own fill.sh prints them over the translation 6ca83e459ee698ca… (all of the seat's roots in one cut). By AI agents, Wed Nov 11 2026. No macro, syntax, notation, axiom, sorry.
-/
import Derived.Test.YtlpefbpamgeikaaChecked
import GoSem.Claim
import GoSem.ClaimJoined
import GoSem.ClaimMapViews
import Derived.JoinedTies
import Derived.KernelRfl
namespace Go.Proofs.Ytlpefbpamgeikaa
/- THE CELL 'sum', in the pinned program and in every row, IS THE sha256 OF THE DUMP (.gsa) THAT YtlpefbpamgeikaaProg.lean LOADS. Nothing in Lean hashes anything: it is a label: what it is worth is what the hold of that sum in a sandbox is worth. -/
noncomputable def Try.pinned : Pinned := { name := "ytlpefbpamgeikaa", sum := "6ca83e459ee698ca2cc85ae36f554acea512c57588b3d5cbdacb5271d33b6b97", checked := Try.checked }
namespace Rows
def none {H : Type} : Left H := { results := [], args := [] }

/-- 'sundiallaw05.DrawMore': WHATEVER THE INPUT: true; the input reads as it did. -/
def drawMoreSpec : ChangeSpec := { name := "drawMore", fn := fun _ => fun
  | [d1, d2, d3] => { results := [.lit (.bool true)], args := [d1, d2, d3] }
  | _ => none }
def drawMoreRow : OpenClaim := { program := "ytlpefbpamgeikaa", sum := "6ca83e459ee698ca2cc85ae36f554acea512c57588b3d5cbdacb5271d33b6b97", func := "sundial/sundiallaw05.DrawMore", spec := "drawMore", plainKeys := false, apart := false }
def DrawMoreSaid : Prop := drawMoreRow.holds Try.pinned (OpenSpec.ofChange drawMoreSpec)

/-- ITS FALSE NEIGHBOUR: 'it returns false'. Refute it at one input. -/
def drawMoreWrong : ChangeSpec := { name := "drawMore", fn := fun _ => fun
  | [d1, d2, d3] => { results := [.lit (.bool false)], args := [d1, d2, d3] }
  | _ => none }
def DrawMoreWrongFalsely : Prop := drawMoreRow.holds Try.pinned (OpenSpec.ofChange drawMoreWrong)

/-- 'sundiallaw05.DrawTells': WHATEVER THE INPUT: true; the input reads as it did. -/
def drawTellsSpec : ChangeSpec := { name := "drawTells", fn := fun _ => fun
  | [d1, d2, d3] => { results := [.lit (.bool true)], args := [d1, d2, d3] }
  | _ => none }
def drawTellsRow : OpenClaim := { program := "ytlpefbpamgeikaa", sum := "6ca83e459ee698ca2cc85ae36f554acea512c57588b3d5cbdacb5271d33b6b97", func := "sundial/sundiallaw05.DrawTells", spec := "drawTells", plainKeys := false, apart := false }
def DrawTellsSaid : Prop := drawTellsRow.holds Try.pinned (OpenSpec.ofChange drawTellsSpec)

/-- ITS FALSE NEIGHBOUR: 'it returns false'. Refute it at one input. -/
def drawTellsWrong : ChangeSpec := { name := "drawTells", fn := fun _ => fun
  | [d1, d2, d3] => { results := [.lit (.bool false)], args := [d1, d2, d3] }
  | _ => none }
def DrawTellsWrongFalsely : Prop := drawTellsRow.holds Try.pinned (OpenSpec.ofChange drawTellsWrong)

/-- 'sundiallaw50.SpanTells': WHATEVER THE INPUT: true; the input reads as it did. -/
def spanTellsSpec : ChangeSpec := { name := "spanTells", fn := fun _ => fun
  | [d1, d2, d3] => { results := [.lit (.bool true)], args := [d1, d2, d3] }
  | _ => none }
def spanTellsRow : OpenClaim := { program := "ytlpefbpamgeikaa", sum := "6ca83e459ee698ca2cc85ae36f554acea512c57588b3d5cbdacb5271d33b6b97", func := "sundial/sundiallaw50.SpanTells", spec := "spanTells", plainKeys := false, apart := false }
def SpanTellsSaid : Prop := spanTellsRow.holds Try.pinned (OpenSpec.ofChange spanTellsSpec)

/-- ITS FALSE NEIGHBOUR: 'it returns false'. Refute it at one input. -/
def spanTellsWrong : ChangeSpec := { name := "spanTells", fn := fun _ => fun
  | [d1, d2, d3] => { results := [.lit (.bool false)], args := [d1, d2, d3] }
  | _ => none }
def SpanTellsWrongFalsely : Prop := spanTellsRow.holds Try.pinned (OpenSpec.ofChange spanTellsWrong)

/-- 'sundiallaw46.HuntTells': WHATEVER THE INPUT: true; the input reads as it did. -/
def huntTellsSpec : ChangeSpec := { name := "huntTells", fn := fun _ => fun
  | [d1, d2] => { results := [.lit (.bool true)], args := [d1, d2] }
  | _ => none }
def huntTellsRow : OpenClaim := { program := "ytlpefbpamgeikaa", sum := "6ca83e459ee698ca2cc85ae36f554acea512c57588b3d5cbdacb5271d33b6b97", func := "sundial/sundiallaw46.HuntTells", spec := "huntTells", recurses := true, plainKeys := false, apart := false }
def HuntTellsSaid : Prop := huntTellsRow.holds Try.pinned (OpenSpec.ofChange huntTellsSpec)

/-- ITS FALSE NEIGHBOUR: 'it returns false'. Refute it at one input. -/
def huntTellsWrong : ChangeSpec := { name := "huntTells", fn := fun _ => fun
  | [d1, d2] => { results := [.lit (.bool false)], args := [d1, d2] }
  | _ => none }
def HuntTellsWrongFalsely : Prop := huntTellsRow.holds Try.pinned (OpenSpec.ofChange huntTellsWrong)

/- THE SECOND FORM. 'bulk': how many values and letters a reading holds, each counted each time it is reached (what is shared counts as often as it is met; a slice's spare places count too). A statement '..UptoSaid' is the law's where the arguments, and the package variables that the reading takes, are together of bulk at most 1048576: NARROWER than '..Said'. Prove '..Said' where nothing that the law and all that it calls make is longer than what came in: it says more and counts as full. Else prove '..UptoSaid'. A law counts once. -/
mutual
def uptoBulk {H : Type} : DataW H → Nat
  | .lit (.string bytes) => bytes.length + 1
  | .lit _ => 1
  | .nil => 1
  | .ptr d => uptoBulk d + 1
  | .slice elems spare => uptoBulkAll elems + uptoBulkAll spare + 1
  | .agg parts => uptoBulkAll parts + 1
  | .iface _ d => uptoBulk d + 1
  | .map entries => uptoBulkEntries entries + 1
  | .held _ => 1
def uptoBulkAll {H : Type} : List (DataW H) → Nat
  | [] => 0
  | d :: r => uptoBulk d + uptoBulkAll r
def uptoBulkEntries {H : Type} : List (Lit × DataW H) → Nat
  | [] => 0
  | x :: r => uptoBulkEntry x + uptoBulkEntries r
def uptoBulkEntry {H : Type} : Lit × DataW H → Nat
  | (.string bytes, d) => bytes.length + uptoBulk d + 1
  | (_, d) => uptoBulk d + 1
 end
def uptoSmall : (H : Type) → List (DataW H) → Bool := fun _ ds => decide (uptoBulkAll ds ≤ 1048576)
def OpenSpec.upto (s : _root_.Go.ChangeSpec) : _root_.Go.OpenSpec := { _root_.Go.OpenSpec.ofChange s with cond := some uptoSmall }

/-- 'sundiallaw05.DrawMore', WHERE WHAT IT READS IS OF BULK AT MOST 1048576: true; the input reads as it did. -/
def drawMoreUptoRow : OpenClaim := { program := "ytlpefbpamgeikaa", sum := "6ca83e459ee698ca2cc85ae36f554acea512c57588b3d5cbdacb5271d33b6b97", func := "sundial/sundiallaw05.DrawMore", spec := "drawMore", plainKeys := false, apart := false, narrowed := true }
def DrawMoreUptoSaid : Prop := drawMoreUptoRow.holds Try.pinned (OpenSpec.upto drawMoreSpec)

/-- 'sundiallaw05.DrawTells', WHERE WHAT IT READS IS OF BULK AT MOST 1048576: true; the input reads as it did. -/
def drawTellsUptoRow : OpenClaim := { program := "ytlpefbpamgeikaa", sum := "6ca83e459ee698ca2cc85ae36f554acea512c57588b3d5cbdacb5271d33b6b97", func := "sundial/sundiallaw05.DrawTells", spec := "drawTells", plainKeys := false, apart := false, narrowed := true }
def DrawTellsUptoSaid : Prop := drawTellsUptoRow.holds Try.pinned (OpenSpec.upto drawTellsSpec)

/-- 'sundiallaw50.SpanTells', WHERE WHAT IT READS IS OF BULK AT MOST 1048576: true; the input reads as it did. -/
def spanTellsUptoRow : OpenClaim := { program := "ytlpefbpamgeikaa", sum := "6ca83e459ee698ca2cc85ae36f554acea512c57588b3d5cbdacb5271d33b6b97", func := "sundial/sundiallaw50.SpanTells", spec := "spanTells", plainKeys := false, apart := false, narrowed := true }
def SpanTellsUptoSaid : Prop := spanTellsUptoRow.holds Try.pinned (OpenSpec.upto spanTellsSpec)

/-- 'sundiallaw46.HuntTells', WHERE WHAT IT READS IS OF BULK AT MOST 1048576: true; the input reads as it did. -/
def huntTellsUptoRow : OpenClaim := { program := "ytlpefbpamgeikaa", sum := "6ca83e459ee698ca2cc85ae36f554acea512c57588b3d5cbdacb5271d33b6b97", func := "sundial/sundiallaw46.HuntTells", spec := "huntTells", recurses := true, plainKeys := false, apart := false, narrowed := true }
def HuntTellsUptoSaid : Prop := huntTellsUptoRow.holds Try.pinned (OpenSpec.upto huntTellsSpec)

end Rows
end Go.Proofs.Ytlpefbpamgeikaa
