/-
  No cell of these rows narrows 'for every input' (looked for: loops, veiled, ifaces, maps, wideKeys, modest, calm, conditions, laid).
  DERIVED. THE GIVEN ROWS OF THIS SEAT. 11 by the template 'for every input the law returns true; each argument reads behind the call as it read before'; 0 by the template 'total and deterministic' (their statements: YtbeaacchhaipjaaTotals.lean).
  GIVEN WITH THE SEED: the statements are not yours to turn. If you find one false, say at which input.
  Laid BY PROGRAM, IN A SANDBOX (cutbox-rows.mjs): the forced cells as the released guide's own fill.sh prints them over the translation 4f95e2a79164d922… (all of the seat's roots in one cut). By AI agents, Wed Nov 11 2026. No macro, syntax, notation, axiom, sorry.
-/
import Derived.Test.YtbeaacchhaipjaaChecked
import GoSem.Claim
import GoSem.ClaimJoined
import GoSem.ClaimMapViews
import Derived.JoinedTies
import Derived.KernelRfl
namespace Go.Proofs.Ytbeaacchhaipjaa
/- THE CELL 'sum', in the pinned program and in every row, IS THE sha256 OF THE DUMP (.gsa) THAT YtbeaacchhaipjaaProg.lean LOADS. Nothing in Lean hashes anything: it is a label: what it is worth is what the hold of that sum in a sandbox is worth. -/
noncomputable def Try.pinned : Pinned := { name := "ytbeaacchhaipjaa", sum := "4f95e2a79164d9228900ef8c383420cc8e9dcb492514d32a43afe5977fae530c", checked := Try.checked }
namespace Rows
def none {H : Type} : Left H := { results := [], args := [] }

/-- 'tailracelaw1.PackSteps': WHATEVER THE INPUT: true; the input reads as it did. -/
def packStepsSpec : ChangeSpec := { name := "packSteps", fn := fun _ => fun
  | [d1, d2, d3] => { results := [.lit (.bool true)], args := [d1, d2, d3] }
  | _ => none }
def packStepsRow : OpenClaim := { program := "ytbeaacchhaipjaa", sum := "4f95e2a79164d9228900ef8c383420cc8e9dcb492514d32a43afe5977fae530c", func := "tailrace/tailracelaw1.PackSteps", spec := "packSteps", apart := false }
def PackStepsSaid : Prop := packStepsRow.holds Try.pinned (OpenSpec.ofChange packStepsSpec)

/-- ITS FALSE NEIGHBOUR: 'it returns false'. Refute it at one input. -/
def packStepsWrong : ChangeSpec := { name := "packSteps", fn := fun _ => fun
  | [d1, d2, d3] => { results := [.lit (.bool false)], args := [d1, d2, d3] }
  | _ => none }
def PackStepsWrongFalsely : Prop := packStepsRow.holds Try.pinned (OpenSpec.ofChange packStepsWrong)

/-- 'tailracelaw1.PackSums': WHATEVER THE INPUT: true; the input reads as it did. -/
def packSumsSpec : ChangeSpec := { name := "packSums", fn := fun _ => fun
  | [d] => { results := [.lit (.bool true)], args := [d] }
  | _ => none }
def packSumsRow : OpenClaim := { program := "ytbeaacchhaipjaa", sum := "4f95e2a79164d9228900ef8c383420cc8e9dcb492514d32a43afe5977fae530c", func := "tailrace/tailracelaw1.PackSums", spec := "packSums", apart := false }
def PackSumsSaid : Prop := packSumsRow.holds Try.pinned (OpenSpec.ofChange packSumsSpec)

/-- ITS FALSE NEIGHBOUR: 'it returns false'. Refute it at one input. -/
def packSumsWrong : ChangeSpec := { name := "packSums", fn := fun _ => fun
  | [d] => { results := [.lit (.bool false)], args := [d] }
  | _ => none }
def PackSumsWrongFalsely : Prop := packSumsRow.holds Try.pinned (OpenSpec.ofChange packSumsWrong)

/-- 'tailracelaw1.PackTurned': WHATEVER THE INPUT: true; the input reads as it did. -/
def packTurnedSpec : ChangeSpec := { name := "packTurned", fn := fun _ => fun
  | [d1, d2, d3] => { results := [.lit (.bool true)], args := [d1, d2, d3] }
  | _ => none }
def packTurnedRow : OpenClaim := { program := "ytbeaacchhaipjaa", sum := "4f95e2a79164d9228900ef8c383420cc8e9dcb492514d32a43afe5977fae530c", func := "tailrace/tailracelaw1.PackTurned", spec := "packTurned", apart := false }
def PackTurnedSaid : Prop := packTurnedRow.holds Try.pinned (OpenSpec.ofChange packTurnedSpec)

/-- ITS FALSE NEIGHBOUR: 'it returns false'. Refute it at one input. -/
def packTurnedWrong : ChangeSpec := { name := "packTurned", fn := fun _ => fun
  | [d1, d2, d3] => { results := [.lit (.bool false)], args := [d1, d2, d3] }
  | _ => none }
def PackTurnedWrongFalsely : Prop := packTurnedRow.holds Try.pinned (OpenSpec.ofChange packTurnedWrong)

/-- 'tailracelaw1.PackWrites': WHATEVER THE INPUT: true; the input reads as it did. -/
def packWritesSpec : ChangeSpec := { name := "packWrites", fn := fun _ => fun
  | [d] => { results := [.lit (.bool true)], args := [d] }
  | _ => none }
def packWritesRow : OpenClaim := { program := "ytbeaacchhaipjaa", sum := "4f95e2a79164d9228900ef8c383420cc8e9dcb492514d32a43afe5977fae530c", func := "tailrace/tailracelaw1.PackWrites", spec := "packWrites", inPlace := ["math.Float64frombits", "math.Float64bits"], apart := false }
def PackWritesSaid : Prop := packWritesRow.holds Try.pinned (OpenSpec.ofChange packWritesSpec)

/-- ITS FALSE NEIGHBOUR: 'it returns false'. Refute it at one input. -/
def packWritesWrong : ChangeSpec := { name := "packWrites", fn := fun _ => fun
  | [d] => { results := [.lit (.bool false)], args := [d] }
  | _ => none }
def PackWritesWrongFalsely : Prop := packWritesRow.holds Try.pinned (OpenSpec.ofChange packWritesWrong)

/-- 'tailracelaw1.PackFloats': WHATEVER THE INPUT: true; the input reads as it did. -/
def packFloatsSpec : ChangeSpec := { name := "packFloats", fn := fun _ => fun
  | [d1, d2] => { results := [.lit (.bool true)], args := [d1, d2] }
  | _ => none }
def packFloatsRow : OpenClaim := { program := "ytbeaacchhaipjaa", sum := "4f95e2a79164d9228900ef8c383420cc8e9dcb492514d32a43afe5977fae530c", func := "tailrace/tailracelaw1.PackFloats", spec := "packFloats", inPlace := ["math.Float64frombits", "math.Float64bits"], apart := false }
def PackFloatsSaid : Prop := packFloatsRow.holds Try.pinned (OpenSpec.ofChange packFloatsSpec)

/-- ITS FALSE NEIGHBOUR: 'it returns false'. Refute it at one input. -/
def packFloatsWrong : ChangeSpec := { name := "packFloats", fn := fun _ => fun
  | [d1, d2] => { results := [.lit (.bool false)], args := [d1, d2] }
  | _ => none }
def PackFloatsWrongFalsely : Prop := packFloatsRow.holds Try.pinned (OpenSpec.ofChange packFloatsWrong)

/-- 'tailracelaw1.PackKnown': WHATEVER THE INPUT: true; the input reads as it did. -/
def packKnownSpec : ChangeSpec := { name := "packKnown", fn := fun _ => fun
  | [] => { results := [.lit (.bool true)], args := [] }
  | _ => none }
def packKnownRow : OpenClaim := { program := "ytbeaacchhaipjaa", sum := "4f95e2a79164d9228900ef8c383420cc8e9dcb492514d32a43afe5977fae530c", func := "tailrace/tailracelaw1.PackKnown", spec := "packKnown", apart := false }
def PackKnownSaid : Prop := packKnownRow.holds Try.pinned (OpenSpec.ofChange packKnownSpec)

/-- ITS FALSE NEIGHBOUR: 'it returns false'. Refute it at one input. -/
def packKnownWrong : ChangeSpec := { name := "packKnown", fn := fun _ => fun
  | [] => { results := [.lit (.bool false)], args := [] }
  | _ => none }
def PackKnownWrongFalsely : Prop := packKnownRow.holds Try.pinned (OpenSpec.ofChange packKnownWrong)

/-- 'tailracelaw1.PackReads': WHATEVER THE INPUT: true; the input reads as it did. -/
def packReadsSpec : ChangeSpec := { name := "packReads", fn := fun _ => fun
  | [d1, d2] => { results := [.lit (.bool true)], args := [d1, d2] }
  | _ => none }
def packReadsRow : OpenClaim := { program := "ytbeaacchhaipjaa", sum := "4f95e2a79164d9228900ef8c383420cc8e9dcb492514d32a43afe5977fae530c", func := "tailrace/tailracelaw1.PackReads", spec := "packReads", inPlace := ["math.Float64frombits", "math.Float64bits"], apart := false }
def PackReadsSaid : Prop := packReadsRow.holds Try.pinned (OpenSpec.ofChange packReadsSpec)

/-- ITS FALSE NEIGHBOUR: 'it returns false'. Refute it at one input. -/
def packReadsWrong : ChangeSpec := { name := "packReads", fn := fun _ => fun
  | [d1, d2] => { results := [.lit (.bool false)], args := [d1, d2] }
  | _ => none }
def PackReadsWrongFalsely : Prop := packReadsRow.holds Try.pinned (OpenSpec.ofChange packReadsWrong)

/-- 'tailracelaw1.PackNear': WHATEVER THE INPUT: true; the input reads as it did. -/
def packNearSpec : ChangeSpec := { name := "packNear", fn := fun _ => fun
  | [d1, d2, d3, d4] => { results := [.lit (.bool true)], args := [d1, d2, d3, d4] }
  | _ => none }
def packNearRow : OpenClaim := { program := "ytbeaacchhaipjaa", sum := "4f95e2a79164d9228900ef8c383420cc8e9dcb492514d32a43afe5977fae530c", func := "tailrace/tailracelaw1.PackNear", spec := "packNear", inPlace := ["math.Float64frombits", "math.Float64bits"], apart := false }
def PackNearSaid : Prop := packNearRow.holds Try.pinned (OpenSpec.ofChange packNearSpec)

/-- ITS FALSE NEIGHBOUR: 'it returns false'. Refute it at one input. -/
def packNearWrong : ChangeSpec := { name := "packNear", fn := fun _ => fun
  | [d1, d2, d3, d4] => { results := [.lit (.bool false)], args := [d1, d2, d3, d4] }
  | _ => none }
def PackNearWrongFalsely : Prop := packNearRow.holds Try.pinned (OpenSpec.ofChange packNearWrong)

/-- 'tailracelaw1.PackBack': WHATEVER THE INPUT: true; the input reads as it did. -/
def packBackSpec : ChangeSpec := { name := "packBack", fn := fun _ => fun
  | [d] => { results := [.lit (.bool true)], args := [d] }
  | _ => none }
def packBackRow : OpenClaim := { program := "ytbeaacchhaipjaa", sum := "4f95e2a79164d9228900ef8c383420cc8e9dcb492514d32a43afe5977fae530c", func := "tailrace/tailracelaw1.PackBack", spec := "packBack", inPlace := ["math.Float64frombits", "math.Float64bits"], apart := false }
def PackBackSaid : Prop := packBackRow.holds Try.pinned (OpenSpec.ofChange packBackSpec)

/-- ITS FALSE NEIGHBOUR: 'it returns false'. Refute it at one input. -/
def packBackWrong : ChangeSpec := { name := "packBack", fn := fun _ => fun
  | [d] => { results := [.lit (.bool false)], args := [d] }
  | _ => none }
def PackBackWrongFalsely : Prop := packBackRow.holds Try.pinned (OpenSpec.ofChange packBackWrong)

/-- 'tailracelaw1.PackCut': WHATEVER THE INPUT: true; the input reads as it did. -/
def packCutSpec : ChangeSpec := { name := "packCut", fn := fun _ => fun
  | [d1, d2] => { results := [.lit (.bool true)], args := [d1, d2] }
  | _ => none }
def packCutRow : OpenClaim := { program := "ytbeaacchhaipjaa", sum := "4f95e2a79164d9228900ef8c383420cc8e9dcb492514d32a43afe5977fae530c", func := "tailrace/tailracelaw1.PackCut", spec := "packCut", inPlace := ["math.Float64frombits", "math.Float64bits"], apart := false }
def PackCutSaid : Prop := packCutRow.holds Try.pinned (OpenSpec.ofChange packCutSpec)

/-- ITS FALSE NEIGHBOUR: 'it returns false'. Refute it at one input. -/
def packCutWrong : ChangeSpec := { name := "packCut", fn := fun _ => fun
  | [d1, d2] => { results := [.lit (.bool false)], args := [d1, d2] }
  | _ => none }
def PackCutWrongFalsely : Prop := packCutRow.holds Try.pinned (OpenSpec.ofChange packCutWrong)

/-- 'tailracelaw1.PackOne': WHATEVER THE INPUT: true; the input reads as it did. -/
def packOneSpec : ChangeSpec := { name := "packOne", fn := fun _ => fun
  | [d1, d2] => { results := [.lit (.bool true)], args := [d1, d2] }
  | _ => none }
def packOneRow : OpenClaim := { program := "ytbeaacchhaipjaa", sum := "4f95e2a79164d9228900ef8c383420cc8e9dcb492514d32a43afe5977fae530c", func := "tailrace/tailracelaw1.PackOne", spec := "packOne", inPlace := ["math.Float64frombits", "math.Float64bits"], apart := false }
def PackOneSaid : Prop := packOneRow.holds Try.pinned (OpenSpec.ofChange packOneSpec)

/-- ITS FALSE NEIGHBOUR: 'it returns false'. Refute it at one input. -/
def packOneWrong : ChangeSpec := { name := "packOne", fn := fun _ => fun
  | [d1, d2] => { results := [.lit (.bool false)], args := [d1, d2] }
  | _ => none }
def PackOneWrongFalsely : Prop := packOneRow.holds Try.pinned (OpenSpec.ofChange packOneWrong)

/- THE SECOND FORM. 'bulk': how many values and letters a reading holds, each counted each time it is reached (what is shared counts as often as it is met; a slice's spare places count too). A statement '..UptoSaid' is the law's where the arguments, and the package variables that the reading takes, are together of bulk at most 1048576: NARROWER than '..Said'. Prove '..Said' where nothing that the law and all that it calls make is longer than what came in: it says more and counts as full. Else prove '..UptoSaid'. A law counts once. -/
mutual
def uptoBulk {H : Type} : DataW H → Nat
  | .lit (.string bytes) => bytes.length + 1
  | .lit _ => 1
  | .nil => 1
  | .ptr d => uptoBulk d + 1
  | .slice elems spare => uptoBulkAll elems + uptoBulkAll spare + 1
  | .agg parts => uptoBulkAll parts + 1
  | .iface _ d => uptoBulk d + 1
  | .map entries => uptoBulkEntries entries + 1
  | .held _ => 1
def uptoBulkAll {H : Type} : List (DataW H) → Nat
  | [] => 0
  | d :: r => uptoBulk d + uptoBulkAll r
def uptoBulkEntries {H : Type} : List (Lit × DataW H) → Nat
  | [] => 0
  | x :: r => uptoBulkEntry x + uptoBulkEntries r
def uptoBulkEntry {H : Type} : Lit × DataW H → Nat
  | (.string bytes, d) => bytes.length + uptoBulk d + 1
  | (_, d) => uptoBulk d + 1
 end
def uptoSmall : (H : Type) → List (DataW H) → Bool := fun _ ds => decide (uptoBulkAll ds ≤ 1048576)
def OpenSpec.upto (s : _root_.Go.ChangeSpec) : _root_.Go.OpenSpec := { _root_.Go.OpenSpec.ofChange s with cond := some uptoSmall }

/-- 'tailracelaw1.PackSteps', WHERE WHAT IT READS IS OF BULK AT MOST 1048576: true; the input reads as it did. -/
def packStepsUptoRow : OpenClaim := { program := "ytbeaacchhaipjaa", sum := "4f95e2a79164d9228900ef8c383420cc8e9dcb492514d32a43afe5977fae530c", func := "tailrace/tailracelaw1.PackSteps", spec := "packSteps", apart := false, narrowed := true }
def PackStepsUptoSaid : Prop := packStepsUptoRow.holds Try.pinned (OpenSpec.upto packStepsSpec)

/-- 'tailracelaw1.PackSums', WHERE WHAT IT READS IS OF BULK AT MOST 1048576: true; the input reads as it did. -/
def packSumsUptoRow : OpenClaim := { program := "ytbeaacchhaipjaa", sum := "4f95e2a79164d9228900ef8c383420cc8e9dcb492514d32a43afe5977fae530c", func := "tailrace/tailracelaw1.PackSums", spec := "packSums", apart := false, narrowed := true }
def PackSumsUptoSaid : Prop := packSumsUptoRow.holds Try.pinned (OpenSpec.upto packSumsSpec)

/-- 'tailracelaw1.PackTurned', WHERE WHAT IT READS IS OF BULK AT MOST 1048576: true; the input reads as it did. -/
def packTurnedUptoRow : OpenClaim := { program := "ytbeaacchhaipjaa", sum := "4f95e2a79164d9228900ef8c383420cc8e9dcb492514d32a43afe5977fae530c", func := "tailrace/tailracelaw1.PackTurned", spec := "packTurned", apart := false, narrowed := true }
def PackTurnedUptoSaid : Prop := packTurnedUptoRow.holds Try.pinned (OpenSpec.upto packTurnedSpec)

/-- 'tailracelaw1.PackWrites', WHERE WHAT IT READS IS OF BULK AT MOST 1048576: true; the input reads as it did. -/
def packWritesUptoRow : OpenClaim := { program := "ytbeaacchhaipjaa", sum := "4f95e2a79164d9228900ef8c383420cc8e9dcb492514d32a43afe5977fae530c", func := "tailrace/tailracelaw1.PackWrites", spec := "packWrites", inPlace := ["math.Float64frombits", "math.Float64bits"], apart := false, narrowed := true }
def PackWritesUptoSaid : Prop := packWritesUptoRow.holds Try.pinned (OpenSpec.upto packWritesSpec)

/-- 'tailracelaw1.PackFloats', WHERE WHAT IT READS IS OF BULK AT MOST 1048576: true; the input reads as it did. -/
def packFloatsUptoRow : OpenClaim := { program := "ytbeaacchhaipjaa", sum := "4f95e2a79164d9228900ef8c383420cc8e9dcb492514d32a43afe5977fae530c", func := "tailrace/tailracelaw1.PackFloats", spec := "packFloats", inPlace := ["math.Float64frombits", "math.Float64bits"], apart := false, narrowed := true }
def PackFloatsUptoSaid : Prop := packFloatsUptoRow.holds Try.pinned (OpenSpec.upto packFloatsSpec)

/-- 'tailracelaw1.PackKnown', WHERE WHAT IT READS IS OF BULK AT MOST 1048576: true; the input reads as it did. -/
def packKnownUptoRow : OpenClaim := { program := "ytbeaacchhaipjaa", sum := "4f95e2a79164d9228900ef8c383420cc8e9dcb492514d32a43afe5977fae530c", func := "tailrace/tailracelaw1.PackKnown", spec := "packKnown", apart := false, narrowed := true }
def PackKnownUptoSaid : Prop := packKnownUptoRow.holds Try.pinned (OpenSpec.upto packKnownSpec)

/-- 'tailracelaw1.PackReads', WHERE WHAT IT READS IS OF BULK AT MOST 1048576: true; the input reads as it did. -/
def packReadsUptoRow : OpenClaim := { program := "ytbeaacchhaipjaa", sum := "4f95e2a79164d9228900ef8c383420cc8e9dcb492514d32a43afe5977fae530c", func := "tailrace/tailracelaw1.PackReads", spec := "packReads", inPlace := ["math.Float64frombits", "math.Float64bits"], apart := false, narrowed := true }
def PackReadsUptoSaid : Prop := packReadsUptoRow.holds Try.pinned (OpenSpec.upto packReadsSpec)

/-- 'tailracelaw1.PackNear', WHERE WHAT IT READS IS OF BULK AT MOST 1048576: true; the input reads as it did. -/
def packNearUptoRow : OpenClaim := { program := "ytbeaacchhaipjaa", sum := "4f95e2a79164d9228900ef8c383420cc8e9dcb492514d32a43afe5977fae530c", func := "tailrace/tailracelaw1.PackNear", spec := "packNear", inPlace := ["math.Float64frombits", "math.Float64bits"], apart := false, narrowed := true }
def PackNearUptoSaid : Prop := packNearUptoRow.holds Try.pinned (OpenSpec.upto packNearSpec)

/-- 'tailracelaw1.PackBack', WHERE WHAT IT READS IS OF BULK AT MOST 1048576: true; the input reads as it did. -/
def packBackUptoRow : OpenClaim := { program := "ytbeaacchhaipjaa", sum := "4f95e2a79164d9228900ef8c383420cc8e9dcb492514d32a43afe5977fae530c", func := "tailrace/tailracelaw1.PackBack", spec := "packBack", inPlace := ["math.Float64frombits", "math.Float64bits"], apart := false, narrowed := true }
def PackBackUptoSaid : Prop := packBackUptoRow.holds Try.pinned (OpenSpec.upto packBackSpec)

/-- 'tailracelaw1.PackCut', WHERE WHAT IT READS IS OF BULK AT MOST 1048576: true; the input reads as it did. -/
def packCutUptoRow : OpenClaim := { program := "ytbeaacchhaipjaa", sum := "4f95e2a79164d9228900ef8c383420cc8e9dcb492514d32a43afe5977fae530c", func := "tailrace/tailracelaw1.PackCut", spec := "packCut", inPlace := ["math.Float64frombits", "math.Float64bits"], apart := false, narrowed := true }
def PackCutUptoSaid : Prop := packCutUptoRow.holds Try.pinned (OpenSpec.upto packCutSpec)

/-- 'tailracelaw1.PackOne', WHERE WHAT IT READS IS OF BULK AT MOST 1048576: true; the input reads as it did. -/
def packOneUptoRow : OpenClaim := { program := "ytbeaacchhaipjaa", sum := "4f95e2a79164d9228900ef8c383420cc8e9dcb492514d32a43afe5977fae530c", func := "tailrace/tailracelaw1.PackOne", spec := "packOne", inPlace := ["math.Float64frombits", "math.Float64bits"], apart := false, narrowed := true }
def PackOneUptoSaid : Prop := packOneUptoRow.holds Try.pinned (OpenSpec.upto packOneSpec)

end Rows
end Go.Proofs.Ytbeaacchhaipjaa
