/-
  NARROWER THAN 'FOR EVERY INPUT', by the rows' own cells (each row's printed sentence says how): SplitPieces: laid · SplitPlays: laid · SplitLaid: laid.
  DERIVED. THE GIVEN ROWS OF THIS SEAT. 3 by the template 'for every input the law returns true; each argument reads behind the call as it read before'; 0 by the template 'total and deterministic' (their statements: YtkpckmdakiminaaDoorTotals.lean).
  GIVEN WITH THE SEED: the statements are not yours to turn. If you find one false, say at which input.
  Laid BY PROGRAM, IN A SANDBOX (cutbox-rows.mjs): the forced cells as the released guide's own fill.sh prints them over the translation 28eece1d54636b3c… (all of the seat's roots in one cut). By AI agents, Wed Nov 11 2026. No macro, syntax, notation, axiom, sorry.
-/
import Derived.Test.YtkpckmdakiminaaDoorChecked
import GoSem.Claim
import GoSem.ClaimJoined
import GoSem.ClaimMapViews
import Derived.JoinedTies
import Derived.KernelRfl
namespace Go.Proofs.YtkpckmdakiminaaDoor
/- THE CELL 'sum', in the pinned program and in every row, IS THE sha256 OF THE DUMP (.gsa) THAT YtkpckmdakiminaaDoorProg.lean LOADS. Nothing in Lean hashes anything: it is a label: what it is worth is what the hold of that sum in a sandbox is worth. -/
noncomputable def Tryd.pinned : Pinned := { name := "ytkpckmdakiminaadoor", sum := "28eece1d54636b3c0674bbf9df0fee852720351ceacd2c3086e1863390a990a6", checked := Tryd.checked }
namespace Rows
def none {H : Type} : Left H := { results := [], args := [] }

/- WHAT THE LISTED PACKAGE-LEVEL VARIABLES READ AS WHEN THE CALL BEGINS. Each datum BY PROGRAM (the guide's laid-datum.mjs) off the statement by which the dump's own 'gosem.cut.vars' lays the variable. In a bare row this is a premise. The card (YtkpckmdakiminaaDoorCards.lean) ties it to the program's text. -/
def laid_tailrace_tailracelaw7_seps {H : Type} : DataW H := .agg [.lit (.string [10]), .lit (.string []), .lit (.string [59]), .lit (.string [10]), .lit (.string [59, 120])]

/-- 'tailracelaw7.SplitPieces': WHATEVER THE INPUT: true; the input reads as it did. -/
def splitPiecesSpec : ChangeSpec := { name := "splitPieces", fn := fun _ => fun
  | [d1, d2, d3, d4, d5] => { results := [.lit (.bool true)], args := [d1, d2, d3, d4, d5] }
  | _ => none }
def splitPiecesRow : OpenClaim := { program := "ytkpckmdakiminaadoor", sum := "28eece1d54636b3c0674bbf9df0fee852720351ceacd2c3086e1863390a990a6", func := "tailrace/tailracelaw7.SplitPieces", spec := "splitPieces", named := ["tailrace/tailracelaw7.seps"], apart := false, laid := [("tailrace/tailracelaw7.seps", laid_tailrace_tailracelaw7_seps)] }
def SplitPiecesSaid : Prop := splitPiecesRow.holds Tryd.pinned (OpenSpec.ofChange splitPiecesSpec)

/-- ITS FALSE NEIGHBOUR: 'it returns false'. Refute it at one input. -/
def splitPiecesWrong : ChangeSpec := { name := "splitPieces", fn := fun _ => fun
  | [d1, d2, d3, d4, d5] => { results := [.lit (.bool false)], args := [d1, d2, d3, d4, d5] }
  | _ => none }
def SplitPiecesWrongFalsely : Prop := splitPiecesRow.holds Tryd.pinned (OpenSpec.ofChange splitPiecesWrong)

/-- 'tailracelaw7.SplitPlays': WHATEVER THE INPUT: true; the input reads as it did. -/
def splitPlaysSpec : ChangeSpec := { name := "splitPlays", fn := fun _ => fun
  | [d1, d2] => { results := [.lit (.bool true)], args := [d1, d2] }
  | _ => none }
def splitPlaysRow : OpenClaim := { program := "ytkpckmdakiminaadoor", sum := "28eece1d54636b3c0674bbf9df0fee852720351ceacd2c3086e1863390a990a6", func := "tailrace/tailracelaw7.SplitPlays", spec := "splitPlays", named := ["tailrace/tailracelaw7.seps"], apart := false, laid := [("tailrace/tailracelaw7.seps", laid_tailrace_tailracelaw7_seps)] }
def SplitPlaysSaid : Prop := splitPlaysRow.holds Tryd.pinned (OpenSpec.ofChange splitPlaysSpec)

/-- ITS FALSE NEIGHBOUR: 'it returns false'. Refute it at one input. -/
def splitPlaysWrong : ChangeSpec := { name := "splitPlays", fn := fun _ => fun
  | [d1, d2] => { results := [.lit (.bool false)], args := [d1, d2] }
  | _ => none }
def SplitPlaysWrongFalsely : Prop := splitPlaysRow.holds Tryd.pinned (OpenSpec.ofChange splitPlaysWrong)

/-- 'tailracelaw7.SplitLaid': WHATEVER THE INPUT: true; the input reads as it did. -/
def splitLaidSpec : ChangeSpec := { name := "splitLaid", fn := fun _ => fun
  | [d1, d2, d3, d4, d5, d6] => { results := [.lit (.bool true)], args := [d1, d2, d3, d4, d5, d6] }
  | _ => none }
def splitLaidRow : OpenClaim := { program := "ytkpckmdakiminaadoor", sum := "28eece1d54636b3c0674bbf9df0fee852720351ceacd2c3086e1863390a990a6", func := "tailrace/tailracelaw7.SplitLaid", spec := "splitLaid", named := ["tailrace/tailracelaw7.seps"], apart := false, laid := [("tailrace/tailracelaw7.seps", laid_tailrace_tailracelaw7_seps)] }
def SplitLaidSaid : Prop := splitLaidRow.holds Tryd.pinned (OpenSpec.ofChange splitLaidSpec)

/-- ITS FALSE NEIGHBOUR: 'it returns false'. Refute it at one input. -/
def splitLaidWrong : ChangeSpec := { name := "splitLaid", fn := fun _ => fun
  | [d1, d2, d3, d4, d5, d6] => { results := [.lit (.bool false)], args := [d1, d2, d3, d4, d5, d6] }
  | _ => none }
def SplitLaidWrongFalsely : Prop := splitLaidRow.holds Tryd.pinned (OpenSpec.ofChange splitLaidWrong)

/- THE SECOND FORM. 'bulk': how many values and letters a reading holds, each counted each time it is reached (what is shared counts as often as it is met; a slice's spare places count too). A statement '..UptoSaid' is the law's where the arguments, and the package variables that the reading takes, are together of bulk at most 1048576: NARROWER than '..Said'. Prove '..Said' where nothing that the law and all that it calls make is longer than what came in: it says more and counts as full. Else prove '..UptoSaid'. A law counts once. -/
mutual
def uptoBulk {H : Type} : DataW H → Nat
  | .lit (.string bytes) => bytes.length + 1
  | .lit _ => 1
  | .nil => 1
  | .ptr d => uptoBulk d + 1
  | .slice elems spare => uptoBulkAll elems + uptoBulkAll spare + 1
  | .agg parts => uptoBulkAll parts + 1
  | .iface _ d => uptoBulk d + 1
  | .map entries => uptoBulkEntries entries + 1
  | .held _ => 1
def uptoBulkAll {H : Type} : List (DataW H) → Nat
  | [] => 0
  | d :: r => uptoBulk d + uptoBulkAll r
def uptoBulkEntries {H : Type} : List (Lit × DataW H) → Nat
  | [] => 0
  | x :: r => uptoBulkEntry x + uptoBulkEntries r
def uptoBulkEntry {H : Type} : Lit × DataW H → Nat
  | (.string bytes, d) => bytes.length + uptoBulk d + 1
  | (_, d) => uptoBulk d + 1
 end
def uptoSmall : (H : Type) → List (DataW H) → Bool := fun _ ds => decide (uptoBulkAll ds ≤ 1048576)
def OpenSpec.upto (s : _root_.Go.ChangeSpec) : _root_.Go.OpenSpec := { _root_.Go.OpenSpec.ofChange s with cond := some uptoSmall }

/-- 'tailracelaw7.SplitPieces', WHERE WHAT IT READS IS OF BULK AT MOST 1048576: true; the input reads as it did. -/
def splitPiecesUptoRow : OpenClaim := { program := "ytkpckmdakiminaadoor", sum := "28eece1d54636b3c0674bbf9df0fee852720351ceacd2c3086e1863390a990a6", func := "tailrace/tailracelaw7.SplitPieces", spec := "splitPieces", named := ["tailrace/tailracelaw7.seps"], apart := false, laid := [("tailrace/tailracelaw7.seps", laid_tailrace_tailracelaw7_seps)], narrowed := true }
def SplitPiecesUptoSaid : Prop := splitPiecesUptoRow.holds Tryd.pinned (OpenSpec.upto splitPiecesSpec)

/-- 'tailracelaw7.SplitPlays', WHERE WHAT IT READS IS OF BULK AT MOST 1048576: true; the input reads as it did. -/
def splitPlaysUptoRow : OpenClaim := { program := "ytkpckmdakiminaadoor", sum := "28eece1d54636b3c0674bbf9df0fee852720351ceacd2c3086e1863390a990a6", func := "tailrace/tailracelaw7.SplitPlays", spec := "splitPlays", named := ["tailrace/tailracelaw7.seps"], apart := false, laid := [("tailrace/tailracelaw7.seps", laid_tailrace_tailracelaw7_seps)], narrowed := true }
def SplitPlaysUptoSaid : Prop := splitPlaysUptoRow.holds Tryd.pinned (OpenSpec.upto splitPlaysSpec)

/-- 'tailracelaw7.SplitLaid', WHERE WHAT IT READS IS OF BULK AT MOST 1048576: true; the input reads as it did. -/
def splitLaidUptoRow : OpenClaim := { program := "ytkpckmdakiminaadoor", sum := "28eece1d54636b3c0674bbf9df0fee852720351ceacd2c3086e1863390a990a6", func := "tailrace/tailracelaw7.SplitLaid", spec := "splitLaid", named := ["tailrace/tailracelaw7.seps"], apart := false, laid := [("tailrace/tailracelaw7.seps", laid_tailrace_tailracelaw7_seps)], narrowed := true }
def SplitLaidUptoSaid : Prop := splitLaidUptoRow.holds Tryd.pinned (OpenSpec.upto splitLaidSpec)

end Rows
end Go.Proofs.YtkpckmdakiminaaDoor
