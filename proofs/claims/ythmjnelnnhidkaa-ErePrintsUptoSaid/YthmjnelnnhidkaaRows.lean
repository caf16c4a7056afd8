/-
  NARROWER THAN 'FOR EVERY INPUT', by the rows' own cells (each row's printed sentence says how): EreRight: loops · ErePrints: loops.
  DERIVED. THE GIVEN ROWS OF THIS SEAT. 11 by the template 'for every input the law returns true; each argument reads behind the call as it read before'; 0 by the template 'total and deterministic' (their statements: YthmjnelnnhidkaaTotals.lean).
  GIVEN WITH THE SEED: the statements are not yours to turn. If you find one false, say at which input.
  Laid BY PROGRAM, IN A SANDBOX (cutbox-rows.mjs): the forced cells as the released guide's own fill.sh prints them over the translation 18ef05361632c715… (all of the seat's roots in one cut). By AI agents, Wed Nov 11 2026. No macro, syntax, notation, axiom, sorry.
-/
import Derived.Test.YthmjnelnnhidkaaChecked
import GoSem.Claim
import GoSem.ClaimJoined
import GoSem.ClaimMapViews
import Derived.JoinedTies
import Derived.KernelRfl
namespace Go.Proofs.Ythmjnelnnhidkaa
/- THE CELL 'sum', in the pinned program and in every row, IS THE sha256 OF THE DUMP (.gsa) THAT YthmjnelnnhidkaaProg.lean LOADS. Nothing in Lean hashes anything: it is a label: what it is worth is what the hold of that sum in a sandbox is worth. -/
noncomputable def Try.pinned : Pinned := { name := "ythmjnelnnhidkaa", sum := "18ef05361632c715ff2b9c9e3a8538e49ef19d35deb130652080fa826f605342", checked := Try.checked }
namespace Rows
def none {H : Type} : Left H := { results := [], args := [] }

/-- 'tailracelaw8.ClassKnown': WHATEVER THE INPUT: true; the input reads as it did. -/
def classKnownSpec : ChangeSpec := { name := "classKnown", fn := fun _ => fun
  | [] => { results := [.lit (.bool true)], args := [] }
  | _ => none }
def classKnownRow : OpenClaim := { program := "ythmjnelnnhidkaa", sum := "18ef05361632c715ff2b9c9e3a8538e49ef19d35deb130652080fa826f605342", func := "tailrace/tailracelaw8.ClassKnown", spec := "classKnown", apart := false }
def ClassKnownSaid : Prop := classKnownRow.holds Try.pinned (OpenSpec.ofChange classKnownSpec)

/-- ITS FALSE NEIGHBOUR: 'it returns false'. Refute it at one input. -/
def classKnownWrong : ChangeSpec := { name := "classKnown", fn := fun _ => fun
  | [] => { results := [.lit (.bool false)], args := [] }
  | _ => none }
def ClassKnownWrongFalsely : Prop := classKnownRow.holds Try.pinned (OpenSpec.ofChange classKnownWrong)

/-- 'tailracelaw8.ClassSets': WHATEVER THE INPUT: true; the input reads as it did. -/
def classSetsSpec : ChangeSpec := { name := "classSets", fn := fun _ => fun
  | [d1, d2, d3, d4, d5] => { results := [.lit (.bool true)], args := [d1, d2, d3, d4, d5] }
  | _ => none }
def classSetsRow : OpenClaim := { program := "ythmjnelnnhidkaa", sum := "18ef05361632c715ff2b9c9e3a8538e49ef19d35deb130652080fa826f605342", func := "tailrace/tailracelaw8.ClassSets", spec := "classSets", apart := false }
def ClassSetsSaid : Prop := classSetsRow.holds Try.pinned (OpenSpec.ofChange classSetsSpec)

/-- ITS FALSE NEIGHBOUR: 'it returns false'. Refute it at one input. -/
def classSetsWrong : ChangeSpec := { name := "classSets", fn := fun _ => fun
  | [d1, d2, d3, d4, d5] => { results := [.lit (.bool false)], args := [d1, d2, d3, d4, d5] }
  | _ => none }
def ClassSetsWrongFalsely : Prop := classSetsRow.holds Try.pinned (OpenSpec.ofChange classSetsWrong)

/-- 'tailracelaw8.ClassRules': WHATEVER THE INPUT: true; the input reads as it did. -/
def classRulesSpec : ChangeSpec := { name := "classRules", fn := fun _ => fun
  | [d1, d2, d3] => { results := [.lit (.bool true)], args := [d1, d2, d3] }
  | _ => none }
def classRulesRow : OpenClaim := { program := "ythmjnelnnhidkaa", sum := "18ef05361632c715ff2b9c9e3a8538e49ef19d35deb130652080fa826f605342", func := "tailrace/tailracelaw8.ClassRules", spec := "classRules", apart := false }
def ClassRulesSaid : Prop := classRulesRow.holds Try.pinned (OpenSpec.ofChange classRulesSpec)

/-- ITS FALSE NEIGHBOUR: 'it returns false'. Refute it at one input. -/
def classRulesWrong : ChangeSpec := { name := "classRules", fn := fun _ => fun
  | [d1, d2, d3] => { results := [.lit (.bool false)], args := [d1, d2, d3] }
  | _ => none }
def ClassRulesWrongFalsely : Prop := classRulesRow.holds Try.pinned (OpenSpec.ofChange classRulesWrong)

/-- 'tailracelaw8.ClassSpans': WHATEVER THE INPUT: true; the input reads as it did. -/
def classSpansSpec : ChangeSpec := { name := "classSpans", fn := fun _ => fun
  | [d1, d2, d3] => { results := [.lit (.bool true)], args := [d1, d2, d3] }
  | _ => none }
def classSpansRow : OpenClaim := { program := "ythmjnelnnhidkaa", sum := "18ef05361632c715ff2b9c9e3a8538e49ef19d35deb130652080fa826f605342", func := "tailrace/tailracelaw8.ClassSpans", spec := "classSpans", apart := false }
def ClassSpansSaid : Prop := classSpansRow.holds Try.pinned (OpenSpec.ofChange classSpansSpec)

/-- ITS FALSE NEIGHBOUR: 'it returns false'. Refute it at one input. -/
def classSpansWrong : ChangeSpec := { name := "classSpans", fn := fun _ => fun
  | [d1, d2, d3] => { results := [.lit (.bool false)], args := [d1, d2, d3] }
  | _ => none }
def ClassSpansWrongFalsely : Prop := classSpansRow.holds Try.pinned (OpenSpec.ofChange classSpansWrong)

/-- 'tailracelaw9.EreTimes': WHATEVER THE INPUT: true; the input reads as it did. -/
def ereTimesSpec : ChangeSpec := { name := "ereTimes", fn := fun _ => fun
  | [d1, d2, d3, d4, d5] => { results := [.lit (.bool true)], args := [d1, d2, d3, d4, d5] }
  | _ => none }
def ereTimesRow : OpenClaim := { program := "ythmjnelnnhidkaa", sum := "18ef05361632c715ff2b9c9e3a8538e49ef19d35deb130652080fa826f605342", func := "tailrace/tailracelaw9.EreTimes", spec := "ereTimes", unfollowed := true, recurses := true, apart := false }
def EreTimesSaid : Prop := ereTimesRow.holds Try.pinned (OpenSpec.ofChange ereTimesSpec)

/-- ITS FALSE NEIGHBOUR: 'it returns false'. Refute it at one input. -/
def ereTimesWrong : ChangeSpec := { name := "ereTimes", fn := fun _ => fun
  | [d1, d2, d3, d4, d5] => { results := [.lit (.bool false)], args := [d1, d2, d3, d4, d5] }
  | _ => none }
def EreTimesWrongFalsely : Prop := ereTimesRow.holds Try.pinned (OpenSpec.ofChange ereTimesWrong)

/-- 'tailracelaw9.EreDeep': WHATEVER THE INPUT: true; the input reads as it did. -/
def ereDeepSpec : ChangeSpec := { name := "ereDeep", fn := fun _ => fun
  | [d1, d2, d3] => { results := [.lit (.bool true)], args := [d1, d2, d3] }
  | _ => none }
def ereDeepRow : OpenClaim := { program := "ythmjnelnnhidkaa", sum := "18ef05361632c715ff2b9c9e3a8538e49ef19d35deb130652080fa826f605342", func := "tailrace/tailracelaw9.EreDeep", spec := "ereDeep", recurses := true, apart := false }
def EreDeepSaid : Prop := ereDeepRow.holds Try.pinned (OpenSpec.ofChange ereDeepSpec)

/-- ITS FALSE NEIGHBOUR: 'it returns false'. Refute it at one input. -/
def ereDeepWrong : ChangeSpec := { name := "ereDeep", fn := fun _ => fun
  | [d1, d2, d3] => { results := [.lit (.bool false)], args := [d1, d2, d3] }
  | _ => none }
def EreDeepWrongFalsely : Prop := ereDeepRow.holds Try.pinned (OpenSpec.ofChange ereDeepWrong)

/-- 'tailracelaw9.EreRight': WHATEVER THE INPUT: true; the input reads as it did. -/
def ereRightSpec : ChangeSpec := { name := "ereRight", fn := fun _ => fun
  | [d1, d2] => { results := [.lit (.bool true)], args := [d1, d2] }
  | _ => none }
def ereRightRow : OpenClaim := { program := "ythmjnelnnhidkaa", sum := "18ef05361632c715ff2b9c9e3a8538e49ef19d35deb130652080fa826f605342", func := "tailrace/tailracelaw9.EreRight", spec := "ereRight", unfollowed := true, recurses := true, loops := true, apart := false }
def EreRightSaid : Prop := ereRightRow.holds Try.pinned (OpenSpec.ofChange ereRightSpec)

/-- ITS FALSE NEIGHBOUR: 'it returns false'. Refute it at one input. -/
def ereRightWrong : ChangeSpec := { name := "ereRight", fn := fun _ => fun
  | [d1, d2] => { results := [.lit (.bool false)], args := [d1, d2] }
  | _ => none }
def EreRightWrongFalsely : Prop := ereRightRow.holds Try.pinned (OpenSpec.ofChange ereRightWrong)

/-- 'tailracelaw9.EreChains': WHATEVER THE INPUT: true; the input reads as it did. -/
def ereChainsSpec : ChangeSpec := { name := "ereChains", fn := fun _ => fun
  | [d1, d2, d3] => { results := [.lit (.bool true)], args := [d1, d2, d3] }
  | _ => none }
def ereChainsRow : OpenClaim := { program := "ythmjnelnnhidkaa", sum := "18ef05361632c715ff2b9c9e3a8538e49ef19d35deb130652080fa826f605342", func := "tailrace/tailracelaw9.EreChains", spec := "ereChains", recurses := true, apart := false }
def EreChainsSaid : Prop := ereChainsRow.holds Try.pinned (OpenSpec.ofChange ereChainsSpec)

/-- ITS FALSE NEIGHBOUR: 'it returns false'. Refute it at one input. -/
def ereChainsWrong : ChangeSpec := { name := "ereChains", fn := fun _ => fun
  | [d1, d2, d3] => { results := [.lit (.bool false)], args := [d1, d2, d3] }
  | _ => none }
def EreChainsWrongFalsely : Prop := ereChainsRow.holds Try.pinned (OpenSpec.ofChange ereChainsWrong)

/-- 'tailracelaw9.EreQuotes': WHATEVER THE INPUT: true; the input reads as it did. -/
def ereQuotesSpec : ChangeSpec := { name := "ereQuotes", fn := fun _ => fun
  | [d] => { results := [.lit (.bool true)], args := [d] }
  | _ => none }
def ereQuotesRow : OpenClaim := { program := "ythmjnelnnhidkaa", sum := "18ef05361632c715ff2b9c9e3a8538e49ef19d35deb130652080fa826f605342", func := "tailrace/tailracelaw9.EreQuotes", spec := "ereQuotes", recurses := true, apart := false }
def EreQuotesSaid : Prop := ereQuotesRow.holds Try.pinned (OpenSpec.ofChange ereQuotesSpec)

/-- ITS FALSE NEIGHBOUR: 'it returns false'. Refute it at one input. -/
def ereQuotesWrong : ChangeSpec := { name := "ereQuotes", fn := fun _ => fun
  | [d] => { results := [.lit (.bool false)], args := [d] }
  | _ => none }
def EreQuotesWrongFalsely : Prop := ereQuotesRow.holds Try.pinned (OpenSpec.ofChange ereQuotesWrong)

/-- 'tailracelaw9.ErePrints': WHATEVER THE INPUT: true; the input reads as it did. -/
def erePrintsSpec : ChangeSpec := { name := "erePrints", fn := fun _ => fun
  | [d1, d2, d3] => { results := [.lit (.bool true)], args := [d1, d2, d3] }
  | _ => none }
def erePrintsRow : OpenClaim := { program := "ythmjnelnnhidkaa", sum := "18ef05361632c715ff2b9c9e3a8538e49ef19d35deb130652080fa826f605342", func := "tailrace/tailracelaw9.ErePrints", spec := "erePrints", unfollowed := true, recurses := true, loops := true, apart := false }
def ErePrintsSaid : Prop := erePrintsRow.holds Try.pinned (OpenSpec.ofChange erePrintsSpec)

/-- ITS FALSE NEIGHBOUR: 'it returns false'. Refute it at one input. -/
def erePrintsWrong : ChangeSpec := { name := "erePrints", fn := fun _ => fun
  | [d1, d2, d3] => { results := [.lit (.bool false)], args := [d1, d2, d3] }
  | _ => none }
def ErePrintsWrongFalsely : Prop := erePrintsRow.holds Try.pinned (OpenSpec.ofChange erePrintsWrong)

/-- 'tailracelaw9.EreKnown': WHATEVER THE INPUT: true; the input reads as it did. -/
def ereKnownSpec : ChangeSpec := { name := "ereKnown", fn := fun _ => fun
  | [] => { results := [.lit (.bool true)], args := [] }
  | _ => none }
def ereKnownRow : OpenClaim := { program := "ythmjnelnnhidkaa", sum := "18ef05361632c715ff2b9c9e3a8538e49ef19d35deb130652080fa826f605342", func := "tailrace/tailracelaw9.EreKnown", spec := "ereKnown", recurses := true, apart := false }
def EreKnownSaid : Prop := ereKnownRow.holds Try.pinned (OpenSpec.ofChange ereKnownSpec)

/-- ITS FALSE NEIGHBOUR: 'it returns false'. Refute it at one input. -/
def ereKnownWrong : ChangeSpec := { name := "ereKnown", fn := fun _ => fun
  | [] => { results := [.lit (.bool false)], args := [] }
  | _ => none }
def EreKnownWrongFalsely : Prop := ereKnownRow.holds Try.pinned (OpenSpec.ofChange ereKnownWrong)

/- THE SECOND FORM. 'bulk': how many values and letters a reading holds, each counted each time it is reached (what is shared counts as often as it is met; a slice's spare places count too). A statement '..UptoSaid' is the law's where the arguments, and the package variables that the reading takes, are together of bulk at most 1048576: NARROWER than '..Said'. Prove '..Said' where nothing that the law and all that it calls make is longer than what came in: it says more and counts as full. Else prove '..UptoSaid'. A law counts once. -/
mutual
def uptoBulk {H : Type} : DataW H → Nat
  | .lit (.string bytes) => bytes.length + 1
  | .lit _ => 1
  | .nil => 1
  | .ptr d => uptoBulk d + 1
  | .slice elems spare => uptoBulkAll elems + uptoBulkAll spare + 1
  | .agg parts => uptoBulkAll parts + 1
  | .iface _ d => uptoBulk d + 1
  | .map entries => uptoBulkEntries entries + 1
  | .held _ => 1
def uptoBulkAll {H : Type} : List (DataW H) → Nat
  | [] => 0
  | d :: r => uptoBulk d + uptoBulkAll r
def uptoBulkEntries {H : Type} : List (Lit × DataW H) → Nat
  | [] => 0
  | x :: r => uptoBulkEntry x + uptoBulkEntries r
def uptoBulkEntry {H : Type} : Lit × DataW H → Nat
  | (.string bytes, d) => bytes.length + uptoBulk d + 1
  | (_, d) => uptoBulk d + 1
 end
def uptoSmall : (H : Type) → List (DataW H) → Bool := fun _ ds => decide (uptoBulkAll ds ≤ 1048576)
def OpenSpec.upto (s : _root_.Go.ChangeSpec) : _root_.Go.OpenSpec := { _root_.Go.OpenSpec.ofChange s with cond := some uptoSmall }

/-- 'tailracelaw8.ClassKnown', WHERE WHAT IT READS IS OF BULK AT MOST 1048576: true; the input reads as it did. -/
def classKnownUptoRow : OpenClaim := { program := "ythmjnelnnhidkaa", sum := "18ef05361632c715ff2b9c9e3a8538e49ef19d35deb130652080fa826f605342", func := "tailrace/tailracelaw8.ClassKnown", spec := "classKnown", apart := false, narrowed := true }
def ClassKnownUptoSaid : Prop := classKnownUptoRow.holds Try.pinned (OpenSpec.upto classKnownSpec)

/-- 'tailracelaw8.ClassSets', WHERE WHAT IT READS IS OF BULK AT MOST 1048576: true; the input reads as it did. -/
def classSetsUptoRow : OpenClaim := { program := "ythmjnelnnhidkaa", sum := "18ef05361632c715ff2b9c9e3a8538e49ef19d35deb130652080fa826f605342", func := "tailrace/tailracelaw8.ClassSets", spec := "classSets", apart := false, narrowed := true }
def ClassSetsUptoSaid : Prop := classSetsUptoRow.holds Try.pinned (OpenSpec.upto classSetsSpec)

/-- 'tailracelaw8.ClassRules', WHERE WHAT IT READS IS OF BULK AT MOST 1048576: true; the input reads as it did. -/
def classRulesUptoRow : OpenClaim := { program := "ythmjnelnnhidkaa", sum := "18ef05361632c715ff2b9c9e3a8538e49ef19d35deb130652080fa826f605342", func := "tailrace/tailracelaw8.ClassRules", spec := "classRules", apart := false, narrowed := true }
def ClassRulesUptoSaid : Prop := classRulesUptoRow.holds Try.pinned (OpenSpec.upto classRulesSpec)

/-- 'tailracelaw8.ClassSpans', WHERE WHAT IT READS IS OF BULK AT MOST 1048576: true; the input reads as it did. -/
def classSpansUptoRow : OpenClaim := { program := "ythmjnelnnhidkaa", sum := "18ef05361632c715ff2b9c9e3a8538e49ef19d35deb130652080fa826f605342", func := "tailrace/tailracelaw8.ClassSpans", spec := "classSpans", apart := false, narrowed := true }
def ClassSpansUptoSaid : Prop := classSpansUptoRow.holds Try.pinned (OpenSpec.upto classSpansSpec)

/-- 'tailracelaw9.EreTimes', WHERE WHAT IT READS IS OF BULK AT MOST 1048576: true; the input reads as it did. -/
def ereTimesUptoRow : OpenClaim := { program := "ythmjnelnnhidkaa", sum := "18ef05361632c715ff2b9c9e3a8538e49ef19d35deb130652080fa826f605342", func := "tailrace/tailracelaw9.EreTimes", spec := "ereTimes", unfollowed := true, recurses := true, apart := false, narrowed := true }
def EreTimesUptoSaid : Prop := ereTimesUptoRow.holds Try.pinned (OpenSpec.upto ereTimesSpec)

/-- 'tailracelaw9.EreDeep', WHERE WHAT IT READS IS OF BULK AT MOST 1048576: true; the input reads as it did. -/
def ereDeepUptoRow : OpenClaim := { program := "ythmjnelnnhidkaa", sum := "18ef05361632c715ff2b9c9e3a8538e49ef19d35deb130652080fa826f605342", func := "tailrace/tailracelaw9.EreDeep", spec := "ereDeep", recurses := true, apart := false, narrowed := true }
def EreDeepUptoSaid : Prop := ereDeepUptoRow.holds Try.pinned (OpenSpec.upto ereDeepSpec)

/-- 'tailracelaw9.EreRight', WHERE WHAT IT READS IS OF BULK AT MOST 1048576: true; the input reads as it did. -/
def ereRightUptoRow : OpenClaim := { program := "ythmjnelnnhidkaa", sum := "18ef05361632c715ff2b9c9e3a8538e49ef19d35deb130652080fa826f605342", func := "tailrace/tailracelaw9.EreRight", spec := "ereRight", unfollowed := true, recurses := true, loops := true, apart := false, narrowed := true }
def EreRightUptoSaid : Prop := ereRightUptoRow.holds Try.pinned (OpenSpec.upto ereRightSpec)

/-- 'tailracelaw9.EreChains', WHERE WHAT IT READS IS OF BULK AT MOST 1048576: true; the input reads as it did. -/
def ereChainsUptoRow : OpenClaim := { program := "ythmjnelnnhidkaa", sum := "18ef05361632c715ff2b9c9e3a8538e49ef19d35deb130652080fa826f605342", func := "tailrace/tailracelaw9.EreChains", spec := "ereChains", recurses := true, apart := false, narrowed := true }
def EreChainsUptoSaid : Prop := ereChainsUptoRow.holds Try.pinned (OpenSpec.upto ereChainsSpec)

/-- 'tailracelaw9.EreQuotes', WHERE WHAT IT READS IS OF BULK AT MOST 1048576: true; the input reads as it did. -/
def ereQuotesUptoRow : OpenClaim := { program := "ythmjnelnnhidkaa", sum := "18ef05361632c715ff2b9c9e3a8538e49ef19d35deb130652080fa826f605342", func := "tailrace/tailracelaw9.EreQuotes", spec := "ereQuotes", recurses := true, apart := false, narrowed := true }
def EreQuotesUptoSaid : Prop := ereQuotesUptoRow.holds Try.pinned (OpenSpec.upto ereQuotesSpec)

/-- 'tailracelaw9.ErePrints', WHERE WHAT IT READS IS OF BULK AT MOST 1048576: true; the input reads as it did. -/
def erePrintsUptoRow : OpenClaim := { program := "ythmjnelnnhidkaa", sum := "18ef05361632c715ff2b9c9e3a8538e49ef19d35deb130652080fa826f605342", func := "tailrace/tailracelaw9.ErePrints", spec := "erePrints", unfollowed := true, recurses := true, loops := true, apart := false, narrowed := true }
def ErePrintsUptoSaid : Prop := erePrintsUptoRow.holds Try.pinned (OpenSpec.upto erePrintsSpec)

/-- 'tailracelaw9.EreKnown', WHERE WHAT IT READS IS OF BULK AT MOST 1048576: true; the input reads as it did. -/
def ereKnownUptoRow : OpenClaim := { program := "ythmjnelnnhidkaa", sum := "18ef05361632c715ff2b9c9e3a8538e49ef19d35deb130652080fa826f605342", func := "tailrace/tailracelaw9.EreKnown", spec := "ereKnown", recurses := true, apart := false, narrowed := true }
def EreKnownUptoSaid : Prop := ereKnownUptoRow.holds Try.pinned (OpenSpec.upto ereKnownSpec)

end Rows
end Go.Proofs.Ythmjnelnnhidkaa
