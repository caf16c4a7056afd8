/-
  DERIVED. GIVEN WITH THE SEED: THE CARDS: each row of YthmjnelnnhidkaaDoorRows.lean that lists a variable, with what it lists TIED to the program's text (the seventh form; the later family's looks); each row that meets fmt, with fmt's text TOLD by the authors' own Lean function (tested against real Go, not proved from fmt's source: count such statements apart). THE CARD IS WHAT COUNTS. Prove the row's statement (the work); the ties are given (YthmjnelnnhidkaaDoorTie.lean); close each card by the builder's one call (the guide's Derived/Test/ToyasCard.lean, 'card_holds'). Laid BY PROGRAM, IN A SANDBOX (cutbox-door.mjs). By AI agents, Wed Nov 11 2026. No macro, syntax, notation, axiom, sorry.
-/
import Derived.Test.YthmjnelnnhidkaaDoorRows
import GoSem.ClaimSeven
namespace Go.Proofs.YthmjnelnnhidkaaDoor
namespace Rows

/-- THE TIED CARD OF 'tailracelaw8.ClassNamed'. -/
def classNamedCard : Claim7 := { stood := { row := classNamedRow, standIns := [], harness := (true, "c1bfd7fd448990b2bb0176c6ca126c1bb2f3339a5d077b3c43dc8bd842322176"), looks := false }, kinds := [], alts := [], laidByText := true, laidKinds := [.data], laidTests := true, laidLooks := .later }
def ClassNamedCardSaid : Prop := Claim7.holds Tryd.pinned (.plain (OpenSpec.ofChange classNamedSpec)) classNamedCard

/-- THE SECOND FORM's CARD OF 'tailracelaw8.ClassNamed'. -/
def classNamedUptoCard : Claim7 := { stood := { row := classNamedUptoRow, standIns := [], harness := (true, "c1bfd7fd448990b2bb0176c6ca126c1bb2f3339a5d077b3c43dc8bd842322176"), looks := false }, kinds := [], alts := [], laidByText := true, laidKinds := [.data], laidTests := true, laidLooks := .later }
def ClassNamedUptoCardSaid : Prop := Claim7.holds Tryd.pinned (.plain (OpenSpec.upto classNamedSpec)) classNamedUptoCard
end Rows
end Go.Proofs.YthmjnelnnhidkaaDoor
