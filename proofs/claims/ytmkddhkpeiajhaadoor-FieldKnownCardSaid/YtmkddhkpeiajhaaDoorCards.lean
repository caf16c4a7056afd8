/-
  DERIVED. GIVEN WITH THE SEED: THE CARDS: each row of YtmkddhkpeiajhaaDoorRows.lean that lists a variable, with what it lists TIED to the program's text (the seventh form; the later family's looks); each row that meets fmt, with fmt's text TOLD by the authors' own Lean function (tested against real Go, not proved from fmt's source: count such statements apart). THE CARD IS WHAT COUNTS. Prove the row's statement (the work); the ties are given (YtmkddhkpeiajhaaDoorTie.lean); close each card by the builder's one call (the guide's Derived/Test/ToyasCard.lean, 'card_holds'). Laid BY PROGRAM, IN A SANDBOX (cutbox-door.mjs). By AI agents, Wed Nov 11 2026. No macro, syntax, notation, axiom, sorry.
-/
import Derived.Test.YtmkddhkpeiajhaaDoorRows
import GoSem.ClaimSeven
namespace Go.Proofs.YtmkddhkpeiajhaaDoor
namespace Rows

/-- THE TIED CARD OF 'tailracelaw21.FieldJoins'. -/
def fieldJoinsCard : Claim7 := { stood := { row := fieldJoinsRow, standIns := [], harness := (true, "3ab7d614fdb272007069140262af5a8d22864285d78af3a0854783db631af188"), looks := false }, kinds := [], alts := [], laidByText := true, laidKinds := [.data, .pinned], laidTests := true, laidLooks := .later }
def FieldJoinsCardSaid : Prop := Claim7.holds Tryd.pinned (.plain (OpenSpec.ofChange fieldJoinsSpec)) fieldJoinsCard

/-- THE TIED CARD OF 'tailracelaw21.FieldPuts'. -/
def fieldPutsCard : Claim7 := { stood := { row := fieldPutsRow, standIns := [], harness := (true, "3ab7d614fdb272007069140262af5a8d22864285d78af3a0854783db631af188"), looks := false }, kinds := [], alts := [], laidByText := true, laidKinds := [.data, .pinned], laidTests := true, laidLooks := .later }
def FieldPutsCardSaid : Prop := Claim7.holds Tryd.pinned (.plain (OpenSpec.ofChange fieldPutsSpec)) fieldPutsCard

/-- THE TIED CARD OF 'tailracelaw21.FieldKnown'. -/
def fieldKnownCard : Claim7 := { stood := { row := fieldKnownRow, standIns := [], harness := (true, "3ab7d614fdb272007069140262af5a8d22864285d78af3a0854783db631af188"), looks := false }, kinds := [], alts := [], laidByText := true, laidKinds := [.data, .pinned], laidTests := true, laidLooks := .later }
def FieldKnownCardSaid : Prop := Claim7.holds Tryd.pinned (.plain (OpenSpec.ofChange fieldKnownSpec)) fieldKnownCard

/-- THE SECOND FORM's CARD OF 'tailracelaw21.FieldJoins'. -/
def fieldJoinsUptoCard : Claim7 := { stood := { row := fieldJoinsUptoRow, standIns := [], harness := (true, "3ab7d614fdb272007069140262af5a8d22864285d78af3a0854783db631af188"), looks := false }, kinds := [], alts := [], laidByText := true, laidKinds := [.data, .pinned], laidTests := true, laidLooks := .later }
def FieldJoinsUptoCardSaid : Prop := Claim7.holds Tryd.pinned (.plain (OpenSpec.upto fieldJoinsSpec)) fieldJoinsUptoCard

/-- THE SECOND FORM's CARD OF 'tailracelaw21.FieldPuts'. -/
def fieldPutsUptoCard : Claim7 := { stood := { row := fieldPutsUptoRow, standIns := [], harness := (true, "3ab7d614fdb272007069140262af5a8d22864285d78af3a0854783db631af188"), looks := false }, kinds := [], alts := [], laidByText := true, laidKinds := [.data, .pinned], laidTests := true, laidLooks := .later }
def FieldPutsUptoCardSaid : Prop := Claim7.holds Tryd.pinned (.plain (OpenSpec.upto fieldPutsSpec)) fieldPutsUptoCard

/-- THE SECOND FORM's CARD OF 'tailracelaw21.FieldKnown'. -/
def fieldKnownUptoCard : Claim7 := { stood := { row := fieldKnownUptoRow, standIns := [], harness := (true, "3ab7d614fdb272007069140262af5a8d22864285d78af3a0854783db631af188"), looks := false }, kinds := [], alts := [], laidByText := true, laidKinds := [.data, .pinned], laidTests := true, laidLooks := .later }
def FieldKnownUptoCardSaid : Prop := Claim7.holds Tryd.pinned (.plain (OpenSpec.upto fieldKnownSpec)) fieldKnownUptoCard
end Rows
end Go.Proofs.YtmkddhkpeiajhaaDoor
