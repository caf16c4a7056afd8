/-
  DERIVED. GIVEN WITH THE SEED: THE CARDS: each row of YtmkddhkpeiajhaaGreatDoorRows.lean that lists a variable, with what it lists TIED to the program's text (the seventh form; the later family's looks); each row that meets fmt, with fmt's text TOLD by the authors' own Lean function (tested against real Go, not proved from fmt's source: count such statements apart). THE CARD IS WHAT COUNTS. Prove the row's statement (the work); the ties are given (YtmkddhkpeiajhaaGreatDoorTie.lean); close each card by the builder's one call (the guide's Derived/Test/ToyasCard.lean, 'card_holds'). Laid BY PROGRAM, IN A SANDBOX (cutbox-door.mjs). By AI agents, Wed Nov 11 2026. No macro, syntax, notation, axiom, sorry.
-/
import Derived.Test.YtmkddhkpeiajhaaGreatDoorRows
import GoSem.ClaimSeven
namespace Go.Proofs.YtmkddhkpeiajhaaGreatDoor
namespace Rows

/-- THE TIED CARD OF 'tailracelaw21.FieldPlays'. -/
def fieldPlaysCard : Claim7 := { stood := { row := fieldPlaysRow, standIns := [], harness := (true, "81189e80680cd9111475e9da3228748ad52410c764d92ee71b4406346b4f225f"), looks := false }, kinds := [], alts := [], laidByText := true, laidKinds := [.data, .data, .pinned], laidTests := true, laidLooks := .later }
def FieldPlaysCardSaid : Prop := Claim7.holds Tryz.pinned (.plain (OpenSpec.ofChange fieldPlaysSpec)) fieldPlaysCard

/-- THE TIED CARD OF 'tailracelaw21.FieldBytes'. -/
def fieldBytesCard : Claim7 := { stood := { row := fieldBytesRow, standIns := [], harness := (true, "81189e80680cd9111475e9da3228748ad52410c764d92ee71b4406346b4f225f"), looks := false }, kinds := [], alts := [], laidByText := true, laidKinds := [.data, .data, .pinned], laidTests := true, laidLooks := .later }
def FieldBytesCardSaid : Prop := Claim7.holds Tryz.pinned (.plain (OpenSpec.ofChange fieldBytesSpec)) fieldBytesCard

/-- THE SECOND FORM's CARD OF 'tailracelaw21.FieldPlays'. -/
def fieldPlaysUptoCard : Claim7 := { stood := { row := fieldPlaysUptoRow, standIns := [], harness := (true, "81189e80680cd9111475e9da3228748ad52410c764d92ee71b4406346b4f225f"), looks := false }, kinds := [], alts := [], laidByText := true, laidKinds := [.data, .data, .pinned], laidTests := true, laidLooks := .later }
def FieldPlaysUptoCardSaid : Prop := Claim7.holds Tryz.pinned (.plain (OpenSpec.upto fieldPlaysSpec)) fieldPlaysUptoCard

/-- THE SECOND FORM's CARD OF 'tailracelaw21.FieldBytes'. -/
def fieldBytesUptoCard : Claim7 := { stood := { row := fieldBytesUptoRow, standIns := [], harness := (true, "81189e80680cd9111475e9da3228748ad52410c764d92ee71b4406346b4f225f"), looks := false }, kinds := [], alts := [], laidByText := true, laidKinds := [.data, .data, .pinned], laidTests := true, laidLooks := .later }
def FieldBytesUptoCardSaid : Prop := Claim7.holds Tryz.pinned (.plain (OpenSpec.upto fieldBytesSpec)) fieldBytesUptoCard
end Rows
end Go.Proofs.YtmkddhkpeiajhaaGreatDoor
