/-
  DERIVED. GIVEN WITH THE SEED: THE CARDS: each row of YtkpckmdakiminaaDoorRows.lean that lists a variable, with what it lists TIED to the program's text (the seventh form; the later family's looks); each row that meets fmt, with fmt's text TOLD by the authors' own Lean function (tested against real Go, not proved from fmt's source: count such statements apart). THE CARD IS WHAT COUNTS. Prove the row's statement (the work); the ties are given (YtkpckmdakiminaaDoorTie.lean); close each card by the builder's one call (the guide's Derived/Test/ToyasCard.lean, 'card_holds'). Laid BY PROGRAM, IN A SANDBOX (cutbox-door.mjs). By AI agents, Wed Nov 11 2026. No macro, syntax, notation, axiom, sorry.
-/
import Derived.Test.YtkpckmdakiminaaDoorRows
import GoSem.ClaimSeven
namespace Go.Proofs.YtkpckmdakiminaaDoor
namespace Rows

/-- THE TIED CARD OF 'tailracelaw7.SplitPieces'. -/
def splitPiecesCard : Claim7 := { stood := { row := splitPiecesRow, standIns := [], harness := (true, "0e433ccb7a53af293168e1b0e27fe31be0360124d8a0925edb266d55536d5ae3"), looks := false }, kinds := [], alts := [], laidByText := true, laidKinds := [.data], laidTests := true, laidLooks := .later }
def SplitPiecesCardSaid : Prop := Claim7.holds Tryd.pinned (.plain (OpenSpec.ofChange splitPiecesSpec)) splitPiecesCard

/-- THE TIED CARD OF 'tailracelaw7.SplitPlays'. -/
def splitPlaysCard : Claim7 := { stood := { row := splitPlaysRow, standIns := [], harness := (true, "0e433ccb7a53af293168e1b0e27fe31be0360124d8a0925edb266d55536d5ae3"), looks := false }, kinds := [], alts := [], laidByText := true, laidKinds := [.data], laidTests := true, laidLooks := .later }
def SplitPlaysCardSaid : Prop := Claim7.holds Tryd.pinned (.plain (OpenSpec.ofChange splitPlaysSpec)) splitPlaysCard

/-- THE TIED CARD OF 'tailracelaw7.SplitLaid'. -/
def splitLaidCard : Claim7 := { stood := { row := splitLaidRow, standIns := [], harness := (true, "0e433ccb7a53af293168e1b0e27fe31be0360124d8a0925edb266d55536d5ae3"), looks := false }, kinds := [], alts := [], laidByText := true, laidKinds := [.data], laidTests := true, laidLooks := .later }
def SplitLaidCardSaid : Prop := Claim7.holds Tryd.pinned (.plain (OpenSpec.ofChange splitLaidSpec)) splitLaidCard

/-- THE SECOND FORM's CARD OF 'tailracelaw7.SplitPieces'. -/
def splitPiecesUptoCard : Claim7 := { stood := { row := splitPiecesUptoRow, standIns := [], harness := (true, "0e433ccb7a53af293168e1b0e27fe31be0360124d8a0925edb266d55536d5ae3"), looks := false }, kinds := [], alts := [], laidByText := true, laidKinds := [.data], laidTests := true, laidLooks := .later }
def SplitPiecesUptoCardSaid : Prop := Claim7.holds Tryd.pinned (.plain (OpenSpec.upto splitPiecesSpec)) splitPiecesUptoCard

/-- THE SECOND FORM's CARD OF 'tailracelaw7.SplitPlays'. -/
def splitPlaysUptoCard : Claim7 := { stood := { row := splitPlaysUptoRow, standIns := [], harness := (true, "0e433ccb7a53af293168e1b0e27fe31be0360124d8a0925edb266d55536d5ae3"), looks := false }, kinds := [], alts := [], laidByText := true, laidKinds := [.data], laidTests := true, laidLooks := .later }
def SplitPlaysUptoCardSaid : Prop := Claim7.holds Tryd.pinned (.plain (OpenSpec.upto splitPlaysSpec)) splitPlaysUptoCard

/-- THE SECOND FORM's CARD OF 'tailracelaw7.SplitLaid'. -/
def splitLaidUptoCard : Claim7 := { stood := { row := splitLaidUptoRow, standIns := [], harness := (true, "0e433ccb7a53af293168e1b0e27fe31be0360124d8a0925edb266d55536d5ae3"), looks := false }, kinds := [], alts := [], laidByText := true, laidKinds := [.data], laidTests := true, laidLooks := .later }
def SplitLaidUptoCardSaid : Prop := Claim7.holds Tryd.pinned (.plain (OpenSpec.upto splitLaidSpec)) splitLaidUptoCard
end Rows
end Go.Proofs.YtkpckmdakiminaaDoor
