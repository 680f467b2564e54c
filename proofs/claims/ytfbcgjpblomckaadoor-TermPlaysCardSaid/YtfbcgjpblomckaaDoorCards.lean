/-
  DERIVED. GIVEN WITH THE SEED: THE CARDS: each row of YtfbcgjpblomckaaDoorRows.lean that lists a variable, with what it lists TIED to the program's text (the seventh form; the later family's looks); each row that meets fmt, with fmt's text TOLD by the authors' own Lean function (tested against real Go, not proved from fmt's source: count such statements apart). THE CARD IS WHAT COUNTS. Prove the row's statement (the work); the ties are given (YtfbcgjpblomckaaDoorTie.lean); close each card by the builder's one call (the guide's Derived/Test/ToyasCard.lean, 'card_holds'). Laid BY PROGRAM, IN A SANDBOX (cutbox-door.mjs). By AI agents, Wed Nov 11 2026. No macro, syntax, notation, axiom, sorry.
-/
import Derived.Test.YtfbcgjpblomckaaDoorRows
import GoSem.ClaimSeven
namespace Go.Proofs.YtfbcgjpblomckaaDoor
namespace Rows

/-- THE TIED CARD OF 'jalousielaw27.TermKnown'. -/
def termKnownCard : Claim7 := { stood := { row := termKnownRow, standIns := [], harness := (true, "8c63478ceadc2a49fbd03c1a7d0895c4b83e0916450d50beacb00eb1a9b3b000"), looks := false }, kinds := [], alts := [], laidByText := true, laidKinds := [.data, .data], laidTests := true, laidLooks := .later }
def TermKnownCardSaid : Prop := Claim7.holds Tryd.pinned (.plain (OpenSpec.ofChange termKnownSpec)) termKnownCard

/-- THE TIED CARD OF 'jalousielaw27.TermPlays'. -/
def termPlaysCard : Claim7 := { stood := { row := termPlaysRow, standIns := [], harness := (true, "8c63478ceadc2a49fbd03c1a7d0895c4b83e0916450d50beacb00eb1a9b3b000"), looks := false }, kinds := [], alts := [], laidByText := true, laidKinds := [.data, .data], laidTests := true, laidLooks := .later }
def TermPlaysCardSaid : Prop := Claim7.holds Tryd.pinned (.plain (OpenSpec.ofChange termPlaysSpec)) termPlaysCard

/-- THE TIED CARD OF 'jalousielaw27.TermClears'. -/
def termClearsCard : Claim7 := { stood := { row := termClearsRow, standIns := [], harness := (true, "8c63478ceadc2a49fbd03c1a7d0895c4b83e0916450d50beacb00eb1a9b3b000"), looks := false }, kinds := [], alts := [], laidByText := true, laidKinds := [.data, .data], laidTests := true, laidLooks := .later }
def TermClearsCardSaid : Prop := Claim7.holds Tryd.pinned (.plain (OpenSpec.ofChange termClearsSpec)) termClearsCard

/-- THE TIED CARD OF 'jalousielaw27.TermPieces'. -/
def termPiecesCard : Claim7 := { stood := { row := termPiecesRow, standIns := [], harness := (true, "8c63478ceadc2a49fbd03c1a7d0895c4b83e0916450d50beacb00eb1a9b3b000"), looks := false }, kinds := [], alts := [], laidByText := true, laidKinds := [.data, .data], laidTests := true, laidLooks := .later }
def TermPiecesCardSaid : Prop := Claim7.holds Tryd.pinned (.plain (OpenSpec.ofChange termPiecesSpec)) termPiecesCard

/-- THE SECOND FORM's CARD OF 'jalousielaw27.TermKnown'. -/
def termKnownUptoCard : Claim7 := { stood := { row := termKnownUptoRow, standIns := [], harness := (true, "8c63478ceadc2a49fbd03c1a7d0895c4b83e0916450d50beacb00eb1a9b3b000"), looks := false }, kinds := [], alts := [], laidByText := true, laidKinds := [.data, .data], laidTests := true, laidLooks := .later }
def TermKnownUptoCardSaid : Prop := Claim7.holds Tryd.pinned (.plain (OpenSpec.upto termKnownSpec)) termKnownUptoCard

/-- THE SECOND FORM's CARD OF 'jalousielaw27.TermPlays'. -/
def termPlaysUptoCard : Claim7 := { stood := { row := termPlaysUptoRow, standIns := [], harness := (true, "8c63478ceadc2a49fbd03c1a7d0895c4b83e0916450d50beacb00eb1a9b3b000"), looks := false }, kinds := [], alts := [], laidByText := true, laidKinds := [.data, .data], laidTests := true, laidLooks := .later }
def TermPlaysUptoCardSaid : Prop := Claim7.holds Tryd.pinned (.plain (OpenSpec.upto termPlaysSpec)) termPlaysUptoCard

/-- THE SECOND FORM's CARD OF 'jalousielaw27.TermClears'. -/
def termClearsUptoCard : Claim7 := { stood := { row := termClearsUptoRow, standIns := [], harness := (true, "8c63478ceadc2a49fbd03c1a7d0895c4b83e0916450d50beacb00eb1a9b3b000"), looks := false }, kinds := [], alts := [], laidByText := true, laidKinds := [.data, .data], laidTests := true, laidLooks := .later }
def TermClearsUptoCardSaid : Prop := Claim7.holds Tryd.pinned (.plain (OpenSpec.upto termClearsSpec)) termClearsUptoCard

/-- THE SECOND FORM's CARD OF 'jalousielaw27.TermPieces'. -/
def termPiecesUptoCard : Claim7 := { stood := { row := termPiecesUptoRow, standIns := [], harness := (true, "8c63478ceadc2a49fbd03c1a7d0895c4b83e0916450d50beacb00eb1a9b3b000"), looks := false }, kinds := [], alts := [], laidByText := true, laidKinds := [.data, .data], laidTests := true, laidLooks := .later }
def TermPiecesUptoCardSaid : Prop := Claim7.holds Tryd.pinned (.plain (OpenSpec.upto termPiecesSpec)) termPiecesUptoCard
end Rows
end Go.Proofs.YtfbcgjpblomckaaDoor
