/-
  DERIVED. GIVEN WITH THE SEED: THE CARDS: each row of YtkfnjjloefanjaaDoorRows.lean that lists a variable, with what it lists TIED to the program's text (the seventh form; the later family's looks); each row that meets fmt, with fmt's text TOLD by the authors' own Lean function (tested against real Go, not proved from fmt's source: count such statements apart). THE CARD IS WHAT COUNTS. Prove the row's statement (the work); the ties are given (YtkfnjjloefanjaaDoorTie.lean); close each card by the builder's one call (the guide's Derived/Test/ToyasCard.lean, 'card_holds'). Laid BY PROGRAM, IN A SANDBOX (cutbox-door.mjs). By AI agents, Wed Nov 11 2026. No macro, syntax, notation, axiom, sorry.
-/
import Derived.Test.YtkfnjjloefanjaaDoorRows
import GoSem.ClaimSeven
namespace Go.Proofs.YtkfnjjloefanjaaDoor
namespace Rows

/-- THE TIED CARD OF 'jalousielaw26.PaintBlank'. -/
def paintBlankCard : Claim7 := { stood := { row := paintBlankRow, standIns := [], harness := (true, "948be99cacd8914d68384f4e5a7f7b1acfd69137873d0f96c899e4d1b5cdbdf5"), looks := false }, kinds := [], alts := [], laidByText := true, laidKinds := [.data, .data, .data, .data, .data], laidTests := true, laidLooks := .later }
def PaintBlankCardSaid : Prop := Claim7.holds Tryd.pinned (.plain (OpenSpec.ofChange paintBlankSpec)) paintBlankCard

/-- THE TIED CARD OF 'jalousielaw26.PaintNothing'. -/
def paintNothingCard : Claim7 := { stood := { row := paintNothingRow, standIns := [], harness := (true, "948be99cacd8914d68384f4e5a7f7b1acfd69137873d0f96c899e4d1b5cdbdf5"), looks := false }, kinds := [], alts := [], laidByText := true, laidKinds := [.data, .data, .data, .data, .data], laidTests := true, laidLooks := .later }
def PaintNothingCardSaid : Prop := Claim7.holds Tryd.pinned (.plain (OpenSpec.ofChange paintNothingSpec)) paintNothingCard

/-- THE TIED CARD OF 'jalousielaw26.PaintKnown'. -/
def paintKnownCard : Claim7 := { stood := { row := paintKnownRow, standIns := [], harness := (true, "948be99cacd8914d68384f4e5a7f7b1acfd69137873d0f96c899e4d1b5cdbdf5"), looks := false }, kinds := [], alts := [], laidByText := true, laidKinds := [.data, .data, .data, .data, .data], laidTests := true, laidLooks := .later }
def PaintKnownCardSaid : Prop := Claim7.holds Tryd.pinned (.plain (OpenSpec.ofChange paintKnownSpec)) paintKnownCard

/-- THE SECOND FORM's CARD OF 'jalousielaw26.PaintBlank'. -/
def paintBlankUptoCard : Claim7 := { stood := { row := paintBlankUptoRow, standIns := [], harness := (true, "948be99cacd8914d68384f4e5a7f7b1acfd69137873d0f96c899e4d1b5cdbdf5"), looks := false }, kinds := [], alts := [], laidByText := true, laidKinds := [.data, .data, .data, .data, .data], laidTests := true, laidLooks := .later }
def PaintBlankUptoCardSaid : Prop := Claim7.holds Tryd.pinned (.plain (OpenSpec.upto paintBlankSpec)) paintBlankUptoCard

/-- THE SECOND FORM's CARD OF 'jalousielaw26.PaintNothing'. -/
def paintNothingUptoCard : Claim7 := { stood := { row := paintNothingUptoRow, standIns := [], harness := (true, "948be99cacd8914d68384f4e5a7f7b1acfd69137873d0f96c899e4d1b5cdbdf5"), looks := false }, kinds := [], alts := [], laidByText := true, laidKinds := [.data, .data, .data, .data, .data], laidTests := true, laidLooks := .later }
def PaintNothingUptoCardSaid : Prop := Claim7.holds Tryd.pinned (.plain (OpenSpec.upto paintNothingSpec)) paintNothingUptoCard

/-- THE SECOND FORM's CARD OF 'jalousielaw26.PaintKnown'. -/
def paintKnownUptoCard : Claim7 := { stood := { row := paintKnownUptoRow, standIns := [], harness := (true, "948be99cacd8914d68384f4e5a7f7b1acfd69137873d0f96c899e4d1b5cdbdf5"), looks := false }, kinds := [], alts := [], laidByText := true, laidKinds := [.data, .data, .data, .data, .data], laidTests := true, laidLooks := .later }
def PaintKnownUptoCardSaid : Prop := Claim7.holds Tryd.pinned (.plain (OpenSpec.upto paintKnownSpec)) paintKnownUptoCard
end Rows
end Go.Proofs.YtkfnjjloefanjaaDoor
