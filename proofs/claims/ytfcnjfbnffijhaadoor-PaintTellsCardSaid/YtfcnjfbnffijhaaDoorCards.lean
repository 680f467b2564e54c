/-
  DERIVED. GIVEN WITH THE SEED: THE CARDS: each row of YtfcnjfbnffijhaaDoorRows.lean that lists a variable, with what it lists TIED to the program's text (the seventh form; the later family's looks); each row that meets fmt, with fmt's text TOLD by the authors' own Lean function (tested against real Go, not proved from fmt's source: count such statements apart). THE CARD IS WHAT COUNTS. Prove the row's statement (the work); the ties are given (YtfcnjfbnffijhaaDoorTie.lean); close each card by the builder's one call (the guide's Derived/Test/ToyasCard.lean, 'card_holds'). Laid BY PROGRAM, IN A SANDBOX (cutbox-door.mjs). By AI agents, Wed Nov 11 2026. No macro, syntax, notation, axiom, sorry.
-/
import Derived.Test.YtfcnjfbnffijhaaDoorRows
import GoSem.ClaimSeven
namespace Go.Proofs.YtfcnjfbnffijhaaDoor
namespace Rows

/-- THE TIED CARD OF 'jalousielaw26.PaintTells'. -/
def paintTellsCard : Claim7 := { stood := { row := paintTellsRow, standIns := [], harness := (true, "db87f5c7886c895947b3c6ac5ee8f64a1986bee49650129f24d432af9f73df1e"), looks := false }, kinds := [], alts := [], laidByText := true, laidKinds := [.data, .data, .data, .data, .data], laidTests := true, laidLooks := .later }
def PaintTellsCardSaid : Prop := Claim7.holds Tryd.pinned (.plain (OpenSpec.ofChange paintTellsSpec)) paintTellsCard

/-- THE SECOND FORM's CARD OF 'jalousielaw26.PaintTells'. -/
def paintTellsUptoCard : Claim7 := { stood := { row := paintTellsUptoRow, standIns := [], harness := (true, "db87f5c7886c895947b3c6ac5ee8f64a1986bee49650129f24d432af9f73df1e"), looks := false }, kinds := [], alts := [], laidByText := true, laidKinds := [.data, .data, .data, .data, .data], laidTests := true, laidLooks := .later }
def PaintTellsUptoCardSaid : Prop := Claim7.holds Tryd.pinned (.plain (OpenSpec.upto paintTellsSpec)) paintTellsUptoCard
end Rows
end Go.Proofs.YtfcnjfbnffijhaaDoor
