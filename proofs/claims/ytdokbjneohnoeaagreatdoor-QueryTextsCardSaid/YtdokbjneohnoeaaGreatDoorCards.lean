/-
  DERIVED. GIVEN WITH THE SEED: THE CARDS: each row of YtdokbjneohnoeaaGreatDoorRows.lean that lists a variable, with what it lists TIED to the program's text (the seventh form; the later family's looks); each row that meets fmt, with fmt's text TOLD by the authors' own Lean function (tested against real Go, not proved from fmt's source: count such statements apart). THE CARD IS WHAT COUNTS. Prove the row's statement (the work); the ties are given (YtdokbjneohnoeaaGreatDoorTie.lean); close each card by the builder's one call (the guide's Derived/Test/ToyasCard.lean, 'card_holds'). Laid BY PROGRAM, IN A SANDBOX (cutbox-door.mjs). By AI agents, Wed Nov 11 2026. No macro, syntax, notation, axiom, sorry.
-/
import Derived.Test.YtdokbjneohnoeaaGreatDoorRows
import GoSem.ClaimSeven
namespace Go.Proofs.YtdokbjneohnoeaaGreatDoor
namespace Rows

/-- THE TIED CARD OF 'jalousielaw17.QueryTexts'. -/
def queryTextsCard : Claim7 := { stood := { row := queryTextsRow, standIns := [], harness := (true, "f71bec7e5d11176765a41fc005e74763a5cbc358333d0529bcca771490b9ec39"), looks := false }, kinds := [], alts := [], laidByText := true, laidKinds := [.data, .data, .data, .data, .data], laidTests := true, laidLooks := .later }
def QueryTextsCardSaid : Prop := Claim7.holds Tryz.pinned (.plain (OpenSpec.ofChange queryTextsSpec)) queryTextsCard

/-- THE TIED CARD OF 'jalousielaw17.QuerySafe'. -/
def querySafeCard : Claim7 := { stood := { row := querySafeRow, standIns := [], harness := (true, "f71bec7e5d11176765a41fc005e74763a5cbc358333d0529bcca771490b9ec39"), looks := false }, kinds := [], alts := [], laidByText := true, laidKinds := [.data, .data, .data, .data, .data], laidTests := true, laidLooks := .later }
def QuerySafeCardSaid : Prop := Claim7.holds Tryz.pinned (.plain (OpenSpec.ofChange querySafeSpec)) querySafeCard

/-- THE TIED CARD OF 'jalousielaw17.QueryLetters'. -/
def queryLettersCard : Claim7 := { stood := { row := queryLettersRow, standIns := [], harness := (true, "f71bec7e5d11176765a41fc005e74763a5cbc358333d0529bcca771490b9ec39"), looks := false }, kinds := [], alts := [], laidByText := true, laidKinds := [.data, .data, .data, .data, .data], laidTests := true, laidLooks := .later }
def QueryLettersCardSaid : Prop := Claim7.holds Tryz.pinned (.plain (OpenSpec.ofChange queryLettersSpec)) queryLettersCard

/-- THE TIED CARD OF 'jalousielaw17.QueryKnown'. -/
def queryKnownCard : Claim7 := { stood := { row := queryKnownRow, standIns := [], harness := (true, "f71bec7e5d11176765a41fc005e74763a5cbc358333d0529bcca771490b9ec39"), looks := false }, kinds := [], alts := [], laidByText := true, laidKinds := [.data, .data, .data, .data, .data], laidTests := true, laidLooks := .later }
def QueryKnownCardSaid : Prop := Claim7.holds Tryz.pinned (.plain (OpenSpec.ofChange queryKnownSpec)) queryKnownCard

/-- THE SECOND FORM's CARD OF 'jalousielaw17.QueryTexts'. -/
def queryTextsUptoCard : Claim7 := { stood := { row := queryTextsUptoRow, standIns := [], harness := (true, "f71bec7e5d11176765a41fc005e74763a5cbc358333d0529bcca771490b9ec39"), looks := false }, kinds := [], alts := [], laidByText := true, laidKinds := [.data, .data, .data, .data, .data], laidTests := true, laidLooks := .later }
def QueryTextsUptoCardSaid : Prop := Claim7.holds Tryz.pinned (.plain (OpenSpec.upto queryTextsSpec)) queryTextsUptoCard

/-- THE SECOND FORM's CARD OF 'jalousielaw17.QuerySafe'. -/
def querySafeUptoCard : Claim7 := { stood := { row := querySafeUptoRow, standIns := [], harness := (true, "f71bec7e5d11176765a41fc005e74763a5cbc358333d0529bcca771490b9ec39"), looks := false }, kinds := [], alts := [], laidByText := true, laidKinds := [.data, .data, .data, .data, .data], laidTests := true, laidLooks := .later }
def QuerySafeUptoCardSaid : Prop := Claim7.holds Tryz.pinned (.plain (OpenSpec.upto querySafeSpec)) querySafeUptoCard

/-- THE SECOND FORM's CARD OF 'jalousielaw17.QueryLetters'. -/
def queryLettersUptoCard : Claim7 := { stood := { row := queryLettersUptoRow, standIns := [], harness := (true, "f71bec7e5d11176765a41fc005e74763a5cbc358333d0529bcca771490b9ec39"), looks := false }, kinds := [], alts := [], laidByText := true, laidKinds := [.data, .data, .data, .data, .data], laidTests := true, laidLooks := .later }
def QueryLettersUptoCardSaid : Prop := Claim7.holds Tryz.pinned (.plain (OpenSpec.upto queryLettersSpec)) queryLettersUptoCard

/-- THE SECOND FORM's CARD OF 'jalousielaw17.QueryKnown'. -/
def queryKnownUptoCard : Claim7 := { stood := { row := queryKnownUptoRow, standIns := [], harness := (true, "f71bec7e5d11176765a41fc005e74763a5cbc358333d0529bcca771490b9ec39"), looks := false }, kinds := [], alts := [], laidByText := true, laidKinds := [.data, .data, .data, .data, .data], laidTests := true, laidLooks := .later }
def QueryKnownUptoCardSaid : Prop := Claim7.holds Tryz.pinned (.plain (OpenSpec.upto queryKnownSpec)) queryKnownUptoCard
end Rows
end Go.Proofs.YtdokbjneohnoeaaGreatDoor
