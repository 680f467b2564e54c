/-
  DERIVED. GIVEN WITH THE SEED: THE CARDS: each row of YtcfjjeipdacbcaaDoorRows.lean that lists a variable, with what it lists TIED to the program's text (the seventh form; the later family's looks); each row that meets fmt, with fmt's text TOLD by the authors' own Lean function (tested against real Go, not proved from fmt's source: count such statements apart). THE CARD IS WHAT COUNTS. Prove the row's statement (the work); the ties are given (YtcfjjeipdacbcaaDoorTie.lean); close each card by the builder's one call (the guide's Derived/Test/ToyasCard.lean, 'card_holds'). Laid BY PROGRAM, IN A SANDBOX (cutbox-door.mjs). By AI agents, Wed Nov 11 2026. No macro, syntax, notation, axiom, sorry.
-/
import Derived.Test.YtcfjjeipdacbcaaDoorRows
import GoSem.ClaimSeven
namespace Go.Proofs.YtcfjjeipdacbcaaDoor
namespace Rows

/-- THE TIED CARD OF 'jalousielaw07.ParamsBack'. -/
def paramsBackCard : Claim7 := { stood := { row := paramsBackRow, standIns := [], harness := (true, "d0ba8ba8491c24b01454f412fb9cf9c6e3e3fb0b6c188dacf21afa9f9f5b9135"), looks := false }, kinds := [], alts := [], laidByText := true, laidKinds := [.data, .data, .data], laidTests := true, laidLooks := .later }
def ParamsBackCardSaid : Prop := Claim7.holds Tryd.pinned (.plain (OpenSpec.ofChange paramsBackSpec)) paramsBackCard

/-- THE TIED CARD OF 'jalousielaw10.AttrKnown'. -/
def attrKnownCard : Claim7 := { stood := { row := attrKnownRow, standIns := [], harness := (true, "d0ba8ba8491c24b01454f412fb9cf9c6e3e3fb0b6c188dacf21afa9f9f5b9135"), looks := false }, kinds := [], alts := [], laidByText := true, laidKinds := [.data, .data, .data, .data], laidTests := true, laidLooks := .later }
def AttrKnownCardSaid : Prop := Claim7.holds Tryd.pinned (.plain (OpenSpec.ofChange attrKnownSpec)) attrKnownCard

/-- THE TIED CARD OF 'jalousielaw10.AttrApplies'. -/
def attrAppliesCard : Claim7 := { stood := { row := attrAppliesRow, standIns := [], harness := (true, "d0ba8ba8491c24b01454f412fb9cf9c6e3e3fb0b6c188dacf21afa9f9f5b9135"), looks := false }, kinds := [], alts := [], laidByText := true, laidKinds := [.data, .data, .data, .data], laidTests := true, laidLooks := .later }
def AttrAppliesCardSaid : Prop := Claim7.holds Tryd.pinned (.plain (OpenSpec.ofChange attrAppliesSpec)) attrAppliesCard

/-- THE TIED CARD OF 'jalousielaw10.AttrSingle'. -/
def attrSingleCard : Claim7 := { stood := { row := attrSingleRow, standIns := [], harness := (true, "d0ba8ba8491c24b01454f412fb9cf9c6e3e3fb0b6c188dacf21afa9f9f5b9135"), looks := false }, kinds := [], alts := [], laidByText := true, laidKinds := [.data, .data, .data, .data], laidTests := true, laidLooks := .later }
def AttrSingleCardSaid : Prop := Claim7.holds Tryd.pinned (.plain (OpenSpec.ofChange attrSingleSpec)) attrSingleCard

/-- THE TIED CARD OF 'jalousielaw10.AttrBetween'. -/
def attrBetweenCard : Claim7 := { stood := { row := attrBetweenRow, standIns := [], harness := (true, "d0ba8ba8491c24b01454f412fb9cf9c6e3e3fb0b6c188dacf21afa9f9f5b9135"), looks := false }, kinds := [], alts := [], laidByText := true, laidKinds := [.data, .data, .data, .data], laidTests := true, laidLooks := .later }
def AttrBetweenCardSaid : Prop := Claim7.holds Tryd.pinned (.plain (OpenSpec.ofChange attrBetweenSpec)) attrBetweenCard

/-- THE TIED CARD OF 'jalousielaw10.AttrStays'. -/
def attrStaysCard : Claim7 := { stood := { row := attrStaysRow, standIns := [], harness := (true, "d0ba8ba8491c24b01454f412fb9cf9c6e3e3fb0b6c188dacf21afa9f9f5b9135"), looks := false }, kinds := [], alts := [], laidByText := true, laidKinds := [.data, .data, .data, .data], laidTests := true, laidLooks := .later }
def AttrStaysCardSaid : Prop := Claim7.holds Tryd.pinned (.plain (OpenSpec.ofChange attrStaysSpec)) attrStaysCard

/-- THE TIED CARD OF 'jalousielaw10.AttrBack'. -/
def attrBackCard : Claim7 := { stood := { row := attrBackRow, standIns := [], harness := (true, "d0ba8ba8491c24b01454f412fb9cf9c6e3e3fb0b6c188dacf21afa9f9f5b9135"), looks := false }, kinds := [], alts := [], laidByText := true, laidKinds := [.data, .data, .data, .data], laidTests := true, laidLooks := .later }
def AttrBackCardSaid : Prop := Claim7.holds Tryd.pinned (.plain (OpenSpec.ofChange attrBackSpec)) attrBackCard

/-- THE SECOND FORM's CARD OF 'jalousielaw07.ParamsBack'. -/
def paramsBackUptoCard : Claim7 := { stood := { row := paramsBackUptoRow, standIns := [], harness := (true, "d0ba8ba8491c24b01454f412fb9cf9c6e3e3fb0b6c188dacf21afa9f9f5b9135"), looks := false }, kinds := [], alts := [], laidByText := true, laidKinds := [.data, .data, .data], laidTests := true, laidLooks := .later }
def ParamsBackUptoCardSaid : Prop := Claim7.holds Tryd.pinned (.plain (OpenSpec.upto paramsBackSpec)) paramsBackUptoCard

/-- THE SECOND FORM's CARD OF 'jalousielaw10.AttrKnown'. -/
def attrKnownUptoCard : Claim7 := { stood := { row := attrKnownUptoRow, standIns := [], harness := (true, "d0ba8ba8491c24b01454f412fb9cf9c6e3e3fb0b6c188dacf21afa9f9f5b9135"), looks := false }, kinds := [], alts := [], laidByText := true, laidKinds := [.data, .data, .data, .data], laidTests := true, laidLooks := .later }
def AttrKnownUptoCardSaid : Prop := Claim7.holds Tryd.pinned (.plain (OpenSpec.upto attrKnownSpec)) attrKnownUptoCard

/-- THE SECOND FORM's CARD OF 'jalousielaw10.AttrApplies'. -/
def attrAppliesUptoCard : Claim7 := { stood := { row := attrAppliesUptoRow, standIns := [], harness := (true, "d0ba8ba8491c24b01454f412fb9cf9c6e3e3fb0b6c188dacf21afa9f9f5b9135"), looks := false }, kinds := [], alts := [], laidByText := true, laidKinds := [.data, .data, .data, .data], laidTests := true, laidLooks := .later }
def AttrAppliesUptoCardSaid : Prop := Claim7.holds Tryd.pinned (.plain (OpenSpec.upto attrAppliesSpec)) attrAppliesUptoCard

/-- THE SECOND FORM's CARD OF 'jalousielaw10.AttrSingle'. -/
def attrSingleUptoCard : Claim7 := { stood := { row := attrSingleUptoRow, standIns := [], harness := (true, "d0ba8ba8491c24b01454f412fb9cf9c6e3e3fb0b6c188dacf21afa9f9f5b9135"), looks := false }, kinds := [], alts := [], laidByText := true, laidKinds := [.data, .data, .data, .data], laidTests := true, laidLooks := .later }
def AttrSingleUptoCardSaid : Prop := Claim7.holds Tryd.pinned (.plain (OpenSpec.upto attrSingleSpec)) attrSingleUptoCard

/-- THE SECOND FORM's CARD OF 'jalousielaw10.AttrBetween'. -/
def attrBetweenUptoCard : Claim7 := { stood := { row := attrBetweenUptoRow, standIns := [], harness := (true, "d0ba8ba8491c24b01454f412fb9cf9c6e3e3fb0b6c188dacf21afa9f9f5b9135"), looks := false }, kinds := [], alts := [], laidByText := true, laidKinds := [.data, .data, .data, .data], laidTests := true, laidLooks := .later }
def AttrBetweenUptoCardSaid : Prop := Claim7.holds Tryd.pinned (.plain (OpenSpec.upto attrBetweenSpec)) attrBetweenUptoCard

/-- THE SECOND FORM's CARD OF 'jalousielaw10.AttrStays'. -/
def attrStaysUptoCard : Claim7 := { stood := { row := attrStaysUptoRow, standIns := [], harness := (true, "d0ba8ba8491c24b01454f412fb9cf9c6e3e3fb0b6c188dacf21afa9f9f5b9135"), looks := false }, kinds := [], alts := [], laidByText := true, laidKinds := [.data, .data, .data, .data], laidTests := true, laidLooks := .later }
def AttrStaysUptoCardSaid : Prop := Claim7.holds Tryd.pinned (.plain (OpenSpec.upto attrStaysSpec)) attrStaysUptoCard

/-- THE SECOND FORM's CARD OF 'jalousielaw10.AttrBack'. -/
def attrBackUptoCard : Claim7 := { stood := { row := attrBackUptoRow, standIns := [], harness := (true, "d0ba8ba8491c24b01454f412fb9cf9c6e3e3fb0b6c188dacf21afa9f9f5b9135"), looks := false }, kinds := [], alts := [], laidByText := true, laidKinds := [.data, .data, .data, .data], laidTests := true, laidLooks := .later }
def AttrBackUptoCardSaid : Prop := Claim7.holds Tryd.pinned (.plain (OpenSpec.upto attrBackSpec)) attrBackUptoCard
end Rows
end Go.Proofs.YtcfjjeipdacbcaaDoor
