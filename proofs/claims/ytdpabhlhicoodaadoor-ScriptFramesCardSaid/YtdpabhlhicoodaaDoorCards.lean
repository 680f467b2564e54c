/-
  DERIVED. GIVEN WITH THE SEED: THE CARDS: each row of YtdpabhlhicoodaaDoorRows.lean that lists a variable, with what it lists TIED to the program's text (the seventh form; the later family's looks); each row that meets fmt, with fmt's text TOLD by the authors' own Lean function (tested against real Go, not proved from fmt's source: count such statements apart). THE CARD IS WHAT COUNTS. Prove the row's statement (the work); the ties are given (YtdpabhlhicoodaaDoorTie.lean); close each card by the builder's one call (the guide's Derived/Test/ToyasCard.lean, 'card_holds'). Laid BY PROGRAM, IN A SANDBOX (cutbox-door.mjs). By AI agents, Wed Nov 11 2026. No macro, syntax, notation, axiom, sorry.
-/
import Derived.Test.YtdpabhlhicoodaaDoorRows
import GoSem.ClaimSeven
namespace Go.Proofs.YtdpabhlhicoodaaDoor
namespace Rows

/-- THE TIED CARD OF 'jalousielaw31.ScriptFrames'. -/
def scriptFramesCard : Claim7 := { stood := { row := scriptFramesRow, standIns := [], harness := (true, "9398f3f75674961d1709f81543e59a09735f6b32d8621d58dc1611fb8f0ef671"), looks := true }, kinds := [], alts := [], laidByText := true, laidKinds := [.data, .data, .data, .data, .sentinel, .sentinel, .pinned], laidTests := true, laidLooks := .later }
def ScriptFramesCardSaid : Prop := Claim7.holds Tryd.pinned (.plain (OpenSpec.ofChange scriptFramesSpec)) scriptFramesCard

/-- THE SECOND FORM's CARD OF 'jalousielaw31.ScriptFrames'. -/
def scriptFramesUptoCard : Claim7 := { stood := { row := scriptFramesUptoRow, standIns := [], harness := (true, "9398f3f75674961d1709f81543e59a09735f6b32d8621d58dc1611fb8f0ef671"), looks := true }, kinds := [], alts := [], laidByText := true, laidKinds := [.data, .data, .data, .data, .sentinel, .sentinel, .pinned], laidTests := true, laidLooks := .later }
def ScriptFramesUptoCardSaid : Prop := Claim7.holds Tryd.pinned (.plain (OpenSpec.upto scriptFramesSpec)) scriptFramesUptoCard
end Rows
end Go.Proofs.YtdpabhlhicoodaaDoor
