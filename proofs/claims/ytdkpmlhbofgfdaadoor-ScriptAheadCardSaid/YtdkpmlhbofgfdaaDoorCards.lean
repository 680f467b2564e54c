/-
  DERIVED. GIVEN WITH THE SEED: THE CARDS: each row of YtdkpmlhbofgfdaaDoorRows.lean that lists a variable, with what it lists TIED to the program's text (the seventh form; the later family's looks); each row that meets fmt, with fmt's text TOLD by the authors' own Lean function (tested against real Go, not proved from fmt's source: count such statements apart). THE CARD IS WHAT COUNTS. Prove the row's statement (the work); the ties are given (YtdkpmlhbofgfdaaDoorTie.lean); close each card by the builder's one call (the guide's Derived/Test/ToyasCard.lean, 'card_holds'). Laid BY PROGRAM, IN A SANDBOX (cutbox-door.mjs). By AI agents, Wed Nov 11 2026. No macro, syntax, notation, axiom, sorry.
-/
import Derived.Test.YtdkpmlhbofgfdaaDoorRows
import GoSem.ClaimSeven
namespace Go.Proofs.YtdkpmlhbofgfdaaDoor
namespace Rows

/-- THE TIED CARD OF 'jalousielaw31.ScriptKnown'. -/
def scriptKnownCard : Claim7 := { stood := { row := scriptKnownRow, standIns := [], harness := (true, "8dc1280533ceb32b93f3aa6148291d5ba0f3fbc584885d3f513885e049fa1149"), looks := true }, kinds := [], alts := [], laidByText := true, laidKinds := [.data, .data, .data, .data, .sentinel, .sentinel, .pinned], laidTests := true, laidLooks := .later }
def ScriptKnownCardSaid : Prop := Claim7.holds Tryd.pinned (.plain (OpenSpec.ofChange scriptKnownSpec)) scriptKnownCard

/-- THE TIED CARD OF 'jalousielaw31.ScriptAhead'. -/
def scriptAheadCard : Claim7 := { stood := { row := scriptAheadRow, standIns := [], harness := (true, "8dc1280533ceb32b93f3aa6148291d5ba0f3fbc584885d3f513885e049fa1149"), looks := true }, kinds := [], alts := [], laidByText := true, laidKinds := [.data, .data, .data, .data, .sentinel, .sentinel, .pinned], laidTests := true, laidLooks := .later }
def ScriptAheadCardSaid : Prop := Claim7.holds Tryd.pinned (.plain (OpenSpec.ofChange scriptAheadSpec)) scriptAheadCard

/-- THE SECOND FORM's CARD OF 'jalousielaw31.ScriptKnown'. -/
def scriptKnownUptoCard : Claim7 := { stood := { row := scriptKnownUptoRow, standIns := [], harness := (true, "8dc1280533ceb32b93f3aa6148291d5ba0f3fbc584885d3f513885e049fa1149"), looks := true }, kinds := [], alts := [], laidByText := true, laidKinds := [.data, .data, .data, .data, .sentinel, .sentinel, .pinned], laidTests := true, laidLooks := .later }
def ScriptKnownUptoCardSaid : Prop := Claim7.holds Tryd.pinned (.plain (OpenSpec.upto scriptKnownSpec)) scriptKnownUptoCard

/-- THE SECOND FORM's CARD OF 'jalousielaw31.ScriptAhead'. -/
def scriptAheadUptoCard : Claim7 := { stood := { row := scriptAheadUptoRow, standIns := [], harness := (true, "8dc1280533ceb32b93f3aa6148291d5ba0f3fbc584885d3f513885e049fa1149"), looks := true }, kinds := [], alts := [], laidByText := true, laidKinds := [.data, .data, .data, .data, .sentinel, .sentinel, .pinned], laidTests := true, laidLooks := .later }
def ScriptAheadUptoCardSaid : Prop := Claim7.holds Tryd.pinned (.plain (OpenSpec.upto scriptAheadSpec)) scriptAheadUptoCard
end Rows
end Go.Proofs.YtdkpmlhbofgfdaaDoor
