/-
  No cell of these rows narrows 'for every input' (looked for: loops, veiled, ifaces, maps, wideKeys, modest, calm, conditions, laid).
  DERIVED. THE GIVEN ROWS OF THIS SEAT. 8 by the template 'for every input the law returns true; each argument reads behind the call as it read before'; 0 by the template 'total and deterministic' (their statements: YteockjhckmlclaaTotals.lean).
  GIVEN WITH THE SEED: the statements are not yours to turn. If you find one false, say at which input.
  Laid BY PROGRAM, IN A SANDBOX (cutbox-rows.mjs): the forced cells as the released guide's own fill.sh prints them over the translation e0794d861ca5838d… (all of the seat's roots in one cut). By AI agents, Wed Nov 11 2026. No macro, syntax, notation, axiom, sorry.
-/
import Derived.Test.YteockjhckmlclaaChecked
import GoSem.Claim
import GoSem.ClaimJoined
import GoSem.ClaimMapViews
import Derived.JoinedTies
import Derived.KernelRfl
namespace Go.Proofs.Yteockjhckmlclaa
/- THE CELL 'sum', in the pinned program and in every row, IS THE sha256 OF THE DUMP (.gsa) THAT YteockjhckmlclaaProg.lean LOADS. Nothing in Lean hashes anything: it is a label: what it is worth is what the hold of that sum in a sandbox is worth. -/
noncomputable def Try.pinned : Pinned := { name := "yteockjhckmlclaa", sum := "e0794d861ca5838d404ec8ebac489ea307db04a3308afd97178199798cd3853e", checked := Try.checked }
namespace Rows
def none {H : Type} : Left H := { results := [], args := [] }

/-- 'jalousielaw08.EventsSame': WHATEVER THE INPUT: true; the input reads as it did. -/
def eventsSameSpec : ChangeSpec := { name := "eventsSame", fn := fun _ => fun
  | [d1, d2] => { results := [.lit (.bool true)], args := [d1, d2] }
  | _ => none }
def eventsSameRow : OpenClaim := { program := "yteockjhckmlclaa", sum := "e0794d861ca5838d404ec8ebac489ea307db04a3308afd97178199798cd3853e", func := "jalousie/jalousielaw08.EventsSame", spec := "eventsSame", unfollowed := true, recurses := true, apart := false }
def EventsSameSaid : Prop := eventsSameRow.holds Try.pinned (OpenSpec.ofChange eventsSameSpec)

/-- ITS FALSE NEIGHBOUR: 'it returns false'. Refute it at one input. -/
def eventsSameWrong : ChangeSpec := { name := "eventsSame", fn := fun _ => fun
  | [d1, d2] => { results := [.lit (.bool false)], args := [d1, d2] }
  | _ => none }
def EventsSameWrongFalsely : Prop := eventsSameRow.holds Try.pinned (OpenSpec.ofChange eventsSameWrong)

/-- 'jalousielaw08.EventsPlain': WHATEVER THE INPUT: true; the input reads as it did. -/
def eventsPlainSpec : ChangeSpec := { name := "eventsPlain", fn := fun _ => fun
  | [d] => { results := [.lit (.bool true)], args := [d] }
  | _ => none }
def eventsPlainRow : OpenClaim := { program := "yteockjhckmlclaa", sum := "e0794d861ca5838d404ec8ebac489ea307db04a3308afd97178199798cd3853e", func := "jalousie/jalousielaw08.EventsPlain", spec := "eventsPlain", unfollowed := true, recurses := true, apart := false }
def EventsPlainSaid : Prop := eventsPlainRow.holds Try.pinned (OpenSpec.ofChange eventsPlainSpec)

/-- ITS FALSE NEIGHBOUR: 'it returns false'. Refute it at one input. -/
def eventsPlainWrong : ChangeSpec := { name := "eventsPlain", fn := fun _ => fun
  | [d] => { results := [.lit (.bool false)], args := [d] }
  | _ => none }
def EventsPlainWrongFalsely : Prop := eventsPlainRow.holds Try.pinned (OpenSpec.ofChange eventsPlainWrong)

/-- 'jalousielaw08.EventsTell': WHATEVER THE INPUT: true; the input reads as it did. -/
def eventsTellSpec : ChangeSpec := { name := "eventsTell", fn := fun _ => fun
  | [d] => { results := [.lit (.bool true)], args := [d] }
  | _ => none }
def eventsTellRow : OpenClaim := { program := "yteockjhckmlclaa", sum := "e0794d861ca5838d404ec8ebac489ea307db04a3308afd97178199798cd3853e", func := "jalousie/jalousielaw08.EventsTell", spec := "eventsTell", unfollowed := true, recurses := true, apart := false }
def EventsTellSaid : Prop := eventsTellRow.holds Try.pinned (OpenSpec.ofChange eventsTellSpec)

/-- ITS FALSE NEIGHBOUR: 'it returns false'. Refute it at one input. -/
def eventsTellWrong : ChangeSpec := { name := "eventsTell", fn := fun _ => fun
  | [d] => { results := [.lit (.bool false)], args := [d] }
  | _ => none }
def EventsTellWrongFalsely : Prop := eventsTellRow.holds Try.pinned (OpenSpec.ofChange eventsTellWrong)

/-- 'jalousielaw08.EventsNobody': WHATEVER THE INPUT: true; the input reads as it did. -/
def eventsNobodySpec : ChangeSpec := { name := "eventsNobody", fn := fun _ => fun
  | [d] => { results := [.lit (.bool true)], args := [d] }
  | _ => none }
def eventsNobodyRow : OpenClaim := { program := "yteockjhckmlclaa", sum := "e0794d861ca5838d404ec8ebac489ea307db04a3308afd97178199798cd3853e", func := "jalousie/jalousielaw08.EventsNobody", spec := "eventsNobody", unfollowed := true, recurses := true, apart := false }
def EventsNobodySaid : Prop := eventsNobodyRow.holds Try.pinned (OpenSpec.ofChange eventsNobodySpec)

/-- ITS FALSE NEIGHBOUR: 'it returns false'. Refute it at one input. -/
def eventsNobodyWrong : ChangeSpec := { name := "eventsNobody", fn := fun _ => fun
  | [d] => { results := [.lit (.bool false)], args := [d] }
  | _ => none }
def EventsNobodyWrongFalsely : Prop := eventsNobodyRow.holds Try.pinned (OpenSpec.ofChange eventsNobodyWrong)

/-- 'jalousielaw08.EventsPieces': WHATEVER THE INPUT: true; the input reads as it did. -/
def eventsPiecesSpec : ChangeSpec := { name := "eventsPieces", fn := fun _ => fun
  | [d1, d2] => { results := [.lit (.bool true)], args := [d1, d2] }
  | _ => none }
def eventsPiecesRow : OpenClaim := { program := "yteockjhckmlclaa", sum := "e0794d861ca5838d404ec8ebac489ea307db04a3308afd97178199798cd3853e", func := "jalousie/jalousielaw08.EventsPieces", spec := "eventsPieces", unfollowed := true, recurses := true, apart := false }
def EventsPiecesSaid : Prop := eventsPiecesRow.holds Try.pinned (OpenSpec.ofChange eventsPiecesSpec)

/-- ITS FALSE NEIGHBOUR: 'it returns false'. Refute it at one input. -/
def eventsPiecesWrong : ChangeSpec := { name := "eventsPieces", fn := fun _ => fun
  | [d1, d2] => { results := [.lit (.bool false)], args := [d1, d2] }
  | _ => none }
def EventsPiecesWrongFalsely : Prop := eventsPiecesRow.holds Try.pinned (OpenSpec.ofChange eventsPiecesWrong)

/-- 'jalousielaw08.EventsCancel': WHATEVER THE INPUT: true; the input reads as it did. -/
def eventsCancelSpec : ChangeSpec := { name := "eventsCancel", fn := fun _ => fun
  | [d1, d2] => { results := [.lit (.bool true)], args := [d1, d2] }
  | _ => none }
def eventsCancelRow : OpenClaim := { program := "yteockjhckmlclaa", sum := "e0794d861ca5838d404ec8ebac489ea307db04a3308afd97178199798cd3853e", func := "jalousie/jalousielaw08.EventsCancel", spec := "eventsCancel", unfollowed := true, recurses := true, apart := false }
def EventsCancelSaid : Prop := eventsCancelRow.holds Try.pinned (OpenSpec.ofChange eventsCancelSpec)

/-- ITS FALSE NEIGHBOUR: 'it returns false'. Refute it at one input. -/
def eventsCancelWrong : ChangeSpec := { name := "eventsCancel", fn := fun _ => fun
  | [d1, d2] => { results := [.lit (.bool false)], args := [d1, d2] }
  | _ => none }
def EventsCancelWrongFalsely : Prop := eventsCancelRow.holds Try.pinned (OpenSpec.ofChange eventsCancelWrong)

/-- 'jalousielaw08.EventsKnown': WHATEVER THE INPUT: true; the input reads as it did. -/
def eventsKnownSpec : ChangeSpec := { name := "eventsKnown", fn := fun _ => fun
  | [] => { results := [.lit (.bool true)], args := [] }
  | _ => none }
def eventsKnownRow : OpenClaim := { program := "yteockjhckmlclaa", sum := "e0794d861ca5838d404ec8ebac489ea307db04a3308afd97178199798cd3853e", func := "jalousie/jalousielaw08.EventsKnown", spec := "eventsKnown", inPlace := ["internal/abi.NoEscape", "internal/bytealg.MakeNoZero"], unfollowed := true, recurses := true, apart := false }
def EventsKnownSaid : Prop := eventsKnownRow.holds Try.pinned (OpenSpec.ofChange eventsKnownSpec)

/-- ITS FALSE NEIGHBOUR: 'it returns false'. Refute it at one input. -/
def eventsKnownWrong : ChangeSpec := { name := "eventsKnown", fn := fun _ => fun
  | [] => { results := [.lit (.bool false)], args := [] }
  | _ => none }
def EventsKnownWrongFalsely : Prop := eventsKnownRow.holds Try.pinned (OpenSpec.ofChange eventsKnownWrong)

/-- 'jalousielaw08.EventsLong': WHATEVER THE INPUT: true; the input reads as it did. -/
def eventsLongSpec : ChangeSpec := { name := "eventsLong", fn := fun _ => fun
  | [d1, d2, d3, d4] => { results := [.lit (.bool true)], args := [d1, d2, d3, d4] }
  | _ => none }
def eventsLongRow : OpenClaim := { program := "yteockjhckmlclaa", sum := "e0794d861ca5838d404ec8ebac489ea307db04a3308afd97178199798cd3853e", func := "jalousie/jalousielaw08.EventsLong", spec := "eventsLong", inPlace := ["internal/abi.NoEscape", "internal/bytealg.MakeNoZero"], unfollowed := true, recurses := true, apart := false }
def EventsLongSaid : Prop := eventsLongRow.holds Try.pinned (OpenSpec.ofChange eventsLongSpec)

/-- ITS FALSE NEIGHBOUR: 'it returns false'. Refute it at one input. -/
def eventsLongWrong : ChangeSpec := { name := "eventsLong", fn := fun _ => fun
  | [d1, d2, d3, d4] => { results := [.lit (.bool false)], args := [d1, d2, d3, d4] }
  | _ => none }
def EventsLongWrongFalsely : Prop := eventsLongRow.holds Try.pinned (OpenSpec.ofChange eventsLongWrong)

/- THE SECOND FORM. 'bulk': how many values and letters a reading holds, each counted each time it is reached (what is shared counts as often as it is met; a slice's spare places count too). A statement '..UptoSaid' is the law's where the arguments, and the package variables that the reading takes, are together of bulk at most 1048576: NARROWER than '..Said'. Prove '..Said' where nothing that the law and all that it calls make is longer than what came in: it says more and counts as full. Else prove '..UptoSaid'. A law counts once. -/
mutual
def uptoBulk {H : Type} : DataW H → Nat
  | .lit (.string bytes) => bytes.length + 1
  | .lit _ => 1
  | .nil => 1
  | .ptr d => uptoBulk d + 1
  | .slice elems spare => uptoBulkAll elems + uptoBulkAll spare + 1
  | .agg parts => uptoBulkAll parts + 1
  | .iface _ d => uptoBulk d + 1
  | .map entries => uptoBulkEntries entries + 1
  | .held _ => 1
def uptoBulkAll {H : Type} : List (DataW H) → Nat
  | [] => 0
  | d :: r => uptoBulk d + uptoBulkAll r
def uptoBulkEntries {H : Type} : List (Lit × DataW H) → Nat
  | [] => 0
  | x :: r => uptoBulkEntry x + uptoBulkEntries r
def uptoBulkEntry {H : Type} : Lit × DataW H → Nat
  | (.string bytes, d) => bytes.length + uptoBulk d + 1
  | (_, d) => uptoBulk d + 1
 end
def uptoSmall : (H : Type) → List (DataW H) → Bool := fun _ ds => decide (uptoBulkAll ds ≤ 1048576)
def OpenSpec.upto (s : _root_.Go.ChangeSpec) : _root_.Go.OpenSpec := { _root_.Go.OpenSpec.ofChange s with cond := some uptoSmall }

/-- 'jalousielaw08.EventsSame', WHERE WHAT IT READS IS OF BULK AT MOST 1048576: true; the input reads as it did. -/
def eventsSameUptoRow : OpenClaim := { program := "yteockjhckmlclaa", sum := "e0794d861ca5838d404ec8ebac489ea307db04a3308afd97178199798cd3853e", func := "jalousie/jalousielaw08.EventsSame", spec := "eventsSame", unfollowed := true, recurses := true, apart := false, narrowed := true }
def EventsSameUptoSaid : Prop := eventsSameUptoRow.holds Try.pinned (OpenSpec.upto eventsSameSpec)

/-- 'jalousielaw08.EventsPlain', WHERE WHAT IT READS IS OF BULK AT MOST 1048576: true; the input reads as it did. -/
def eventsPlainUptoRow : OpenClaim := { program := "yteockjhckmlclaa", sum := "e0794d861ca5838d404ec8ebac489ea307db04a3308afd97178199798cd3853e", func := "jalousie/jalousielaw08.EventsPlain", spec := "eventsPlain", unfollowed := true, recurses := true, apart := false, narrowed := true }
def EventsPlainUptoSaid : Prop := eventsPlainUptoRow.holds Try.pinned (OpenSpec.upto eventsPlainSpec)

/-- 'jalousielaw08.EventsTell', WHERE WHAT IT READS IS OF BULK AT MOST 1048576: true; the input reads as it did. -/
def eventsTellUptoRow : OpenClaim := { program := "yteockjhckmlclaa", sum := "e0794d861ca5838d404ec8ebac489ea307db04a3308afd97178199798cd3853e", func := "jalousie/jalousielaw08.EventsTell", spec := "eventsTell", unfollowed := true, recurses := true, apart := false, narrowed := true }
def EventsTellUptoSaid : Prop := eventsTellUptoRow.holds Try.pinned (OpenSpec.upto eventsTellSpec)

/-- 'jalousielaw08.EventsNobody', WHERE WHAT IT READS IS OF BULK AT MOST 1048576: true; the input reads as it did. -/
def eventsNobodyUptoRow : OpenClaim := { program := "yteockjhckmlclaa", sum := "e0794d861ca5838d404ec8ebac489ea307db04a3308afd97178199798cd3853e", func := "jalousie/jalousielaw08.EventsNobody", spec := "eventsNobody", unfollowed := true, recurses := true, apart := false, narrowed := true }
def EventsNobodyUptoSaid : Prop := eventsNobodyUptoRow.holds Try.pinned (OpenSpec.upto eventsNobodySpec)

/-- 'jalousielaw08.EventsPieces', WHERE WHAT IT READS IS OF BULK AT MOST 1048576: true; the input reads as it did. -/
def eventsPiecesUptoRow : OpenClaim := { program := "yteockjhckmlclaa", sum := "e0794d861ca5838d404ec8ebac489ea307db04a3308afd97178199798cd3853e", func := "jalousie/jalousielaw08.EventsPieces", spec := "eventsPieces", unfollowed := true, recurses := true, apart := false, narrowed := true }
def EventsPiecesUptoSaid : Prop := eventsPiecesUptoRow.holds Try.pinned (OpenSpec.upto eventsPiecesSpec)

/-- 'jalousielaw08.EventsCancel', WHERE WHAT IT READS IS OF BULK AT MOST 1048576: true; the input reads as it did. -/
def eventsCancelUptoRow : OpenClaim := { program := "yteockjhckmlclaa", sum := "e0794d861ca5838d404ec8ebac489ea307db04a3308afd97178199798cd3853e", func := "jalousie/jalousielaw08.EventsCancel", spec := "eventsCancel", unfollowed := true, recurses := true, apart := false, narrowed := true }
def EventsCancelUptoSaid : Prop := eventsCancelUptoRow.holds Try.pinned (OpenSpec.upto eventsCancelSpec)

/-- 'jalousielaw08.EventsKnown', WHERE WHAT IT READS IS OF BULK AT MOST 1048576: true; the input reads as it did. -/
def eventsKnownUptoRow : OpenClaim := { program := "yteockjhckmlclaa", sum := "e0794d861ca5838d404ec8ebac489ea307db04a3308afd97178199798cd3853e", func := "jalousie/jalousielaw08.EventsKnown", spec := "eventsKnown", inPlace := ["internal/abi.NoEscape", "internal/bytealg.MakeNoZero"], unfollowed := true, recurses := true, apart := false, narrowed := true }
def EventsKnownUptoSaid : Prop := eventsKnownUptoRow.holds Try.pinned (OpenSpec.upto eventsKnownSpec)

/-- 'jalousielaw08.EventsLong', WHERE WHAT IT READS IS OF BULK AT MOST 1048576: true; the input reads as it did. -/
def eventsLongUptoRow : OpenClaim := { program := "yteockjhckmlclaa", sum := "e0794d861ca5838d404ec8ebac489ea307db04a3308afd97178199798cd3853e", func := "jalousie/jalousielaw08.EventsLong", spec := "eventsLong", inPlace := ["internal/abi.NoEscape", "internal/bytealg.MakeNoZero"], unfollowed := true, recurses := true, apart := false, narrowed := true }
def EventsLongUptoSaid : Prop := eventsLongUptoRow.holds Try.pinned (OpenSpec.upto eventsLongSpec)

end Rows
end Go.Proofs.Yteockjhckmlclaa
