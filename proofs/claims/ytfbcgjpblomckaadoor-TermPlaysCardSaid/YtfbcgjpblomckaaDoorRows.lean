/-
  NARROWER THAN 'FOR EVERY INPUT', by the rows' own cells (each row's printed sentence says how): TermKnown: laid · TermPlays: laid · TermClears: laid · TermPieces: laid.
  DERIVED. THE GIVEN ROWS OF THIS SEAT. 4 by the template 'for every input the law returns true; each argument reads behind the call as it read before'; 0 by the template 'total and deterministic' (their statements: YtfbcgjpblomckaaDoorTotals.lean).
  GIVEN WITH THE SEED: the statements are not yours to turn. If you find one false, say at which input.
  Laid BY PROGRAM, IN A SANDBOX (cutbox-rows.mjs): the forced cells as the released guide's own fill.sh prints them over the translation 9727352fbd667fa1… (all of the seat's roots in one cut). By AI agents, Wed Nov 11 2026. No macro, syntax, notation, axiom, sorry.
-/
import Derived.Test.YtfbcgjpblomckaaDoorChecked
import GoSem.Claim
import GoSem.ClaimJoined
import GoSem.ClaimMapViews
import Derived.JoinedTies
import Derived.KernelRfl
namespace Go.Proofs.YtfbcgjpblomckaaDoor
/- THE CELL 'sum', in the pinned program and in every row, IS THE sha256 OF THE DUMP (.gsa) THAT YtfbcgjpblomckaaDoorProg.lean LOADS. Nothing in Lean hashes anything: it is a label: what it is worth is what the hold of that sum in a sandbox is worth. -/
noncomputable def Tryd.pinned : Pinned := { name := "ytfbcgjpblomckaadoor", sum := "9727352fbd667fa1b5bd49183cc5509758b3f9c44aafabad491df93f1db3b297", checked := Tryd.checked }
namespace Rows
def none {H : Type} : Left H := { results := [], args := [] }

/- WHAT THE LISTED PACKAGE-LEVEL VARIABLES READ AS WHEN THE CALL BEGINS. Each datum BY PROGRAM (the guide's laid-datum.mjs) off the statement by which the dump's own 'gosem.cut.vars' lays the variable. In a bare row this is a premise. The card (YtfbcgjpblomckaaDoorCards.lean) ties it to the program's text. -/
def laid_jalousie_width_bounds {H : Type} : DataW H := .agg [.agg [.lit (.int .i32 0), .lit (.int .i32 31)], .agg [.lit (.int .i32 127), .lit (.int .i32 159)], .agg [.lit (.int .i32 768), .lit (.int .i32 879)], .agg [.lit (.int .i32 1155), .lit (.int .i32 1161)], .agg [.lit (.int .i32 1425), .lit (.int .i32 1469)], .agg [.lit (.int .i32 1552), .lit (.int .i32 1562)], .agg [.lit (.int .i32 1611), .lit (.int .i32 1631)], .agg [.lit (.int .i32 4352), .lit (.int .i32 4447)], .agg [.lit (.int .i32 8203), .lit (.int .i32 8207)], .agg [.lit (.int .i32 8400), .lit (.int .i32 8447)], .agg [.lit (.int .i32 11904), .lit (.int .i32 12350)], .agg [.lit (.int .i32 12353), .lit (.int .i32 13311)], .agg [.lit (.int .i32 13312), .lit (.int .i32 19903)], .agg [.lit (.int .i32 19968), .lit (.int .i32 40959)], .agg [.lit (.int .i32 40960), .lit (.int .i32 42191)], .agg [.lit (.int .i32 44032), .lit (.int .i32 55203)], .agg [.lit (.int .i32 63744), .lit (.int .i32 64255)], .agg [.lit (.int .i32 65024), .lit (.int .i32 65039)], .agg [.lit (.int .i32 65056), .lit (.int .i32 65071)], .agg [.lit (.int .i32 65072), .lit (.int .i32 65135)], .agg [.lit (.int .i32 65280), .lit (.int .i32 65376)], .agg [.lit (.int .i32 65504), .lit (.int .i32 65510)], .agg [.lit (.int .i32 127744), .lit (.int .i32 128591)], .agg [.lit (.int .i32 129280), .lit (.int .i32 129535)], .agg [.lit (.int .i32 131072), .lit (.int .i32 262141)], .agg [.lit (.int .i32 917760), .lit (.int .i32 917999)]]
def laid_jalousie_attr_flags {H : Type} : DataW H := .agg [.lit (.int .i64 1), .lit (.int .i64 2), .lit (.int .i64 3), .lit (.int .i64 4), .lit (.int .i64 5), .lit (.int .i64 7), .lit (.int .i64 8), .lit (.int .i64 9)]

/-- 'jalousielaw27.TermKnown': WHATEVER THE INPUT: true; the input reads as it did. -/
def termKnownSpec : ChangeSpec := { name := "termKnown", fn := fun _ => fun
  | [] => { results := [.lit (.bool true)], args := [] }
  | _ => none }
def termKnownRow : OpenClaim := { program := "ytfbcgjpblomckaadoor", sum := "9727352fbd667fa1b5bd49183cc5509758b3f9c44aafabad491df93f1db3b297", func := "jalousie/jalousielaw27.TermKnown", spec := "termKnown", named := ["jalousie/width.bounds", "jalousie/attr.flags"], apart := false, laid := [("jalousie/width.bounds", laid_jalousie_width_bounds), ("jalousie/attr.flags", laid_jalousie_attr_flags)] }
def TermKnownSaid : Prop := termKnownRow.holds Tryd.pinned (OpenSpec.ofChange termKnownSpec)

/-- ITS FALSE NEIGHBOUR: 'it returns false'. Refute it at one input. -/
def termKnownWrong : ChangeSpec := { name := "termKnown", fn := fun _ => fun
  | [] => { results := [.lit (.bool false)], args := [] }
  | _ => none }
def TermKnownWrongFalsely : Prop := termKnownRow.holds Tryd.pinned (OpenSpec.ofChange termKnownWrong)

/-- 'jalousielaw27.TermPlays': WHATEVER THE INPUT: true; the input reads as it did. -/
def termPlaysSpec : ChangeSpec := { name := "termPlays", fn := fun _ => fun
  | [d1, d2, d3] => { results := [.lit (.bool true)], args := [d1, d2, d3] }
  | _ => none }
def termPlaysRow : OpenClaim := { program := "ytfbcgjpblomckaadoor", sum := "9727352fbd667fa1b5bd49183cc5509758b3f9c44aafabad491df93f1db3b297", func := "jalousie/jalousielaw27.TermPlays", spec := "termPlays", named := ["jalousie/width.bounds", "jalousie/attr.flags"], apart := false, laid := [("jalousie/width.bounds", laid_jalousie_width_bounds), ("jalousie/attr.flags", laid_jalousie_attr_flags)] }
def TermPlaysSaid : Prop := termPlaysRow.holds Tryd.pinned (OpenSpec.ofChange termPlaysSpec)

/-- ITS FALSE NEIGHBOUR: 'it returns false'. Refute it at one input. -/
def termPlaysWrong : ChangeSpec := { name := "termPlays", fn := fun _ => fun
  | [d1, d2, d3] => { results := [.lit (.bool false)], args := [d1, d2, d3] }
  | _ => none }
def TermPlaysWrongFalsely : Prop := termPlaysRow.holds Tryd.pinned (OpenSpec.ofChange termPlaysWrong)

/-- 'jalousielaw27.TermClears': WHATEVER THE INPUT: true; the input reads as it did. -/
def termClearsSpec : ChangeSpec := { name := "termClears", fn := fun _ => fun
  | [d1, d2, d3, d4] => { results := [.lit (.bool true)], args := [d1, d2, d3, d4] }
  | _ => none }
def termClearsRow : OpenClaim := { program := "ytfbcgjpblomckaadoor", sum := "9727352fbd667fa1b5bd49183cc5509758b3f9c44aafabad491df93f1db3b297", func := "jalousie/jalousielaw27.TermClears", spec := "termClears", named := ["jalousie/width.bounds", "jalousie/attr.flags"], apart := false, laid := [("jalousie/width.bounds", laid_jalousie_width_bounds), ("jalousie/attr.flags", laid_jalousie_attr_flags)] }
def TermClearsSaid : Prop := termClearsRow.holds Tryd.pinned (OpenSpec.ofChange termClearsSpec)

/-- ITS FALSE NEIGHBOUR: 'it returns false'. Refute it at one input. -/
def termClearsWrong : ChangeSpec := { name := "termClears", fn := fun _ => fun
  | [d1, d2, d3, d4] => { results := [.lit (.bool false)], args := [d1, d2, d3, d4] }
  | _ => none }
def TermClearsWrongFalsely : Prop := termClearsRow.holds Tryd.pinned (OpenSpec.ofChange termClearsWrong)

/-- 'jalousielaw27.TermPieces': WHATEVER THE INPUT: true; the input reads as it did. -/
def termPiecesSpec : ChangeSpec := { name := "termPieces", fn := fun _ => fun
  | [d1, d2, d3, d4] => { results := [.lit (.bool true)], args := [d1, d2, d3, d4] }
  | _ => none }
def termPiecesRow : OpenClaim := { program := "ytfbcgjpblomckaadoor", sum := "9727352fbd667fa1b5bd49183cc5509758b3f9c44aafabad491df93f1db3b297", func := "jalousie/jalousielaw27.TermPieces", spec := "termPieces", named := ["jalousie/width.bounds", "jalousie/attr.flags"], apart := false, laid := [("jalousie/width.bounds", laid_jalousie_width_bounds), ("jalousie/attr.flags", laid_jalousie_attr_flags)] }
def TermPiecesSaid : Prop := termPiecesRow.holds Tryd.pinned (OpenSpec.ofChange termPiecesSpec)

/-- ITS FALSE NEIGHBOUR: 'it returns false'. Refute it at one input. -/
def termPiecesWrong : ChangeSpec := { name := "termPieces", fn := fun _ => fun
  | [d1, d2, d3, d4] => { results := [.lit (.bool false)], args := [d1, d2, d3, d4] }
  | _ => none }
def TermPiecesWrongFalsely : Prop := termPiecesRow.holds Tryd.pinned (OpenSpec.ofChange termPiecesWrong)

/- THE SECOND FORM. 'bulk': how many values and letters a reading holds, each counted each time it is reached (what is shared counts as often as it is met; a slice's spare places count too). A statement '..UptoSaid' is the law's where the arguments, and the package variables that the reading takes, are together of bulk at most 1048576: NARROWER than '..Said'. Prove '..Said' where nothing that the law and all that it calls make is longer than what came in: it says more and counts as full. Else prove '..UptoSaid'. A law counts once. -/
mutual
def uptoBulk {H : Type} : DataW H → Nat
  | .lit (.string bytes) => bytes.length + 1
  | .lit _ => 1
  | .nil => 1
  | .ptr d => uptoBulk d + 1
  | .slice elems spare => uptoBulkAll elems + uptoBulkAll spare + 1
  | .agg parts => uptoBulkAll parts + 1
  | .iface _ d => uptoBulk d + 1
  | .map entries => uptoBulkEntries entries + 1
  | .held _ => 1
def uptoBulkAll {H : Type} : List (DataW H) → Nat
  | [] => 0
  | d :: r => uptoBulk d + uptoBulkAll r
def uptoBulkEntries {H : Type} : List (Lit × DataW H) → Nat
  | [] => 0
  | x :: r => uptoBulkEntry x + uptoBulkEntries r
def uptoBulkEntry {H : Type} : Lit × DataW H → Nat
  | (.string bytes, d) => bytes.length + uptoBulk d + 1
  | (_, d) => uptoBulk d + 1
 end
def uptoSmall : (H : Type) → List (DataW H) → Bool := fun _ ds => decide (uptoBulkAll ds ≤ 1048576)
def OpenSpec.upto (s : _root_.Go.ChangeSpec) : _root_.Go.OpenSpec := { _root_.Go.OpenSpec.ofChange s with cond := some uptoSmall }

/-- 'jalousielaw27.TermKnown', WHERE WHAT IT READS IS OF BULK AT MOST 1048576: true; the input reads as it did. -/
def termKnownUptoRow : OpenClaim := { program := "ytfbcgjpblomckaadoor", sum := "9727352fbd667fa1b5bd49183cc5509758b3f9c44aafabad491df93f1db3b297", func := "jalousie/jalousielaw27.TermKnown", spec := "termKnown", named := ["jalousie/width.bounds", "jalousie/attr.flags"], apart := false, laid := [("jalousie/width.bounds", laid_jalousie_width_bounds), ("jalousie/attr.flags", laid_jalousie_attr_flags)], narrowed := true }
def TermKnownUptoSaid : Prop := termKnownUptoRow.holds Tryd.pinned (OpenSpec.upto termKnownSpec)

/-- 'jalousielaw27.TermPlays', WHERE WHAT IT READS IS OF BULK AT MOST 1048576: true; the input reads as it did. -/
def termPlaysUptoRow : OpenClaim := { program := "ytfbcgjpblomckaadoor", sum := "9727352fbd667fa1b5bd49183cc5509758b3f9c44aafabad491df93f1db3b297", func := "jalousie/jalousielaw27.TermPlays", spec := "termPlays", named := ["jalousie/width.bounds", "jalousie/attr.flags"], apart := false, laid := [("jalousie/width.bounds", laid_jalousie_width_bounds), ("jalousie/attr.flags", laid_jalousie_attr_flags)], narrowed := true }
def TermPlaysUptoSaid : Prop := termPlaysUptoRow.holds Tryd.pinned (OpenSpec.upto termPlaysSpec)

/-- 'jalousielaw27.TermClears', WHERE WHAT IT READS IS OF BULK AT MOST 1048576: true; the input reads as it did. -/
def termClearsUptoRow : OpenClaim := { program := "ytfbcgjpblomckaadoor", sum := "9727352fbd667fa1b5bd49183cc5509758b3f9c44aafabad491df93f1db3b297", func := "jalousie/jalousielaw27.TermClears", spec := "termClears", named := ["jalousie/width.bounds", "jalousie/attr.flags"], apart := false, laid := [("jalousie/width.bounds", laid_jalousie_width_bounds), ("jalousie/attr.flags", laid_jalousie_attr_flags)], narrowed := true }
def TermClearsUptoSaid : Prop := termClearsUptoRow.holds Tryd.pinned (OpenSpec.upto termClearsSpec)

/-- 'jalousielaw27.TermPieces', WHERE WHAT IT READS IS OF BULK AT MOST 1048576: true; the input reads as it did. -/
def termPiecesUptoRow : OpenClaim := { program := "ytfbcgjpblomckaadoor", sum := "9727352fbd667fa1b5bd49183cc5509758b3f9c44aafabad491df93f1db3b297", func := "jalousie/jalousielaw27.TermPieces", spec := "termPieces", named := ["jalousie/width.bounds", "jalousie/attr.flags"], apart := false, laid := [("jalousie/width.bounds", laid_jalousie_width_bounds), ("jalousie/attr.flags", laid_jalousie_attr_flags)], narrowed := true }
def TermPiecesUptoSaid : Prop := termPiecesUptoRow.holds Tryd.pinned (OpenSpec.upto termPiecesSpec)

end Rows
end Go.Proofs.YtfbcgjpblomckaaDoor
