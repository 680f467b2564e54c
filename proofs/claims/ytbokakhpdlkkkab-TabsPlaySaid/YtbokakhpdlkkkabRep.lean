/-
  Nothing is known by its answer alone.
-/
import Derived.Test.YtbokakhpdlkkkabSim0
set_option linter.unusedVariables false
namespace Go.Proofs.Ytbokakhpdlkkkab.AM
open Go Go.RowKit
def orcR (f : FuncId) (args : List AV) : Option AV := none
theorem orcR_ok (f : FuncId) (args : List AV) (v : AV) (h : orcR f args = some v) : OrcOK Try.prog f args v := by cases h
end Go.Proofs.Ytbokakhpdlkkkab.AM
