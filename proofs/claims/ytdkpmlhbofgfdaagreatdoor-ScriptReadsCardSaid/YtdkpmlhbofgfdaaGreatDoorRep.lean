/-
  Nothing is known by its answer alone.
-/
import Derived.Test.YtdkpmlhbofgfdaaGreatDoorSim0
set_option linter.unusedVariables false
namespace Go.Proofs.YtdkpmlhbofgfdaaGreatDoor.AM
open Go Go.RowKit
def orcR (f : FuncId) (args : List AV) : Option AV := none
theorem orcR_ok {T : List Tb} (f : FuncId) (args : List AV) (v : AV) (h : orcR f args = some v) : OrcOK Tryz.prog T f args v := by cases h
end Go.Proofs.YtdkpmlhbofgfdaaGreatDoor.AM
