/-
  No table is looked at.
-/
import Derived.Test.YtdpabhlhicoodaaDoorDoorA
set_option linter.unusedVariables false
set_option linter.unusedSimpArgs false
namespace Go.Proofs.YtdpabhlhicoodaaDoor.AM
open Go Go.RowKit
def T0 : List Tb := []
theorem tok0 : TOk 0 T0 := ⟨by decide, by decide, by decide⟩
theorem laidT0 {W : World} (h : laidMetH Tryd.prog Rows.scriptFramesRow.laid W) : TabW T0 W := fun t ht => by simp [T0] at ht
end Go.Proofs.YtdpabhlhicoodaaDoor.AM
