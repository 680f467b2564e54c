/-
  No table is looked at.
-/
import Derived.Test.YtdokbjneohnoeaaGreatDoorDoorA
set_option linter.unusedVariables false
set_option linter.unusedSimpArgs false
namespace Go.Proofs.YtdokbjneohnoeaaGreatDoor.AM
open Go Go.RowKit
def T0 : List Tb := []
theorem tok0 : TOk 0 T0 := ⟨by decide, by decide, by decide⟩
theorem laidT0 {W : World} (h : laidMetH Tryz.prog Rows.queryTextsRow.laid W) : TabW T0 W := fun t ht => by simp [T0] at ht
end Go.Proofs.YtdokbjneohnoeaaGreatDoor.AM
