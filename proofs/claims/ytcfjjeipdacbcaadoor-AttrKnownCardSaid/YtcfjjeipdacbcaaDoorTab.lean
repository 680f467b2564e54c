/-
  The functions in a list.
-/
import Derived.Test.YtcfjjeipdacbcaaDoorCode
import Derived.Test.YtcfjjeipdacbcaaDoorAmTab
namespace Go.Proofs.YtcfjjeipdacbcaaDoor.AM
open Go
def tblL : List (Nat × AFunc) := [(4, A4), (11, A11), (15, A15), (16, A16), (17, A17), (18, A18), (26, A26), (29, A29), (30, A30), (31, A31), (32, A32), (33, A33), (34, A34), (46, A46), (48, A48), (58, A58)]
theorem tblL_ok : AllFns [0, 1, 2, 3] tblL := ⟨fn4, fn11, fn15, fn16, fn17, fn18, fn26, fn29, fn30, fn31, fn32, fn33, fn34, fn46, fn48, fn58, trivial⟩
end Go.Proofs.YtcfjjeipdacbcaaDoor.AM
