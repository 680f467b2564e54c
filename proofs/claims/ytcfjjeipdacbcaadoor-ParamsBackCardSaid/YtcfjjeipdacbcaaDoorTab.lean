/-
  The functions in a list.
-/
import Derived.Test.YtcfjjeipdacbcaaDoorCode
import Derived.Test.YtcfjjeipdacbcaaDoorAmTab
namespace Go.Proofs.YtcfjjeipdacbcaaDoor.AM
open Go
def tblL : List (Nat × AFunc) := [(3, A3), (10, A10), (11, A11), (12, A12), (13, A13), (14, A14), (24, A24), (25, A25), (26, A26), (27, A27), (28, A28), (46, A46), (47, A47), (58, A58), (59, A59), (60, A60), (77, A77), (78, A78), (79, A79)]
theorem tblL_ok : AllFns [1, 2, 3] tblL := ⟨fn3, fn10, fn11, fn12, fn13, fn14, fn24, fn25, fn26, fn27, fn28, fn46, fn47, fn58, fn59, fn60, fn77, fn78, fn79, trivial⟩
end Go.Proofs.YtcfjjeipdacbcaaDoor.AM
