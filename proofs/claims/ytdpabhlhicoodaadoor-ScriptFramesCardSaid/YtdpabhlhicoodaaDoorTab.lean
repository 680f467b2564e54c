/-
  The functions in a list.
-/
import Derived.Test.YtdpabhlhicoodaaDoorCode
import Derived.Test.YtdpabhlhicoodaaDoorAmTab
namespace Go.Proofs.YtdpabhlhicoodaaDoor.AM
open Go
def tblL : List (Nat × AFunc) := [(3, A3), (4, A4), (5, A5), (6, A6), (7, A7), (8, A8), (9, A9), (10, A10), (11, A11), (12, A12), (13, A13)]
theorem tblL_ok : AllFns [] tblL := ⟨fn3, fn4, fn5, fn6, fn7, fn8, fn9, fn10, fn11, fn12, fn13, trivial⟩
end Go.Proofs.YtdpabhlhicoodaaDoor.AM
