/-
  The functions in a list.
-/
import Derived.Test.YteockjhckmlclaaCode
import Derived.Test.YteockjhckmlclaaAmTab
namespace Go.Proofs.Yteockjhckmlclaa.AM
open Go
def tblL : List (Nat × AFunc) := [(4, A4), (11, A11), (12, A12), (13, A13), (14, A14), (15, A15), (16, A16), (19, A19), (22, A22), (25, A25), (26, A26), (27, A27), (28, A28), (29, A29), (30, A30), (31, A31), (32, A32), (33, A33), (40, A40), (41, A41), (48, A48), (49, A49), (50, A50), (51, A51), (52, A52), (53, A53), (54, A54), (55, A55), (56, A56), (57, A57), (58, A58), (59, A59), (68, A68), (69, A69), (70, A70), (74, A74)]
theorem tblL_ok : AllFns [1999999] tblL := ⟨fn4, fn11, fn12, fn13, fn14, fn15, fn16, fn19, fn22, fn25, fn26, fn27, fn28, fn29, fn30, fn31, fn32, fn33, fn40, fn41, fn48, fn49, fn50, fn51, fn52, fn53, fn54, fn55, fn56, fn57, fn58, fn59, fn68, fn69, fn70, fn74, trivial⟩
end Go.Proofs.Yteockjhckmlclaa.AM
