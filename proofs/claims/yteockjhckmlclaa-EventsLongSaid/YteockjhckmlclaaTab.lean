/-
  The functions in a list.
-/
import Derived.Test.YteockjhckmlclaaCode
import Derived.Test.YteockjhckmlclaaAmTab
namespace Go.Proofs.Yteockjhckmlclaa.AM
open Go
def tblL : List (Nat × AFunc) := [(5, A5), (10, A10), (11, A11), (12, A12), (13, A13), (14, A14), (15, A15), (16, A16), (17, A17), (18, A18), (19, A19), (20, A20), (21, A21), (22, A22), (23, A23), (25, A25), (26, A26), (27, A27), (28, A28), (29, A29), (30, A30), (31, A31), (32, A32), (33, A33), (34, A34), (35, A35), (36, A36), (37, A37), (38, A38), (39, A39), (40, A40), (41, A41), (48, A48), (49, A49), (50, A50), (51, A51), (52, A52), (53, A53), (54, A54), (55, A55), (56, A56), (57, A57), (58, A58), (59, A59), (60, A60), (61, A61), (62, A62), (68, A68), (69, A69), (70, A70), (71, A71), (74, A74)]
theorem tblL_ok : AllFns [] tblL := ⟨fn5, fn10, fn11, fn12, fn13, fn14, fn15, fn16, fn17, fn18, fn19, fn20, fn21, fn22, fn23, fn25, fn26, fn27, fn28, fn29, fn30, fn31, fn32, fn33, fn34, fn35, fn36, fn37, fn38, fn39, fn40, fn41, fn48, fn49, fn50, fn51, fn52, fn53, fn54, fn55, fn56, fn57, fn58, fn59, fn60, fn61, fn62, fn68, fn69, fn70, fn71, fn74, trivial⟩
end Go.Proofs.Yteockjhckmlclaa.AM
