/-
  The functions in a list.
-/
import Derived.Test.YtdkpmlhbofgfdaaDoorCode
import Derived.Test.YtdkpmlhbofgfdaaDoorAmTab
namespace Go.Proofs.YtdkpmlhbofgfdaaDoor.AM
open Go
def tblL : List (Nat × AFunc) := [(3, A3), (4, A4), (5, A5), (6, A6), (7, A7), (8, A8), (9, A9), (10, A10), (11, A11), (12, A12), (13, A13), (14, A14), (15, A15), (16, A16), (17, A17), (18, A18), (19, A19), (20, A20), (21, A21), (22, A22), (23, A23), (24, A24), (25, A25), (26, A26), (27, A27), (28, A28), (29, A29), (31, A31), (32, A32), (33, A33), (34, A34), (38, A38), (39, A39), (40, A40), (41, A41), (42, A42), (43, A43), (44, A44), (45, A45), (50, A50), (51, A51), (52, A52), (53, A53), (54, A54), (55, A55), (56, A56), (57, A57), (66, A66), (67, A67), (68, A68), (69, A69), (70, A70), (80, A80), (83, A83), (84, A84)]
theorem tblL_ok : AllFns [0, 1999999] tblL := ⟨fn3, fn4, fn5, fn6, fn7, fn8, fn9, fn10, fn11, fn12, fn13, fn14, fn15, fn16, fn17, fn18, fn19, fn20, fn21, fn22, fn23, fn24, fn25, fn26, fn27, fn28, fn29, fn31, fn32, fn33, fn34, fn38, fn39, fn40, fn41, fn42, fn43, fn44, fn45, fn50, fn51, fn52, fn53, fn54, fn55, fn56, fn57, fn66, fn67, fn68, fn69, fn70, fn80, fn83, fn84, trivial⟩
end Go.Proofs.YtdkpmlhbofgfdaaDoor.AM
