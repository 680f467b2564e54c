/-
  The functions in a list.
-/
import Derived.Test.YtfbcgjpblomckaaDoorCode
import Derived.Test.YtfbcgjpblomckaaDoorAmTab
namespace Go.Proofs.YtfbcgjpblomckaaDoor.AM
open Go
def tblL : List (Nat × AFunc) := [(3, A3), (5, A5), (6, A6), (7, A7), (8, A8), (9, A9), (10, A10), (11, A11), (12, A12), (15, A15), (17, A17), (19, A19), (20, A20), (21, A21), (22, A22), (23, A23), (24, A24), (28, A28), (29, A29), (30, A30), (31, A31), (32, A32), (33, A33), (34, A34), (35, A35), (36, A36), (37, A37), (38, A38), (49, A49), (50, A50), (51, A51), (52, A52), (53, A53), (54, A54), (55, A55), (56, A56), (57, A57), (58, A58), (59, A59), (60, A60), (61, A61), (62, A62), (63, A63), (64, A64), (65, A65), (66, A66), (67, A67), (68, A68), (76, A76), (77, A77), (78, A78), (79, A79), (80, A80), (81, A81), (82, A82), (83, A83), (84, A84), (85, A85), (86, A86), (89, A89), (90, A90), (91, A91)]
theorem tblL_ok : AllFns [0, 1] tblL := ⟨fn3, fn5, fn6, fn7, fn8, fn9, fn10, fn11, fn12, fn15, fn17, fn19, fn20, fn21, fn22, fn23, fn24, fn28, fn29, fn30, fn31, fn32, fn33, fn34, fn35, fn36, fn37, fn38, fn49, fn50, fn51, fn52, fn53, fn54, fn55, fn56, fn57, fn58, fn59, fn60, fn61, fn62, fn63, fn64, fn65, fn66, fn67, fn68, fn76, fn77, fn78, fn79, fn80, fn81, fn82, fn83, fn84, fn85, fn86, fn89, fn90, fn91, trivial⟩
end Go.Proofs.YtfbcgjpblomckaaDoor.AM
