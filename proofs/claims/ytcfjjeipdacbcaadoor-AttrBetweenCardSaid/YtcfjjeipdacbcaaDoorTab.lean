/-
  The functions in a list.
-/
import Derived.Test.YtcfjjeipdacbcaaDoorCode
import Derived.Test.YtcfjjeipdacbcaaDoorAmTab
namespace Go.Proofs.YtcfjjeipdacbcaaDoor.AM
open Go
def tblL : List (Nat × AFunc) := [(4, A4), (5, A5), (6, A6), (7, A7), (8, A8), (11, A11), (15, A15), (16, A16), (17, A17), (18, A18), (19, A19), (20, A20), (21, A21), (22, A22), (26, A26), (29, A29), (30, A30), (31, A31), (32, A32), (33, A33), (34, A34), (35, A35), (36, A36), (37, A37), (38, A38), (39, A39), (40, A40), (41, A41), (46, A46), (48, A48), (50, A50), (58, A58), (59, A59), (60, A60), (77, A77), (78, A78), (79, A79)]
theorem tblL_ok : AllFns [0, 1, 2, 3] tblL := ⟨fn4, fn5, fn6, fn7, fn8, fn11, fn15, fn16, fn17, fn18, fn19, fn20, fn21, fn22, fn26, fn29, fn30, fn31, fn32, fn33, fn34, fn35, fn36, fn37, fn38, fn39, fn40, fn41, fn46, fn48, fn50, fn58, fn59, fn60, fn77, fn78, fn79, trivial⟩
end Go.Proofs.YtcfjjeipdacbcaaDoor.AM
