/-
  The functions in a list.
-/
import Derived.Test.YtdkpmlhbofgfdaaGreatDoorCode
import Derived.Test.YtdkpmlhbofgfdaaGreatDoorAmTab
namespace Go.Proofs.YtdkpmlhbofgfdaaGreatDoor.AM
open Go
def tblL : List (Nat × AFunc) := [(3, A3), (4, A4), (5, A5), (6, A6), (7, A7), (8, A8), (9, A9), (10, A10), (11, A11), (12, A12), (13, A13), (14, A14), (15, A15), (16, A16), (17, A17), (18, A18), (19, A19), (20, A20), (21, A21), (22, A22), (23, A23), (24, A24), (25, A25), (26, A26), (27, A27), (28, A28), (29, A29), (30, A30), (31, A31), (32, A32), (33, A33), (34, A34), (35, A35), (36, A36), (37, A37), (38, A38), (39, A39), (41, A41), (42, A42), (43, A43), (44, A44), (48, A48), (49, A49), (50, A50), (51, A51), (52, A52), (53, A53), (54, A54), (55, A55), (61, A61), (62, A62), (63, A63), (64, A64), (65, A65), (66, A66), (67, A67), (78, A78), (79, A79), (80, A80), (90, A90), (93, A93), (94, A94)]
theorem tblL_ok : AllFns [0, 1999999] tblL := ⟨fn3, fn4, fn5, fn6, fn7, fn8, fn9, fn10, fn11, fn12, fn13, fn14, fn15, fn16, fn17, fn18, fn19, fn20, fn21, fn22, fn23, fn24, fn25, fn26, fn27, fn28, fn29, fn30, fn31, fn32, fn33, fn34, fn35, fn36, fn37, fn38, fn39, fn41, fn42, fn43, fn44, fn48, fn49, fn50, fn51, fn52, fn53, fn54, fn55, fn61, fn62, fn63, fn64, fn65, fn66, fn67, fn78, fn79, fn80, fn90, fn93, fn94, trivial⟩
end Go.Proofs.YtdkpmlhbofgfdaaGreatDoor.AM
