/-
  The functions in a list.
-/
import Derived.Test.YtdokbjneohnoeaaGreatDoorCode
import Derived.Test.YtdokbjneohnoeaaGreatDoorAmTab
namespace Go.Proofs.YtdokbjneohnoeaaGreatDoor.AM
open Go
def tblL : List (Nat × AFunc) := [(3, A3), (4, A4), (5, A5), (7, A7), (8, A8), (9, A9), (10, A10), (11, A11), (12, A12), (13, A13), (14, A14), (15, A15), (16, A16), (17, A17), (18, A18), (19, A19), (20, A20), (21, A21), (22, A22), (23, A23), (24, A24), (25, A25), (26, A26), (27, A27), (28, A28), (29, A29), (30, A30), (31, A31), (32, A32), (33, A33), (34, A34), (35, A35), (37, A37), (38, A38), (39, A39), (40, A40), (44, A44), (45, A45), (46, A46), (47, A47), (48, A48), (50, A50), (51, A51), (52, A52), (53, A53), (55, A55), (59, A59), (61, A61), (62, A62), (64, A64), (65, A65), (68, A68), (83, A83), (84, A84), (86, A86), (87, A87), (88, A88), (90, A90), (91, A91), (93, A93), (105, A105), (115, A115), (122, A122), (123, A123), (124, A124), (131, A131), (132, A132), (138, A138)]
theorem tblL_ok : AllFns [999999, 1000042] tblL := ⟨fn3, fn4, fn5, fn7, fn8, fn9, fn10, fn11, fn12, fn13, fn14, fn15, fn16, fn17, fn18, fn19, fn20, fn21, fn22, fn23, fn24, fn25, fn26, fn27, fn28, fn29, fn30, fn31, fn32, fn33, fn34, fn35, fn37, fn38, fn39, fn40, fn44, fn45, fn46, fn47, fn48, fn50, fn51, fn52, fn53, fn55, fn59, fn61, fn62, fn64, fn65, fn68, fn83, fn84, fn86, fn87, fn88, fn90, fn91, fn93, fn105, fn115, fn122, fn123, fn124, fn131, fn132, fn138, trivial⟩
end Go.Proofs.YtdokbjneohnoeaaGreatDoor.AM
