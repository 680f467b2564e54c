/-
  The tables that the rows of the layer of painting list.
-/
import Derived.Test.YtfcnjfbnffijhaaDoorDoorB
set_option linter.unusedVariables false
set_option linter.unusedSimpArgs false
namespace Go.Proofs.YtfcnjfbnffijhaaDoor.AM
open Go Go.RowKit
def pbounds : List (List Int) := [[0, 31], [127, 159], [768, 879], [1155, 1161], [1425, 1469], [1552, 1562], [1611, 1631], [4352, 4447], [8203, 8207], [8400, 8447], [11904, 12350], [12353, 13311], [13312, 19903], [19968, 40959], [40960, 42191], [44032, 55203], [63744, 64255], [65024, 65039], [65056, 65071], [65072, 65135], [65280, 65376], [65504, 65510], [127744, 128591], [129280, 129535], [131072, 262141], [917760, 917999]]
def zbounds : List Int := [0, 31, 127, 159, 768, 879, 1155, 1161, 1425, 1469, 1552, 1562, 1611, 1631, 4352, 4447, 8203, 8207, 8400, 8447, 11904, 12350, 12353, 13311, 13312, 19903, 19968, 40959, 40960, 42191, 44032, 55203, 63744, 64255, 65024, 65039, 65056, 65071, 65072, 65135, 65280, 65376, 65504, 65510, 127744, 128591, 129280, 129535, 131072, 262141, 917760, 917999]
def zflags : List Int := [1, 2, 3, 4, 5, 7, 8, 9]
def zp10 : List Int := [1, 10, 100, 1000, 10000, 100000, 1000000, 10000000, 100000000, 1000000000, 10000000000, 100000000000, 1000000000000, 10000000000000, 100000000000000, 1000000000000000, 10000000000000000, 100000000000000000, 1000000000000000000, 10000000000000000000]
def TT : List Tb := [⟨0, .i32, zbounds⟩, ⟨1, .i64, zflags⟩, ⟨2, .u64, zp10⟩]
theorem tok : TOk 3 TT := ⟨by decide, by decide, by decide⟩
theorem laidTT {W : World} (h : laidMetH Tryd.prog Rows.paintTellsRow.laid W) : TabW TT W := by
  obtain ⟨ps, h⟩ := vars_of (by kernel_rfl) h
  obtain ⟨t0, p0, h⟩ := vars_tab2 (zss := pbounds) (zs := zbounds) (g := 0) (by kernel_rfl) (by kernel_rfl) Tryd.underlying88 Tryd.underlying87 Tryd.underlying21 (by kernel_rfl) (by kernel_rfl) (by kernel_rfl) (by omega) (by decide) (by decide) h
  obtain ⟨_, h⟩ := vars_skip h
  obtain ⟨_, h⟩ := vars_skip h
  obtain ⟨t2, p2, h⟩ := vars_tab (zs := zp10) (g := 2) (by kernel_rfl) (by kernel_rfl) Tryd.underlying109 Tryd.underlying101 (by kernel_rfl) (by kernel_rfl) h
  obtain ⟨t1, p1, h⟩ := vars_tab (zs := zflags) (g := 1) (by kernel_rfl) (by kernel_rfl) Tryd.underlying93 Tryd.underlying3 (by kernel_rfl) (by kernel_rfl) h
  intro t ht i v hv
  simp only [TT, List.mem_cons, List.not_mem_nil, or_false] at ht
  rcases ht with rfl | rfl | rfl
  · exact tabW_one t0 (by kernel_rfl) i v hv
  · exact tabW_one t1 (by kernel_rfl) i v hv
  · exact tabW_one t2 (by kernel_rfl) i v hv
end Go.Proofs.YtfcnjfbnffijhaaDoor.AM
