/-
  The tables that the rows of the layer of attributes list, and the parameters' row.
-/
import Derived.Test.YtcfjjeipdacbcaaDoorDoorA
set_option linter.unusedVariables false
set_option linter.unusedSimpArgs false
namespace Go.Proofs.YtcfjjeipdacbcaaDoor.AM
open Go Go.RowKit
def zb32 : List Int := [0, 1, 28, 2, 29, 14, 24, 3, 30, 22, 20, 15, 25, 17, 4, 8, 31, 27, 13, 23, 21, 19, 16, 7, 26, 12, 18, 6, 11, 5, 10, 9]
def zb64 : List Int := [0, 1, 56, 2, 57, 49, 28, 3, 61, 58, 42, 50, 38, 29, 17, 4, 62, 47, 59, 36, 45, 43, 51, 22, 53, 39, 33, 30, 24, 18, 12, 5, 63, 55, 48, 27, 60, 41, 37, 16, 46, 35, 44, 21, 52, 32, 23, 11, 54, 26, 40, 15, 34, 20, 31, 10, 25, 14, 19, 9, 13, 8, 7, 6]
def zp10 : List Int := [1, 10, 100, 1000, 10000, 100000, 1000000, 10000000, 100000000, 1000000000, 10000000000, 100000000000, 1000000000000, 10000000000000, 100000000000000, 1000000000000000, 10000000000000000, 100000000000000000, 1000000000000000000, 10000000000000000000]
def zflags : List Int := [1, 2, 3, 4, 5, 7, 8, 9]
def TT : List Tb := [⟨0, .i64, zflags⟩, ⟨1, .u64, zp10⟩, ⟨2, .u8, zb32⟩, ⟨3, .u8, zb64⟩]
theorem tok : TOk 4 TT := ⟨by decide, by decide, by decide⟩
theorem laidTT {W : World} (h : laidMetH Tryd.prog Rows.attrKnownRow.laid W) : TabW TT W := by
  obtain ⟨ps, h⟩ := vars_of (by kernel_rfl) h
  obtain ⟨t2, p2, h⟩ := vars_tab (zs := zb32) (g := 2) (by kernel_rfl) (by kernel_rfl) Tryd.underlying138 Tryd.underlying5 (by kernel_rfl) (by kernel_rfl) h
  obtain ⟨t3, p3, h⟩ := vars_tab (zs := zb64) (g := 3) (by kernel_rfl) (by kernel_rfl) Tryd.underlying139 Tryd.underlying5 (by kernel_rfl) (by kernel_rfl) h
  obtain ⟨t1, p1, h⟩ := vars_tab (zs := zp10) (g := 1) (by kernel_rfl) (by kernel_rfl) Tryd.underlying127 Tryd.underlying99 (by kernel_rfl) (by kernel_rfl) h
  obtain ⟨t0, p0, h⟩ := vars_tab (zs := zflags) (g := 0) (by kernel_rfl) (by kernel_rfl) Tryd.underlying63 Tryd.underlying3 (by kernel_rfl) (by kernel_rfl) h
  intro t ht i v hv
  simp only [TT, List.mem_cons, List.not_mem_nil, or_false] at ht
  rcases ht with rfl | rfl | rfl | rfl
  · exact tabW_one t0 (by kernel_rfl) i v hv
  · exact tabW_one t1 (by kernel_rfl) i v hv
  · exact tabW_one t2 (by kernel_rfl) i v hv
  · exact tabW_one t3 (by kernel_rfl) i v hv
def TP : List Tb := [⟨1, .u64, zp10⟩, ⟨2, .u8, zb32⟩, ⟨3, .u8, zb64⟩]
theorem tokP : TOk 4 TP := ⟨by decide, by decide, by decide⟩
theorem laidTP {W : World} (h : laidMetH Tryd.prog Rows.paramsBackRow.laid W) : TabW TP W := by
  obtain ⟨ps, h⟩ := vars_of (by kernel_rfl) h
  obtain ⟨t2, p2, h⟩ := vars_tab (zs := zb32) (g := 2) (by kernel_rfl) (by kernel_rfl) Tryd.underlying138 Tryd.underlying5 (by kernel_rfl) (by kernel_rfl) h
  obtain ⟨t3, p3, h⟩ := vars_tab (zs := zb64) (g := 3) (by kernel_rfl) (by kernel_rfl) Tryd.underlying139 Tryd.underlying5 (by kernel_rfl) (by kernel_rfl) h
  obtain ⟨t1, p1, h⟩ := vars_tab (zs := zp10) (g := 1) (by kernel_rfl) (by kernel_rfl) Tryd.underlying127 Tryd.underlying99 (by kernel_rfl) (by kernel_rfl) h
  intro t ht i v hv
  simp only [TP, List.mem_cons, List.not_mem_nil, or_false] at ht
  rcases ht with rfl | rfl | rfl
  · exact tabW_one t1 (by kernel_rfl) i v hv
  · exact tabW_one t2 (by kernel_rfl) i v hv
  · exact tabW_one t3 (by kernel_rfl) i v hv
end Go.Proofs.YtcfjjeipdacbcaaDoor.AM
