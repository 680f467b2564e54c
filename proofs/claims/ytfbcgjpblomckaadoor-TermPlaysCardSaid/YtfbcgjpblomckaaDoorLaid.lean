import Derived.Test.YtfbcgjpblomckaaDoorDoorB
set_option linter.unusedVariables false
set_option linter.unusedSimpArgs false
namespace Go.Proofs.YtfbcgjpblomckaaDoor.AM
open Go Go.RowKit
def pbounds : List (List Int) := [[0,31],[127,159],[768,879],[1155,1161],[1425,1469],[1552,1562],[1611,1631],[4352,4447],[8203,8207],[8400,8447],[11904,12350],[12353,13311],[13312,19903],[19968,40959],[40960,42191],[44032,55203],[63744,64255],[65024,65039],[65056,65071],[65072,65135],[65280,65376],[65504,65510],[127744,128591],[129280,129535],[131072,262141],[917760,917999]]
def zbounds : List Int := [0,31,127,159,768,879,1155,1161,1425,1469,1552,1562,1611,1631,4352,4447,8203,8207,8400,8447,11904,12350,12353,13311,13312,19903,19968,40959,40960,42191,44032,55203,63744,64255,65024,65039,65056,65071,65072,65135,65280,65376,65504,65510,127744,128591,129280,129535,131072,262141,917760,917999]
def zflags : List Int := [1,2,3,4,5,7,8,9]
def TT : List Tb := [⟨0,.i32,zbounds⟩,⟨1,.i64,zflags⟩]
theorem tok : TOk 2 TT := ⟨by decide,by decide,by decide⟩
theorem laidTT {W : World} (h : laidMetH Tryd.prog Rows.termPlaysRow.laid W) : TabW TT W := by
 obtain ⟨ps,h⟩ := vars_of (by kernel_rfl) h
 obtain ⟨t0,p0,h⟩ := vars_tab2 (zss := pbounds) (zs := zbounds) (g := 0) (by kernel_rfl) (by kernel_rfl) Tryd.underlying130 Tryd.underlying104 Tryd.underlying21 (by kernel_rfl) (by kernel_rfl) (by kernel_rfl) (by omega) (by decide) (by decide) h
 obtain ⟨t1,p1,h⟩ := vars_tab (zs := zflags) (g := 1) (by kernel_rfl) (by kernel_rfl) Tryd.underlying149 Tryd.underlying3 (by kernel_rfl) (by kernel_rfl) h
 intro t ht i v hv
 simp only [TT,List.mem_cons,List.not_mem_nil,or_false] at ht
 rcases ht with rfl | rfl
 ·exact tabW_one t0 (by kernel_rfl) i v hv
 ·exact tabW_one t1 (by kernel_rfl) i v hv
end Go.Proofs.YtfbcgjpblomckaaDoor.AM
