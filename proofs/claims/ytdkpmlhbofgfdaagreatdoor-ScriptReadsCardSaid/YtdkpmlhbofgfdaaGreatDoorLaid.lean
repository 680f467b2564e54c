/-
  The table that the rows of the layer of scripts list.
-/
import Derived.Test.YtdkpmlhbofgfdaaGreatDoorDoorA
set_option linter.unusedVariables false
set_option linter.unusedSimpArgs false
namespace Go.Proofs.YtdkpmlhbofgfdaaGreatDoor.AM
open Go Go.RowKit
theorem vars_skip {P : Program} {W : World} {name : String} {d : DataW Unit} {rest : List (String × DataW Unit)} {ps : List MemPlace} (h : DataW.LaidVars P W ((name, d) :: rest) ps) : ∃ q, DataW.LaidVars P W rest q := by
  obtain ⟨_, _, _, _, _, q, _, _, _, _, hr, _⟩ := h
  exact ⟨q, hr⟩
def zp10 : List Int := [1, 10, 100, 1000, 10000, 100000, 1000000, 10000000, 100000000, 1000000000, 10000000000, 100000000000, 1000000000000, 10000000000000, 100000000000000, 1000000000000000, 10000000000000000, 100000000000000000, 1000000000000000000, 10000000000000000000]
def TT : List Tb := [⟨0, .u64, zp10⟩]
theorem tok : TOk 1 TT := ⟨by decide, by decide, by decide⟩
theorem laidTT {W : World} (h : laidMetH Tryz.prog Rows.scriptReadsRow.laid W) : TabW TT W := by
  obtain ⟨ps, h⟩ := vars_of (by kernel_rfl) h
  obtain ⟨_, h⟩ := vars_skip h
  obtain ⟨_, h⟩ := vars_skip h
  obtain ⟨t2, p2, h⟩ := vars_tab (zs := zp10) (g := 0) (by kernel_rfl) (by kernel_rfl) Tryz.underlying124 Tryz.underlying112 (by kernel_rfl) (by kernel_rfl) h
  intro t ht i v hv
  simp only [TT, List.mem_cons, List.not_mem_nil, or_false] at ht
  subst ht
  exact tabW_one t2 (by kernel_rfl) i v hv
end Go.Proofs.YtdkpmlhbofgfdaaGreatDoor.AM
