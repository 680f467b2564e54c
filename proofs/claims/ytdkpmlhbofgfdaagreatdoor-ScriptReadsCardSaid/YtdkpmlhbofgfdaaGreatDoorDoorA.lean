/-
  The program's tables of numbers, as a row's condition lays them.
-/
import Derived.Test.YtdkpmlhbofgfdaaGreatDoorRows
import Derived.Test.YtdkpmlhbofgfdaaGreatDoorAmRowG
import Derived.Test.YtdkpmlhbofgfdaaGreatDoorSim0
import Derived.ProofKit
import Derived.Lib.LaidTab
import Derived.MakeChecks
set_option linter.unusedVariables false
set_option linter.unusedSimpArgs false
namespace Go.Proofs.YtdkpmlhbofgfdaaGreatDoor.AM
open Go Go.RowKit
theorem tabW_one {P : Program} {W : World} {name : String} {k : IntKind} {zs : List Int} {g : Nat} (h : Lib.TabIs P W name k zs) (hg : P.globalNamed name = some g) (i : Nat) (v : AV) (hv : (Tb.cs ⟨g, k, zs⟩)[i]? = some v) : ∃ c, W.cell? ⟨g, i, none⟩ = some c ∧ VR noInj v c := by
  simp only [Tb.cs, List.getElem?_map] at hv
  cases hz : zs[i]? with
  | none => rw [hz] at hv; cases hv
  | some z =>
    rw [hz] at hv
    obtain rfl := Option.some.inj hv
    refine ⟨_, h.cell hg i (List.getElem?_eq_some_iff.1 hz).1, ?_⟩
    rw [List.getD_eq_getElem?_getD, hz]
    exact VR.int _ _
theorem hasTabs_sub {N : Nat} {T : List Tb} (ok : TOk N T) {H : AHeap} (h : (tabH N T).sub H) : hasTabs H T = true := by
  refine List.all_eq_true.2 fun t ht => ?_
  rw [h _ _ (tab_at N ok.nd ht)]
  simp only [Bool.true_and]
  exact sameL_refl _ _
/-- a table at the head of a list of what is laid, and the rest -/
theorem vars_tab {P : Program} {W : World} {name : String} {k : IntKind} {zs : List Int} {rest : List (String × DataW Unit)} {g : Nat} {t e : TypeId} {n : Nat} {ps : List MemPlace}
    (hg : P.globalNamed name = some g) (hty : (P.globals[g]?).map (·.type) = some t) (ht : P.underlying t = some (.array n e)) (he : P.underlying e = some (.int k)) (hce : P.cellsOf e = 1) (hct : P.cellsOf t = n)
    (h : DataW.LaidVars P W ((name, Lib.tabData k zs) :: rest) ps) : Lib.TabIs P W name k zs ∧ ∃ q, DataW.LaidVars P W rest q := by
  obtain ⟨g', t', cs, fuel, p, q, hg', ht', hvar, hd, hr, _⟩ := h
  obtain rfl := Option.some.inj (hg.symm.trans hg')
  obtain rfl := Option.some.inj (hty.symm.trans ht')
  refine ⟨?_, q, hr⟩
  unfold Lib.TabIs
  rw [hvar, ← Lib.cells_of_tab ht he hce hct hd]
theorem vars_of {P : Program} {laid : List (String × DataW Unit)} {W : World} (hp : (laid.all fun x => x.2.handleName?.isNone) = true) (h : laidMetH P laid W) : ∃ ps, DataW.LaidVars P W laid ps := by
  rw [MakeChecks.laidMetH_plain _ _ _ hp] at h
  obtain ⟨ps, h1, _⟩ := h
  exact ⟨ps, h1⟩
end Go.Proofs.YtdkpmlhbofgfdaaGreatDoor.AM
