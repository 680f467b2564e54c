import Derived.Test.YtfbcgjpblomckaaDoorAmSim
import Derived.Test.YtfbcgjpblomckaaDoorProg
set_option linter.unusedVariables false
namespace Go.Proofs.YtfbcgjpblomckaaDoor.AM
open Go
noncomputable def Q1 (T : List Tb) (gl : List Nat) (orc : FuncId -> List AV -> Option AV) : Prog := { fns := fun f => (Tryd.prog.funcs[f]?).bind (cfunc Tryd.prog gl),orc := orc,tabs := T }
noncomputable abbrev Q0 (gl : List Nat) : Prog := Q1 [] gl (fun _ _ => none)
theorem mix : Tryd.prog.follows .mixedOrders = true := by kernel_rfl
theorem ok1 (T : List Tb) (gl : List Nat) (tg : ∀ t ∈ T,t.g ∈ gl /\ t.g < 999999) {orc : FuncId -> List AV -> Option AV} (h : ∀ f args v,orc f args = some v -> OrcOK Tryd.prog T f args v) : ProgOK Tryd.prog gl (Q1 T gl orc) :=
 ⟨fun f F hF => by
  simp only [Q1,Option.bind_eq_some_iff] at hF
  obtain ⟨fn,h1,h2⟩ := hF
  exact ⟨fn,h1,h2⟩,h,tg,fun _ _ _ _ h => by cases h⟩
end Go.Proofs.YtfbcgjpblomckaaDoor.AM
