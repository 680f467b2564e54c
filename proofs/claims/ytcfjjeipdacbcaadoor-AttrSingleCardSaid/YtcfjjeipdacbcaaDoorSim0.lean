/-
  The program as the abstract machine has it.
-/
import Derived.Test.YtcfjjeipdacbcaaDoorAmSim
import Derived.Test.YtcfjjeipdacbcaaDoorProg
set_option linter.unusedVariables false
namespace Go.Proofs.YtcfjjeipdacbcaaDoor.AM
open Go

/-- The program's functions, compiled; beside them those that are known by their answer. -/
noncomputable def Q1 (T : List Tb) (gl : List Nat) (orc : FuncId → List AV → Option AV) : Prog := { fns := fun f => (Tryd.prog.funcs[f]?).bind (cfunc Tryd.prog gl), orc := orc, tabs := T }
noncomputable abbrev Q0 (gl : List Nat) : Prog := Q1 [] gl (fun _ _ => none)
theorem mix : Tryd.prog.follows .mixedOrders = true := by kernel_rfl
theorem ok1 (T : List Tb) (gl : List Nat) (tg : ∀ t ∈ T, t.g ∈ gl) {orc : FuncId → List AV → Option AV} (h : ∀ f args v, orc f args = some v → OrcOK Tryd.prog T f args v) : ProgOK Tryd.prog gl (Q1 T gl orc) :=
  ⟨fun f F hF => by
    simp only [Q1, Option.bind_eq_some_iff] at hF
    obtain ⟨fn, h1, h2⟩ := hF
    exact ⟨fn, h1, h2⟩, h, tg⟩
theorem ok0 (gl : List Nat) : ProgOK Tryd.prog gl (Q0 gl) := ok1 [] gl (fun t ht => by simp at ht) (fun f args v h => by cases h)
end Go.Proofs.YtcfjjeipdacbcaaDoor.AM
