/-
  The program as the abstract machine has it.
-/
import Derived.Test.YteockjhckmlclaaAmSim
import Derived.Test.YteockjhckmlclaaProg
set_option linter.unusedVariables false
namespace Go.Proofs.Yteockjhckmlclaa.AM
open Go

/-- The program's functions, compiled; beside them those that are known by their answer. -/
noncomputable def Q1 (gl : List Nat) (orc : FuncId → List AV → Option AV) : Prog := { fns := fun f => (Try.prog.funcs[f]?).bind (cfunc Try.prog gl), orc := orc }
noncomputable abbrev Q0 (gl : List Nat) : Prog := Q1 gl (fun _ _ => none)
theorem mix : Try.prog.follows .mixedOrders = true := by kernel_rfl
theorem ok1 (gl : List Nat) {orc : FuncId → List AV → Option AV} (h : ∀ f args v, orc f args = some v → OrcOK Try.prog f args v) : ProgOK Try.prog gl (Q1 gl orc) :=
  ⟨fun f F hF => by
    simp only [Q1, Option.bind_eq_some_iff] at hF
    obtain ⟨fn, h1, h2⟩ := hF
    exact ⟨fn, h1, h2⟩, h⟩
theorem ok0 (gl : List Nat) : ProgOK Try.prog gl (Q0 gl) := ok1 gl (fun f args v h => by cases h)
end Go.Proofs.Yteockjhckmlclaa.AM
