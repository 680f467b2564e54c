/-
  The program as the abstract machine has it.
-/
import Derived.Test.YtdkpmlhbofgfdaaGreatDoorAmSim
import Derived.Test.YtdkpmlhbofgfdaaGreatDoorProg
set_option linter.unusedVariables false
namespace Go.Proofs.YtdkpmlhbofgfdaaGreatDoor.AM
open Go

/-- The program's functions, compiled; beside them those that are known by their answer. -/
noncomputable def Q1 (T : List Tb) (gl : List Nat) (orc : FuncId → List AV → Option AV) : Prog := { fns := fun f => (Tryz.prog.funcs[f]?).bind (cfunc Tryz.prog gl), orc := orc, tabs := T }
noncomputable abbrev Q0 (gl : List Nat) : Prog := Q1 [] gl (fun _ _ => none)
theorem mix : Tryz.prog.follows .mixedOrders = true := by kernel_rfl
theorem ok1 (T : List Tb) (gl : List Nat) (tg : ∀ t ∈ T, t.g ∈ gl ∧ t.g < 999999) {orc : FuncId → List AV → Option AV} (h : ∀ f args v, orc f args = some v → OrcOK Tryz.prog T f args v) : ProgOK Tryz.prog gl (Q1 T gl orc) :=
  ⟨fun f F hF => by
    simp only [Q1, Option.bind_eq_some_iff] at hF
    obtain ⟨fn, h1, h2⟩ := hF
    exact ⟨fn, h1, h2⟩, h, tg, fun _ _ _ _ h => by cases h⟩
/-- The same, but for a function that is known by what it answers of memory. -/
noncomputable def QH (T : List Tb) (gl : List Nat) (orc : FuncId → List AV → Option AV) (j : Nat) (orh : List AV → AHeap → Option AV) : Prog :=
  { fns := fun f => bif Nat.beq f j then none else (Tryz.prog.funcs[f]?).bind (cfunc Tryz.prog gl), orc := orc, tabs := T, orh := fun f args H => bif Nat.beq f j then orh args H else none }
theorem okH (T : List Tb) (gl : List Nat) (tg : ∀ t ∈ T, t.g ∈ gl ∧ t.g < 999999) {orc : FuncId → List AV → Option AV} {j : Nat} {orh : List AV → AHeap → Option AV} (h : ∀ f args v, orc f args = some v → OrcOK Tryz.prog T f args v) (h' : ∀ args H v, orh args H = some v → OrhOK Tryz.prog gl j args H v) : ProgOK Tryz.prog gl (QH T gl orc j orh) :=
  ⟨fun f F hF => by
    simp only [QH] at hF
    cases hj : Nat.beq f j with
    | true => rw [hj] at hF; cases hF
    | false =>
      rw [hj] at hF
      simp only [cond_false, Option.bind_eq_some_iff] at hF
      obtain ⟨fn, h1, h2⟩ := hF
      exact ⟨fn, h1, h2⟩, h, tg, fun f args H v hv => by
    simp only [QH] at hv
    cases hj : Nat.beq f j with
    | false => rw [hj] at hv; cases hv
    | true =>
      obtain rfl := Nat.eq_of_beq_eq_true hj
      rw [hj] at hv
      exact h' args H v hv⟩
theorem QH_fns {T : List Tb} {gl : List Nat} {orc : FuncId → List AV → Option AV} {j : Nat} {orh : List AV → AHeap → Option AV} {f : Nat} (h : Nat.beq f j = false) : (QH T gl orc j orh).fns f = (Q1 [] gl (fun _ _ => none)).fns f := by
  simp only [QH, Q1, h, cond_false]
theorem ok0 (gl : List Nat) : ProgOK Tryz.prog gl (Q0 gl) := ok1 [] gl (fun t ht => by simp at ht) (fun f args v h => by cases h)
end Go.Proofs.YtdkpmlhbofgfdaaGreatDoor.AM
