/-
  A program of literals: its functions, found in a list.
-/
import Derived.Test.YtdkpmlhbofgfdaaGreatDoorAmFast2
import Derived.Test.YtdkpmlhbofgfdaaGreatDoorSim0
set_option linter.unusedVariables false
namespace Go.Proofs.YtdkpmlhbofgfdaaGreatDoor.AM
open Go
noncomputable def lookF (l : List (Nat × AFunc)) (f : Nat) : Option AFunc := List.rec (motive := fun _ => Option AFunc) none (fun p _ ih => Fast.iteB (Nat.beq f p.1) (some p.2) ih) l
theorem lookF_mem {l : List (Nat × AFunc)} {f : Nat} {F : AFunc} (h : lookF l f = some F) : (f, F) ∈ l := by
  induction l with
  | nil => cases h
  | cons p l ih =>
    have h' : Fast.iteB (Nat.beq f p.1) (some p.2) (lookF l f) = some F := h
    cases hb : Nat.beq f p.1 with
    | true =>
      rw [hb] at h'
      obtain rfl := Nat.eq_of_beq_eq_true hb
      have : some p.2 = some F := h'
      injection this with this
      subst this
      simp
    | false => rw [hb] at h'; exact List.mem_cons_of_mem _ (ih h')
def AllFns (gl : List Nat) : List (Nat × AFunc) → Prop
  | [] => True
  | p :: l => (Q0 gl).fns p.1 = some p.2 ∧ AllFns gl l
theorem AllFns.mem {gl : List Nat} : ∀ {l : List (Nat × AFunc)}, AllFns gl l → ∀ p ∈ l, (Q0 gl).fns p.1 = some p.2
  | [], _, p, h => by simp at h
  | q :: l, hl, p, h => by
    rcases List.mem_cons.1 h with rfl | h
    · exact hl.1
    · exact AllFns.mem hl.2 p h
noncomputable def QL (T : List Tb) (l : List (Nat × AFunc)) (orc : FuncId → List AV → Option AV) : Prog := { fns := lookF l, orc := orc, tabs := T }
set_option maxRecDepth 1000000 in
theorem okL {gl : List Nat} {T : List Tb} (tg : ∀ t ∈ T, t.g ∈ gl ∧ t.g < 999999) {l : List (Nat × AFunc)} (hl : AllFns gl l) {orc : FuncId → List AV → Option AV} (h : ∀ f args v, orc f args = some v → OrcOK Tryz.prog T f args v) : ProgOK Tryz.prog gl (QL T l orc) :=
  ⟨fun f F hF => (ok0 gl).fns f F (hl.mem _ (lookF_mem hF)), h, tg, fun _ _ _ _ h => by cases h⟩
end Go.Proofs.YtdkpmlhbofgfdaaGreatDoor.AM
