/-
  What attributes do: a right attribute stays right; a list cut in two. Plain law: no program in sight.
-/
import Derived.Test.YtcfjjeipdacbcaaDoorAtAll
set_option linter.unusedVariables false
set_option linter.unusedSimpArgs false
namespace Go.Proofs.YtcfjjeipdacbcaaDoor.AM
open Go
theorem step_free {a : At} {p : List Int} (h : ¬ (fst0 p = 38 ∨ fst0 p = 48)) (r s : List (List Int)) : stepA a p r = stepA a p s ∧ (stepA a p r).2 = 0 := by
  unfold stepA
  by_cases c0 : fst0 p = 0
  · rw [if_pos c0, if_pos c0]; exact ⟨rfl, rfl⟩
  rw [if_neg c0, if_neg c0, if_neg h, if_neg h]
  refine ⟨rfl, ?_⟩
  split <;> rfl
theorem applyF_app : ∀ (X : List (List Int)) (a : At) (Y : List (List Int)), (∀ p ∈ X, ¬ (fst0 p = 38 ∨ fst0 p = 48)) → applyF (X ++ Y).length a (X ++ Y) = applyF Y.length (applyF X.length a X) Y
  | [], a, Y, _ => rfl
  | p :: X, a, Y, h => by
    obtain ⟨e1, e2⟩ := step_free (a := a) (h p (by simp)) (X ++ Y) X
    have e3 := (step_free (a := a) (h p (by simp)) X X).2
    have l : applyF (p :: X ++ Y).length a (p :: X ++ Y) = applyF (X ++ Y).length (stepA a p (X ++ Y)).1 ((X ++ Y).drop (stepA a p (X ++ Y)).2) := rfl
    have r : applyF (p :: X).length a (p :: X) = applyF X.length (stepA a p X).1 (X.drop (stepA a p X).2) := rfl
    rw [l, r, e2, e3, e1]
    exact applyF_app X _ Y fun q hq => h q (by simp [hq])
end Go.Proofs.YtcfjjeipdacbcaaDoor.AM
