/-
  Frames of plain blanks may be. No program in sight.
-/
import Derived.Test.YtkfnjjloefanjaaDoorPaC
set_option linter.unusedVariables false
set_option linter.unusedSimpArgs false
namespace Go.Proofs.YtkfnjjloefanjaaDoor.AM
open Go
/-! ### Frames of plain blanks may be -/
theorem okC_blank (p : Ce) : okC p blankC = true := by
  have h1 : ofP 32 = 1 := by decide +kernel
  have h2 : attrP blankC = true := by decide +kernel
  have h3 : validP 32 = true := by decide +kernel
  unfold okC
  rw [if_neg (by simp [blankC]), h2]
  show (true && (validP 32 && decide (ofP 32 = if (0 : Int) = 1 then 2 else 1))) = true
  rw [h3, h1]; rfl
theorem whole_zeros (n : Nat) : wholeP (List.replicate n 0) = true := by
  induction n with
  | zero => rfl
  | succ n ih => rw [List.replicate_succ, wholeP_cons, if_pos rfl]; exact ih
theorem right_blank (n : Nat) : rightP (List.replicate n blankC) = true := by
  unfold rightP
  have : ws (List.replicate n blankC) = List.replicate n 0 := by simp [ws, blankC]
  rw [this, whole_zeros, Bool.true_and, all_range]
  intro i hi
  unfold okF
  rw [List.getElem?_replicate]
  split
  · rename_i c hc
    split at hc
    · obtain rfl := Option.some.inj hc; exact okC_blank _
    · cases hc
  · rfl
theorem line_blank (n w y : Nat) : ∃ m, lineP (List.replicate n blankC) w y = List.replicate m blankC := ⟨_, by unfold lineP; rw [List.take_replicate, List.drop_replicate]⟩
theorem rightM_blank {w h : Int} (hs : sizeP w h = true) : rightM w h 0 0 (List.replicate (w.toNat * h.toNat) blankC) = true := by
  obtain ⟨w0, w4, h0, h4⟩ := sizeP_true hs
  unfold rightM
  have e1 : decide (((List.replicate (w.toNat * h.toNat) blankC).length : Int) = w * h) = true := by
    rw [List.length_replicate, Int.natCast_mul, Int.toNat_of_nonneg (by omega), Int.toNat_of_nonneg (by omega)]
    exact decide_eq_true rfl
  have e2 : inP w h 0 0 = true := by
    unfold inP
    rw [decide_eq_true (show (0 : Int) < w by omega), decide_eq_true (show (0 : Int) < h by omega)]; rfl
  have e3 : linesP w.toNat h.toNat (List.replicate (w.toNat * h.toNat) blankC) = true := by
    refine (all_range _ _).2 fun j hj => ?_
    obtain ⟨m, hm⟩ := line_blank (w.toNat * h.toNat) w.toNat j
    rw [hm]; exact right_blank m
  rw [hs, e1, e2, e3]; rfl
end Go.Proofs.YtkfnjjloefanjaaDoor.AM
