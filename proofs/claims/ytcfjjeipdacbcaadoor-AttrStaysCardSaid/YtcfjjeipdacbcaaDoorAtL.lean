/-
  What attributes do: a right attribute stays right; a list cut in two. Plain law: no program in sight.
-/
import Derived.Test.YtcfjjeipdacbcaaDoorAtAll
set_option linter.unusedVariables false
set_option linter.unusedSimpArgs false
namespace Go.Proofs.YtcfjjeipdacbcaaDoor.AM
open Go
theorem applyF_fuel : ∀ (f : Nat) (a : At) (L : List (List Int)), L.length ≤ f → applyF f a L = applyF L.length a L
  | 0, a, L, h => by
    have e : L = [] := List.eq_nil_of_length_eq_zero (by omega)
    subst e; rfl
  | f + 1, a, [], h => rfl
  | f + 1, a, p :: rest, h => by
    have h' : rest.length ≤ f := by simpa using h
    have e : applyF (f + 1) a (p :: rest) = applyF f (stepA a p rest).1 (rest.drop (stepA a p rest).2) := rfl
    have e2 : applyF (p :: rest).length a (p :: rest) = applyF rest.length (stepA a p rest).1 (rest.drop (stepA a p rest).2) := rfl
    rw [e, e2, applyF_fuel f _ _ (by simp; omega)]
    by_cases hlt : rest.length < f + 1
    · by_cases hz : rest.length = f
      · rw [hz, applyF_fuel f _ _ (by simp; omega)]
      · rw [← applyF_fuel rest.length _ _ (by simp)]
    · omega
termination_by f => f
theorem step_free {a : At} {p : List Int} (h : ¬ (fst0 p = 38 ∨ fst0 p = 48)) (r s : List (List Int)) : stepA a p r = stepA a p s ∧ (stepA a p r).2 = 0 := by
  unfold stepA
  by_cases c0 : fst0 p = 0
  · rw [if_pos c0, if_pos c0]; exact ⟨rfl, rfl⟩
  rw [if_neg c0, if_neg c0, if_neg h, if_neg h]
  refine ⟨rfl, ?_⟩
  split <;> rfl
theorem applyF_app : ∀ (X : List (List Int)) (a : At) (Y : List (List Int)), (∀ p ∈ X, ¬ (fst0 p = 38 ∨ fst0 p = 48)) → applyF (X ++ Y).length a (X ++ Y) = applyF Y.length (applyF X.length a X) Y
  | [], a, Y, _ => rfl
  | p :: X, a, Y, h => by
    obtain ⟨e1, e2⟩ := step_free (a := a) (h p (by simp)) (X ++ Y) X
    have e3 := (step_free (a := a) (h p (by simp)) X X).2
    have l : applyF (p :: X ++ Y).length a (p :: X ++ Y) = applyF (X ++ Y).length (stepA a p (X ++ Y)).1 ((X ++ Y).drop (stepA a p (X ++ Y)).2) := rfl
    have r : applyF (p :: X).length a (p :: X) = applyF X.length (stepA a p X).1 (X.drop (stepA a p X).2) := rfl
    rw [l, r, e2, e3, e1]
    exact applyF_app X _ Y fun q hq => h q (by simp [hq])
theorem applyP_cut {a : At} {L : List (List Int)} {j : Nat} (h0 : 0 < j) (h1 : j < L.length) (h : ∀ p ∈ L.take j, ¬ (fst0 p = 38 ∨ fst0 p = 48)) : applyP (applyP a (L.take j)) (L.drop j) = applyP a L := by
  have n1 : L ≠ [] := by intro e; rw [e] at h1; simp at h1
  have n2 : L.take j ≠ [] := by intro e; have := congrArg List.length e; simp only [List.length_take, List.length_nil] at this; omega
  have n3 : L.drop j ≠ [] := by intro e; have := congrArg List.length e; simp only [List.length_drop, List.length_nil] at this; omega
  unfold applyP
  rw [if_neg n1, if_neg n2, if_neg n3]
  have := applyF_app (L.take j) a (L.drop j) h
  rw [List.take_append_drop] at this
  exact this.symm
theorem color_paint : ∀ (l : List Int), (paintP l).ok = true → colorP (paintP l).k (paintP l).n = true
  | [], h => by cases h
  | a :: t, h => by
    by_cases a5 : a = 5
    · subst a5
      cases t with
      | nil => rw [paintS (.inr (by simp [wantN]))] at h; cases h
      | cons n t =>
        rw [paint5] at h ⊢
        by_cases hn : inB n
        · rw [if_pos hn]; simp [colorP, hn.2]
        · rw [if_neg hn] at h; cases h
    by_cases a2 : a = 2
    · subst a2
      match t with
      | [] => rw [paintS (.inr (by simp [wantN]))] at h; cases h
      | [x] => rw [paintS (.inr (by simp [wantN]))] at h; cases h
      | [x, y] => rw [paintS (.inr (by simp [wantN]))] at h; cases h
      | r :: g :: b :: t =>
        rw [paint2] at h ⊢
        by_cases hn : inB r ∧ inB g ∧ inB b
        · rw [if_pos hn]
          obtain ⟨⟨r0, r1⟩, ⟨g0, g1⟩, ⟨b0, b1⟩⟩ := hn
          simp only [colorP, decide_eq_true_eq]
          exact .inr (.inr ⟨trivial, by omega⟩)
        · rw [if_neg hn] at h; cases h
    · rw [paintS (.inl (by unfold wantN; rw [if_neg a5, if_neg a2]))] at h; cases h
theorem color_long (p : List Int) (rest : List (List Int)) (h : (longP (p :: rest)).1.ok = true) : colorP (longP (p :: rest)).1.k (longP (p :: rest)).1.n = true := by
  rw [longP_cons] at h ⊢
  split
  · rename_i c; rw [if_pos c] at h; exact color_paint _ h
  · rename_i c; rw [if_neg c] at h; exact color_paint _ h
theorem color_short {n c d : Int} (h : shortP n = some (c, d)) : colorP c d = true := by
  unfold shortP at h
  split at h
  · cases h; simp only [colorP, decide_eq_true_eq]; exact .inr (.inl ⟨trivial, by omega⟩)
  · split at h
    · cases h; simp only [colorP, decide_eq_true_eq]; exact .inr (.inl ⟨trivial, by omega⟩)
    · split at h
      · cases h; rfl
      · cases h
def FlR (fl : Int) : Prop := 0 ≤ fl ∧ fl ≤ 255
theorem orU_r {a b : Int} (ha : FlR a) (hb : FlR b) : FlR (orU a b) := by
  rw [orU_eq, BitVec.toNat_or]
  have h1 : (BitVec.ofInt 16 a).toNat < 2 ^ 8 := by have := of_id (a := a) ⟨ha.1, by have := ha.2; omega⟩; have := ha.2; omega
  have h2 : (BitVec.ofInt 16 b).toNat < 2 ^ 8 := by have := of_id (a := b) ⟨hb.1, by have := hb.2; omega⟩; have := hb.2; omega
  have := Nat.or_lt_two_pow h1 h2
  exact ⟨by omega, by omega⟩
theorem notU_r {a b : Int} (ha : FlR a) : FlR (notU a b) := by
  rw [notU_eq, BitVec.toNat_and]
  have h1 := of_id (a := a) ⟨ha.1, by have := ha.2; omega⟩
  have := Nat.and_le_left (n := (BitVec.ofInt 16 a).toNat) (m := (~~~BitVec.ofInt 16 b).toNat)
  have := ha.2
  exact ⟨by omega, by omega⟩
theorem flag_r {fl n : Int} {off : Bool} (h : FlR fl) : FlR (flagP fl n off).1 := by
  have f22 : ∀ x : Int, FlR x → FlR (fin22 n x) := fun x hx => by
    unfold fin22; split
    · exact notU_r hx
    · exact hx
  have pw : ∀ i : Nat, i < 8 → FlR (pow2 i) := fun i hi => by
    match i, hi with
    | 0, _ => exact ⟨by decide, by decide⟩
    | 1, _ => exact ⟨by decide, by decide⟩
    | 2, _ => exact ⟨by decide, by decide⟩
    | 3, _ => exact ⟨by decide, by decide⟩
    | 4, _ => exact ⟨by decide, by decide⟩
    | 5, _ => exact ⟨by decide, by decide⟩
    | 6, _ => exact ⟨by decide, by decide⟩
    | 7, _ => exact ⟨by decide, by decide⟩
  have go : ∀ (zs : List Int) (i : Nat), zs.length + i ≤ 8 → FlR (flagL fl n off zs i).1 := by
    intro zs
    induction zs with
    | nil => intro i _; exact h
    | cons k zs ih =>
      intro i hi
      simp only [List.length_cons] at hi
      unfold flagL
      split
      · exact f22 _ (notU_r h)
      · split
        · exact f22 _ (orU_r h (pw i (by omega)))
        · exact ih (i + 1) (by omega)
  exact go zflags 0 (by decide)
def RightA (a : At) : Prop := FlR a.fl ∧ colorP a.fk a.fn = true ∧ colorP a.bk a.bn = true
theorem step_r {a : At} (h : RightA a) (p : List Int) (rest : List (List Int)) : RightA (stepA a p rest).1 := by
  obtain ⟨h1, h2, h3⟩ := h
  unfold stepA
  split
  · exact ⟨⟨by decide, by decide⟩, rfl, rfl⟩
  split
  · simp only
    split
    · rename_i c; exact ⟨h1, color_long p rest c.1, h3⟩
    · split
      · rename_i c; exact ⟨h1, h2, color_long p rest c⟩
      · exact ⟨h1, h2, h3⟩
  split
  · exact ⟨flag_r h1, h2, h3⟩
  · have hA : ∀ (b : At) (m : Int), RightA b → RightA (shortA b m) := fun b m hb => by
      cases hs : shortP m with
      | none => rw [shortA_none hs]; exact hb
      | some cd => obtain ⟨c, d⟩ := cd; rw [shortA_some hs]; exact ⟨hb.1, color_short hs, hb.2.2⟩
    have hB : ∀ (b : At) (m : Int), RightA b → RightA (shortB b m) := fun b m hb => by
      cases hs : shortP m with
      | none => rw [shortB_none hs]; exact hb
      | some cd => obtain ⟨c, d⟩ := cd; rw [shortB_some hs]; exact ⟨hb.1, hb.2.1, color_short hs⟩
    exact hB _ _ (hA _ _ ⟨flag_r h1, h2, h3⟩)
theorem applyF_r : ∀ (f : Nat) {a : At} (h : RightA a) (L : List (List Int)), RightA (applyF f a L)
  | 0, a, h, _ => h
  | f + 1, a, h, [] => h
  | f + 1, a, h, p :: rest => applyF_r f (step_r h p rest) _
theorem applyP_r {a : At} (hfl : FlOk a.fl) (h : rightP a = true) (L : List (List Int)) : rightP (applyP a L) = true := by
  have hr : RightA a := by
    simp only [rightP, Bool.and_eq_true, decide_eq_true_eq] at h
    exact ⟨⟨hfl.1, h.1⟩, h.2.1, h.2.2⟩
  have : RightA (applyP a L) := by
    unfold applyP
    split
    · exact ⟨⟨by decide, by decide⟩, rfl, rfl⟩
    · exact applyF_r _ hr L
  simp only [rightP, Bool.and_eq_true, decide_eq_true_eq]
  exact ⟨this.1.2, this.2.1, this.2.2⟩
end Go.Proofs.YtcfjjeipdacbcaaDoor.AM
