/-
  Operations that make no memory and write none: the model answers as the abstract machine does, and its world stays.
-/
import Derived.Test.YtcfjjeipdacbcaaDoorAmStruct
set_option linter.unusedSimpArgs false
set_option linter.unusedVariables false
namespace Go.Proofs.YtcfjjeipdacbcaaDoor.AM
open Go Go.RowKit

variable {base : Nat} {m : Inj} {H : AHeap} {W : World} {P : Program} {gl : List Nat} {e : Env} {ρ : Operand → Value}

def OpR (gl : List Nat) (m : Inj) (e : Env) (ρ : Operand → Value) (X : Operand) : Prop := ∀ y, copd gl X = some y → VR m (y.ev e) (ρ X)

theorem copds_lr : ∀ {xs : List Operand} {ys : List Opd}, copds gl xs = some ys → (∀ X ∈ xs, OpR gl m e ρ X) → LR m (ys.map (·.ev e)) (xs.map ρ)
  | [], ys, h, _ => by rw [copds] at h; injection h with h; subst h; exact LR.nil m
  | x :: xs, ys, h, hX => by
    rw [copds] at h
    split at h
    · rename_i y hy
      split at h
      · rename_i zs hz
        injection h with h; subst h
        exact LR.cons (hX x (by simp) y hy) (copds_lr hz (fun X hX' => hX X (by simp [hX'])))
      · cases h
    · cases h
theorem copdO_r {x : Option Operand} {y : Option Opd} (h : copdO gl x = some y) (hX : ∀ X, x = some X → OpR gl m e ρ X) :
    (x = none ∧ y = none) ∨ ∃ X z, x = some X ∧ y = some z ∧ VR m (z.ev e) (ρ X) := by
  cases x with
  | none => rw [copdO] at h; injection h with h; exact .inl ⟨rfl, h.symm⟩
  | some X =>
    rw [copdO] at h
    cases hc : copd gl X with
    | none => rw [hc] at h; cases h
    | some z => rw [hc] at h; injection h with h; exact .inr ⟨X, z, rfl, h.symm, hX X rfl z hc⟩

theorem szT_cases {t : TypeId} {sz : Option Nat} (h : szT P t = some sz) :
    ∃ i, P.info? t = some i ∧ ((sz = some i.size ∧ (isAgg t).run P W = .ok true W) ∨ (sz = none ∧ (isAgg t).run P W = .ok false W)) := by
  unfold szT isAggT sizeT at h
  cases hu : P.underlying t with
  | none => simp [hu] at h
  | some D =>
    obtain ⟨i, hi⟩ := info_of_underlying hu
    refine ⟨i, hi, ?_⟩
    simp only [hu, Option.map_some, hi] at h
    cases D <;> simp only at h <;> injection h with h <;> subst h <;> simp [isAgg, run_underlying hu]
theorem run_sizeOf {t : TypeId} {i : TypeInfo} (hi : P.info? t = some i) : (sizeOf t).run P W = .ok i.size W := by simp [sizeOf, typeInfo, hi]
theorem sub_sim {t : TypeId} {sz : Option Nat} {cs : List AV} {cs' : Array Value} {o : Nat} {v : AV} (hz : szT P t = some sz) (hl : LR m cs cs'.toList) (h : sub cs o sz = some v) :
    ∃ c, (part t cs' o).run P W = .ok c W ∧ VR m v c := by
  obtain ⟨i, hi, (⟨rfl, ha⟩ | ⟨rfl, ha⟩)⟩ := szT_cases (W := W) hz
  · simp only [sub] at h
    injection h with h; subst h
    refine ⟨.agg (cs'.extract o (o + i.size)), by simp [part, ha, run_sizeOf hi], VR.agg' ?_⟩
    have : (cs'.extract o (o + i.size)).toList = (cs'.toList.drop o).take i.size := by
      simp [List.extract_eq_take_drop]
    rw [this]
    exact (hl.drop o).take _
  · simp only [sub] at h
    obtain ⟨c, h1, h2⟩ := hl.get h
    refine ⟨c, ?_, h2⟩
    have h1' : cs'[o]? = some c := by simpa using h1
    simp [part, ha, h1']
theorem int_inv {k : IntKind} {n : Int} {c : Value} (h : VR m (.int k n) c) : c = .int k n := by cases h; rfl
theorem bool_inv {b : Bool} {c : Value} (h : VR m (.bool b) c) : c = .bool b := by cases h; rfl
theorem inIndex_inv {x : AV} {n k : Nat} {c : Value} (h : inIndex x n = some k) (hx : VR m x c) : ∃ (kd : IntKind) (i : Int), c = .int kd i ∧ 0 ≤ i ∧ i < n ∧ i.toNat = k := by
  unfold inIndex at h
  split at h
  · rename_i kd i
    split at h
    · rename_i hc; injection h with h; exact ⟨kd, i, int_inv hx, hc.1, hc.2, h⟩
    · cases h
  · cases h
theorem bound_sim {x : AV} {y y' k : Nat} {c : Value} (code : BoundsCode) (h : bound x y = some k) (hx : VR m x c) (hy : y ≤ y') : (Instr.sliceBound c y' code).run P W = .ok k W ∧ k ≤ y := by
  unfold bound at h
  split at h
  · rename_i kd i
    split at h
    · rename_i hc; injection h with h
      rw [int_inv hx]
      have h1 : 0 ≤ i ∧ i ≤ (y' : Int) := ⟨hc.1, by omega⟩
      refine ⟨by simp [Instr.sliceBound, asIntOf, h1, h], by omega⟩
    · cases h
  · cases h
/-- the bounds of a slice expression -/
theorem bounds_sim {len cap cap' l hh : Nat} {lo hi : Option Operand} {lo' hi' : Option Opd} (isS : Bool) (h : bounds len cap (lo'.map (·.ev e)) (hi'.map (·.ev e)) = some (l, hh)) (hlo : copdO gl lo = some lo') (hhi : copdO gl hi = some hi')
    (hL : ∀ X, lo = some X → OpR gl m e ρ X) (hH : ∀ X, hi = some X → OpR gl m e ρ X) (hc : cap ≤ cap') (hlc : len ≤ cap) :
    (Instr.sliceBounds isS len cap' (lo.map ρ) (hi.map ρ) none).run P W = .ok (l, hh, cap') W ∧ l ≤ hh ∧ hh ≤ cap := by
  unfold bounds at h
  have key : ∃ h0, (match hi'.map (·.ev e) with | some v => bound v cap | none => some len) = some h0 ∧ (match lo'.map (·.ev e) with | some v => bound v h0 | none => some 0) = some l ∧ h0 = hh := by
    split at h
    · cases h
    · rename_i h0 he
      split at h
      · cases h
      · rename_i l0 hl
        injection h with h; injection h with ha hb
        subst ha; subst hb
        exact ⟨_, he, hl, rfl⟩
  obtain ⟨h0, k1, k2, rfl⟩ := key
  rcases copdO_r hhi hH with ⟨rfl, rfl⟩ | ⟨X, z, rfl, rfl, hv⟩ <;> rcases copdO_r hlo hL with ⟨rfl, rfl⟩ | ⟨X', z', rfl, rfl, hv'⟩ <;> simp only [Option.map_none, Option.map_some] at k1 k2 ⊢
  · injection k1 with k1; subst k1
    injection k2 with k2; subst k2
    exact ⟨by simp [Instr.sliceBounds], Nat.zero_le _, hlc⟩
  · injection k1 with k1; subst k1
    have b1 := bound_sim (W := W) (P := P) .sliceB k2 hv' (Nat.le_refl _)
    exact ⟨by simp [Instr.sliceBounds, b1.1], b1.2, hlc⟩
  · have b1 := bound_sim (W := W) (P := P) (if isS then .sliceAcap else .sliceAlen) k1 hv hc
    injection k2 with k2; subst k2
    exact ⟨by simp [Instr.sliceBounds, b1.1], Nat.zero_le _, b1.2⟩
  · have b1 := bound_sim (W := W) (P := P) (if isS then .sliceAcap else .sliceAlen) k1 hv hc
    have b2 := bound_sim (W := W) (P := P) .sliceB k2 hv' (Nat.le_refl _)
    exact ⟨by simp [Instr.sliceBounds, b1.1, b2.1], b2.2, b1.2⟩
end Go.Proofs.YtcfjjeipdacbcaaDoor.AM
