/-
  Operations that make no memory and write none: the model answers as the abstract machine does, and its world stays.
  Operations that make no memory and write none, all of them.
  Operations that make no memory and write none, all of them.
  Operations that make no memory and write none: each of them.
  Operations that make no memory and write none: what the model answers where the abstract machine answers, in one theorem.
  Operations that make no memory and write none: what the model answers where the abstract machine answers, in one theorem.
-/
import Derived.Test.YtdkpmlhbofgfdaaGreatDoorAmStruct
import Derived.Laws.Tables
set_option linter.unusedSimpArgs false
set_option linter.unusedVariables false
namespace Go.Proofs.YtdkpmlhbofgfdaaGreatDoor.AM
open Go Go.RowKit

variable {base : Nat} {m : Inj} {H : AHeap} {W : World} {P : Program} {gl : List Nat} {e : Env} {ρ : Operand → Value}

def OpR (gl : List Nat) (m : Inj) (e : Env) (ρ : Operand → Value) (X : Operand) : Prop := ∀ y, copd gl X = some y → VR m (y.ev e) (ρ X)

theorem copds_lr : ∀ {xs : List Operand} {ys : List Opd}, copds gl xs = some ys → (∀ X ∈ xs, OpR gl m e ρ X) → LR m (ys.map (·.ev e)) (xs.map ρ)
  | [], ys, h, _ => by rw [copds] at h; injection h with h; subst h; exact LR.nil m
  | x :: xs, ys, h, hX => by
    rw [copds] at h
    split at h
    · rename_i y hy
      split at h
      · rename_i zs hz
        injection h with h; subst h
        exact LR.cons (hX x (by simp) y hy) (copds_lr hz (fun X hX' => hX X (by simp [hX'])))
      · cases h
    · cases h
theorem copdO_r {x : Option Operand} {y : Option Opd} (h : copdO gl x = some y) (hX : ∀ X, x = some X → OpR gl m e ρ X) :
    (x = none ∧ y = none) ∨ ∃ X z, x = some X ∧ y = some z ∧ VR m (z.ev e) (ρ X) := by
  cases x with
  | none => rw [copdO] at h; injection h with h; exact .inl ⟨rfl, h.symm⟩
  | some X =>
    rw [copdO] at h
    cases hc : copd gl X with
    | none => rw [hc] at h; cases h
    | some z => rw [hc] at h; injection h with h; exact .inr ⟨X, z, rfl, h.symm, hX X rfl z hc⟩

theorem szT_cases {t : TypeId} {sz : Option Nat} (h : szT P t = some sz) :
    ∃ i, P.info? t = some i ∧ ((sz = some i.size ∧ (isAgg t).run P W = .ok true W) ∨ (sz = none ∧ (isAgg t).run P W = .ok false W)) := by
  unfold szT isAggT sizeT at h
  cases hu : P.underlying t with
  | none => simp [hu] at h
  | some D =>
    obtain ⟨i, hi⟩ := info_of_underlying hu
    refine ⟨i, hi, ?_⟩
    simp only [hu, Option.map_some, hi] at h
    cases D <;> simp only at h <;> injection h with h <;> subst h <;> simp [isAgg, run_underlying hu]
theorem run_sizeOf {t : TypeId} {i : TypeInfo} (hi : P.info? t = some i) : (sizeOf t).run P W = .ok i.size W := by simp [sizeOf, typeInfo, hi]
theorem sub_sim {t : TypeId} {sz : Option Nat} {cs : List AV} {cs' : Array Value} {o : Nat} {v : AV} (hz : szT P t = some sz) (hl : LR m cs cs'.toList) (h : sub cs o sz = some v) :
    ∃ c, (part t cs' o).run P W = .ok c W ∧ VR m v c := by
  obtain ⟨i, hi, (⟨rfl, ha⟩ | ⟨rfl, ha⟩)⟩ := szT_cases (W := W) hz
  · simp only [sub] at h
    injection h with h; subst h
    refine ⟨.agg (cs'.extract o (o + i.size)), by simp [part, ha, run_sizeOf hi], VR.agg' ?_⟩
    have : (cs'.extract o (o + i.size)).toList = (cs'.toList.drop o).take i.size := by
      simp [List.extract_eq_take_drop]
    rw [this]
    exact (hl.drop o).take _
  · simp only [sub] at h
    obtain ⟨c, h1, h2⟩ := hl.get h
    refine ⟨c, ?_, h2⟩
    have h1' : cs'[o]? = some c := by simpa using h1
    simp [part, ha, h1']
theorem int_inv {k : IntKind} {n : Int} {c : Value} (h : VR m (.int k n) c) : c = .int k n := by cases h; rfl
theorem bool_inv {b : Bool} {c : Value} (h : VR m (.bool b) c) : c = .bool b := by cases h; rfl
theorem inIndex_inv {x : AV} {n k : Nat} {c : Value} (h : inIndex x n = some k) (hx : VR m x c) : ∃ (kd : IntKind) (i : Int), c = .int kd i ∧ 0 ≤ i ∧ i < n ∧ i.toNat = k := by
  unfold inIndex at h
  split at h
  · rename_i kd i
    split at h
    · rename_i hc; injection h with h; exact ⟨kd, i, int_inv hx, hc.1, hc.2, h⟩
    · cases h
  · cases h
theorem bound_sim {x : AV} {y y' k : Nat} {c : Value} (code : BoundsCode) (h : bound x y = some k) (hx : VR m x c) (hy : y ≤ y') : (Instr.sliceBound c y' code).run P W = .ok k W ∧ k ≤ y := by
  unfold bound at h
  split at h
  · rename_i kd i
    split at h
    · rename_i hc; injection h with h
      rw [int_inv hx]
      have h1 : 0 ≤ i ∧ i ≤ (y' : Int) := ⟨hc.1, by omega⟩
      refine ⟨by simp [Instr.sliceBound, asIntOf, h1, h], by omega⟩
    · cases h
  · cases h
/-- the bounds of a slice expression -/
theorem bounds_sim {len cap cap' l hh : Nat} {lo hi : Option Operand} {lo' hi' : Option Opd} (isS : Bool) (h : bounds len cap (lo'.map (·.ev e)) (hi'.map (·.ev e)) = some (l, hh)) (hlo : copdO gl lo = some lo') (hhi : copdO gl hi = some hi')
    (hL : ∀ X, lo = some X → OpR gl m e ρ X) (hH : ∀ X, hi = some X → OpR gl m e ρ X) (hc : cap ≤ cap') (hlc : len ≤ cap) :
    (Instr.sliceBounds isS len cap' (lo.map ρ) (hi.map ρ) none).run P W = .ok (l, hh, cap') W ∧ l ≤ hh ∧ hh ≤ cap := by
  unfold bounds at h
  have key : ∃ h0, (match hi'.map (·.ev e) with | some v => bound v cap | none => some len) = some h0 ∧ (match lo'.map (·.ev e) with | some v => bound v h0 | none => some 0) = some l ∧ h0 = hh := by
    split at h
    · cases h
    · rename_i h0 he
      split at h
      · cases h
      · rename_i l0 hl
        injection h with h; injection h with ha hb
        subst ha; subst hb
        exact ⟨_, he, hl, rfl⟩
  obtain ⟨h0, k1, k2, rfl⟩ := key
  rcases copdO_r hhi hH with ⟨rfl, rfl⟩ | ⟨X, z, rfl, rfl, hv⟩ <;> rcases copdO_r hlo hL with ⟨rfl, rfl⟩ | ⟨X', z', rfl, rfl, hv'⟩ <;> simp only [Option.map_none, Option.map_some] at k1 k2 ⊢
  · injection k1 with k1; subst k1
    injection k2 with k2; subst k2
    exact ⟨by simp [Instr.sliceBounds], Nat.zero_le _, hlc⟩
  · injection k1 with k1; subst k1
    have b1 := bound_sim (W := W) (P := P) .sliceB k2 hv' (Nat.le_refl _)
    exact ⟨by simp [Instr.sliceBounds, b1.1], b1.2, hlc⟩
  · have b1 := bound_sim (W := W) (P := P) (if isS then .sliceAcap else .sliceAlen) k1 hv hc
    injection k2 with k2; subst k2
    exact ⟨by simp [Instr.sliceBounds, b1.1], Nat.zero_le _, b1.2⟩
  · have b1 := bound_sim (W := W) (P := P) (if isS then .sliceAcap else .sliceAlen) k1 hv hc
    have b2 := bound_sim (W := W) (P := P) .sliceB k2 hv' (Nat.le_refl _)
    exact ⟨by simp [Instr.sliceBounds, b1.1, b2.1], b2.2, b1.2⟩
end Go.Proofs.YtdkpmlhbofgfdaaGreatDoor.AM
namespace Go.Proofs.YtdkpmlhbofgfdaaGreatDoor.AM
open Go Go.RowKit

variable {base : Nat} {m : Inj} {H : AHeap} {W : World} {P : Program} {gl : List Nat} {e : Env} {ρ : Operand → Value}

/-- what is told of an operation -/
def RGoal (P : Program) (W : World) (m : Inj) (ρ : Operand → Value) (o : Oper) (v : AV) : Prop := ∃ c, (execOp ρ o).run P W = .ok (.value c) W ∧ VR m v c

theorem val_run {s : Sem Value} {c : Value} (h : s.run P W = .ok c W) : (do pure (Next.value (← s)) : Sem Next).run P W = .ok (.value c) W := by simp [h]

theorem r_bin {op : BinOp} {t yt ty : TypeId} {X Y : Operand} {x y : Opd} {v : AV} (hx : VR m (x.ev e) (ρ X)) (hy : VR m (y.ev e) (ρ Y)) (hne : op ≠ .eql ∧ op ≠ .neq ∨ (∃ k n j n', x.ev e = .int k n ∧ y.ev e = .int j n') ∨ (∃ s s', x.ev e = .str s ∧ y.ev e = .str s'))
    (hr : binV op (x.ev e) (y.ev e) = some v) : ∃ c, (do eqGuard op t X Y (ρ X) (ρ Y); Go.binOp op t (ρ X) (ρ Y) : Sem Value).run P W = .ok c W ∧ VR m v c := by
  obtain ⟨c, h1, h2⟩ := sim_bin P W op t hx hy hr
  refine ⟨c, ?_, h2⟩
  have hg : (eqGuard op t X Y (ρ X) (ρ Y)).run P W = .ok () W := by
    refine guard_ok P W op t X Y _ _ (fun u w hc => ?_) (fun hc => ?_)
    · rw [hc.1, hc.2] at h1; cases op <;> simp [binV] at hr
      all_goals
        (rw [hc.1] at hx; generalize x.ev e = z at hx hr; cases hx; simp [binV] at hr)
    · rw [hc.1] at hx; generalize x.ev e = z at hx hr; cases hx; simp [binV] at hr
  simp only [Sem.run_bind, hg, Result.andThen_ok]
  exact h1
theorem binV_kind {op : BinOp} {x y v : AV} (h : binV op x y = some v) : (∃ k n j n', x = .int k n ∧ y = .int j n') ∨ (∃ s s', x = .str s ∧ y = .str s') := by
  unfold binV at h
  split at h
  · exact .inl ⟨_, _, _, _, rfl, rfl⟩
  · exact .inr ⟨_, _, rfl, rfl⟩
  · cases h

theorem cbin_sim {op : BinOp} {t yt : TypeId} {X Y : Operand} {r : ROp} {v : AV} (hop : cbin P gl op t X Y = some (.r r)) (hX : OpR gl m e ρ X) (hY : OpR gl m e ρ Y) (hr : r.run H e = some v) :
    ∃ c, (do eqGuard op t X Y (ρ X) (ρ Y); Go.binOp op t (ρ X) (ρ Y) : Sem Value).run P W = .ok c W ∧ VR m v c := by
  unfold cbin at hop
  cases hx : copd gl X with
  | none => simp [hx] at hop
  | some x =>
  cases hy : copd gl Y with
  | none => simp [hx, hy] at hop
  | some y =>
  have hxv := hX x hx
  have hyv := hY y hy
  simp only [hx, hy, Option.bind_eq_bind, Option.bind_some] at hop
  have easy : (ROp.bin op x y).run H e = some v → ∃ c, (do eqGuard op t X Y (ρ X) (ρ Y); Go.binOp op t (ρ X) (ρ Y) : Sem Value).run P W = .ok c W ∧ VR m v c := fun h' => by
    simp only [ROp.run] at h'
    exact r_bin (ty := 0) (yt := 0) hxv hyv (.inr (binV_kind h')) h'
  have eqs : (op = .eql ∨ op = .neq) → ∃ g : Bool, op = (if g then .neq else .eql) := by
    rintro (rfl | rfl)
    · exact ⟨false, rfl⟩
    · exact ⟨true, rfl⟩
  by_cases hq : op = .eql ∨ op = .neq
  · obtain ⟨g, hg1⟩ := eqs hq
    clear eqs
    have hop' : (match P.underlying t with
      | none => none
      | some (.int _) | some .string => some (AOp.r (.bin op x y))
      | some .bool => some (.r (.beq g x y))
      | some (.pointer _) => some (.r (.nileq 0 g x y))
      | some (.slice _) => some (.r (.nileq 1 g x y))
      | some (.map _ _) => some (.r (.nileq 2 g x y))
      | some (.func _ _ _) => some (.r (.nileq 3 g x y))
      | some (.interface _) => if isNilIface X || isNilIface Y then some (.r (.nileq 4 g x y)) else none
      | some (.struct _) => (flatT P 8 t).bind fun ks => if packedT P 8 t && !P.eqGuardType P.depth t && P.cellsOf t == ks.length then some (.r (.seq ks g x y)) else none
      | _ => none) = some (.r r) := by
      rw [← hop]
      rcases hq with rfl | rfl <;> cases g <;> simp at hg1 <;> cases hu : P.underlying t with
      | none => rfl
      | some D => cases D <;> simp
    clear hop
    rw [hg1]
    split at hop'
    · cases hop'
    · injection hop' with h; injection h with h; subst h; rw [← hg1]; exact easy hr
    · injection hop' with h; injection h with h; subst h; rw [← hg1]; exact easy hr
    · rename_i hu
      injection hop' with h; injection h with h; subst h
      simp only [ROp.run] at hr
      split at hr
      · rename_i a b ha hb
        rw [ha] at hxv; rw [hb] at hyv
        rw [bool_inv hxv, bool_inv hyv]
        injection hr with hr; subst hr
        refine ⟨_, ?_, .bool _⟩
        have hgd : (eqGuard (if g then .neq else .eql) t X Y (.bool a) (.bool b)).run P W = .ok () W := guard_ok P W _ t X Y _ _ (by simp) (by simp)
        simp only [Sem.run_bind, hgd, Result.andThen_ok]
        refine eql_run P W g t _ _ _ (by simp) (by simp) (by simp) (by simp) ?_
        rw [(eqDeep t _ _).choose_spec]
        exact run_equalIn_bool' W _ t a b hu
      · cases hr
    all_goals try (
      rename_i hu
      injection hop' with h; injection h with h; subst h
      simp only [ROp.run] at hr
      split at hr
      · rename_i b hb
        injection hr with hr; subst hr
        exact ⟨_, sim_nileq P W g t X Y hxv hyv hb hu (by simp), .bool _⟩
      · cases hr)
    · rename_i hu
      split at hop'
      · rename_i hn
        injection hop' with h; injection h with h; subst h
        simp only [ROp.run] at hr
        split at hr
        · rename_i b hb
          injection hr with hr; subst hr
          exact ⟨_, sim_nileq P W g t X Y hxv hyv hb hu (by simpa using hn), .bool _⟩
        · cases hr
      · cases hop'
    · rename_i fs hu
      rw [Option.bind_eq_some_iff] at hop'
      obtain ⟨ks, hks, hop'⟩ := hop'
      split at hop'
      · rename_i hc
        simp only [Bool.and_eq_true, Bool.not_eq_true', beq_iff_eq] at hc
        obtain ⟨⟨hpk, hgt⟩, hlen⟩ := hc
        injection hop' with h; injection h with h; subst h
        simp only [ROp.run] at hr
        split at hr
        · rename_i xs ys hxs hys
          rw [hxs] at hxv; rw [hys] at hyv
          obtain ⟨xs', hcx, hlx⟩ := hxv.agg_inv
          obtain ⟨ys', hcy, hly⟩ := hyv.agg_inv
          rw [hcx, hcy]
          split at hr
          · rename_i hlens
            split at hr
            · rename_i b hb
              injection hr with hr; subst hr
              refine ⟨_, ?_, .bool _⟩
              have hgd : (eqGuard (if g then .neq else .eql) t X Y (.agg xs') (.agg ys')).run P W = .ok () W := run_eqGuard_agg W _ t X Y xs' ys' hgt
              simp only [Sem.run_bind, hgd, Result.andThen_ok]
              refine eql_run P W g t _ _ _ (by simp) (by simp) (by simp) (by simp) ?_
              rcases sim_flat P W 8 t ks hks hpk 10000 (by omega) xs ys xs'.toList ys'.toList b hlx hly (by omega) (by omega) hb with ⟨_, _, h1⟩ | ⟨D, _, _, hD, hk, _⟩
              · exact h1
              · rw [hu] at hD; injection hD with hD; subst hD; simp at hk
            · cases hr
          · cases hr
        · cases hr
      · cases hop'
    · cases hop'
  · have : op ≠ .eql ∧ op ≠ .neq := ⟨fun h => hq (.inl h), fun h => hq (.inr h)⟩
    have hop' : some (AOp.r (.bin op x y)) = some (.r r) := by rw [← hop]; cases op <;> first | rfl | exact absurd rfl this.1 | exact absurd rfl this.2
    injection hop' with h; injection h with h; subst h
    exact easy hr
end Go.Proofs.YtdkpmlhbofgfdaaGreatDoor.AM
namespace Go.Proofs.YtdkpmlhbofgfdaaGreatDoor.AM
open Go Go.RowKit

variable {base : Nat} {m : Inj} {H : AHeap} {W : World} {P : Program} {gl : List Nat} {e : Env} {ρ : Operand → Value}

theorem cells_len {v : AV} {c : Value} (h : VR m v c) : v.cells.length = c.cells.size := by simpa using h.cells.1
theorem fill_sim (place : Nat → Option (Nat × Nat)) : ∀ {ps : List (Nat × Operand)} {qs : List (Nat × Nat × Opd)} {cs cs2 : List AV} {ds : Array Value}, cparts gl place ps = some qs → (∀ p ∈ ps, OpR gl m e ρ p.2) →
    LR m cs ds.toList → buildIn cs (qs.map fun p => (p.1, p.2.1, p.2.2.ev e)) = some cs2 → ∃ ds2 : Array Value, Instr.fill place ds (ps.map fun p => (p.1, ρ p.2)) = some ds2 ∧ LR m cs2 ds2.toList
  | [], qs, cs, cs2, ds, h, _, hl, hb => by
    rw [cparts] at h; injection h with h; subst h
    simp only [List.map_nil, buildIn] at hb
    injection hb with hb; subst hb
    exact ⟨ds, rfl, hl⟩
  | (i, X) :: ps, qs, cs, cs2, ds, h, hX, hl, hb => by
    rw [cparts] at h
    split at h
    · rename_i o s y l h1 h2 h3
      injection h with h; subst h
      simp only [List.map_cons, buildIn] at hb
      split at hb
      · rename_i hc
        obtain ⟨hc1, hc2⟩ := hc
        have hv : VR m (y.ev e) (ρ X) := hX (i, X) (by simp) y h2
        have hlen := cells_len hv
        have hds : cs.length = ds.size := by simpa using hl.1
        simp only [List.map_cons, Instr.fill, h1]
        have hno : ¬ ((ρ X).cells.size ≠ s ∨ o + (ρ X).cells.size > ds.size) := by
          intro hh
          rcases hh with hh | hh
          · exact hh (by omega)
          · omega
        have e1 : (decide ((ρ X).cells.size ≠ s) || decide (o + (ρ X).cells.size > ds.size)) = false := by
          simp only [Bool.or_eq_false_iff, decide_eq_false_iff_not]
          exact ⟨fun hh => hno (.inl hh), fun hh => hno (.inr hh)⟩
        simp only [e1, Bool.false_eq_true, if_false]
        refine fill_sim place h3 (fun p hp => hX p (by simp [hp])) ?_ hb
        have := hl.over (o := o) hv.cells
        have e2 : ((ρ X).cells.zipIdx.foldl (fun cs (x : Value × Nat) => cs.setIfInBounds (o + x.2) x.1) ds).toList = (ρ X).cells.toList.zipIdx.foldl (fun cs (x : Value × Nat) => cs.set (o + x.2) x.1) ds.toList := by
          rw [← Array.foldl_toList, Array.toList_zipIdx]
          generalize (ρ X).cells.toList.zipIdx = l
          clear hb this hno e1 hds hl
          induction l generalizing ds with
          | nil => rfl
          | cons a l ih => simp only [List.foldl_cons]; rw [ih]; simp
        rw [e2]
        exact this
      · cases hb
    · cases h
theorem cparts_mem {place : Nat → Option (Nat × Nat)} {ps : List (Nat × Operand)} {o : Oper} (h : ∀ X ∈ (ps.map (·.2)), OpR gl m e ρ X) : ∀ p ∈ ps, OpR gl m e ρ p.2 := fun p hp => h p.2 (List.mem_map_of_mem hp)
theorem ofScalar_vr {v : Value} {a : AV} (h : AV.ofScalar v = some a) : VR m a v := by
  unfold AV.ofScalar at h
  split at h <;> cases h <;> constructor
theorem ofScalars_lr : ∀ {vs : List Value} {as : List AV}, ofScalars vs = some as → LR m as vs
  | [], as, h => by rw [ofScalars] at h; injection h with h; subst h; exact LR.nil m
  | v :: vs, as, h => by
    rw [ofScalars] at h
    split at h
    · rename_i a ha
      split at h
      · rename_i bs hb
        injection h with h; subst h
        exact LR.cons (ofScalar_vr ha) (ofScalars_lr hb)
      · cases h
    · cases h
theorem ofConst_vr {v : Value} {a : AV} (h : AV.ofConst v = some a) : VR m a v := by
  unfold AV.ofConst at h
  split at h
  · rename_i cs
    rw [Option.map_eq_some_iff] at h
    obtain ⟨l, h1, rfl⟩ := h
    exact VR.agg' (ofScalars_lr h1)
  · rename_i vs
    rw [Option.map_eq_some_iff] at h
    obtain ⟨l, h1, rfl⟩ := h
    exact VR.tup' (ofScalars_lr h1)
  · exact ofScalar_vr h
theorem zero_inv {t : TypeId} {z : List AV} (h : zeroT P t = some z) : ∃ i v, P.info? t = some i ∧ i.zero = some v ∧ LR m z v.cells.toList := by
  unfold zeroT at h
  rw [Option.bind_eq_some_iff] at h
  obtain ⟨v, h1, h2⟩ := h
  rw [Option.bind_eq_some_iff] at h1
  obtain ⟨i, h3, h4⟩ := h1
  exact ⟨i, v, h3, h4, ofScalars_lr h2⟩
theorem run_zero {t : TypeId} {i : TypeInfo} {v : Value} (hi : P.info? t = some i) (hv : i.zero = some v) : (zeroValue t).run P W = .ok v W := by simp [zeroValue, typeInfo, hi, hv]
theorem size_inv {t : TypeId} {s : Nat} (h : sizeT P t = some s) : ∃ i, P.info? t = some i ∧ i.size = s := by
  unfold sizeT at h
  rw [Option.map_eq_some_iff] at h
  exact h
theorem min2_sim {x y v : AV} {c d : Value} (hx : VR m x c) (hy : VR m y d) (h : mnmx2 false x y = some v) : ∃ r, (Builtin.min2 c d).run P W = .ok r W ∧ VR m v r := by
  unfold mnmx2 at h
  split at h
  · rename_i k a j b
    split at h
    · rename_i hk; subst hk
      injection h with h; subst h
      rw [int_inv hx, int_inv hy]
      exact ⟨_, rfl, .int _ _⟩
    · cases h
  · cases h
theorem max2_sim {x y v : AV} {c d : Value} (hx : VR m x c) (hy : VR m y d) (h : mnmx2 true x y = some v) : ∃ r, (Builtin.max2 c d).run P W = .ok r W ∧ VR m v r := by
  unfold mnmx2 at h
  split at h
  · rename_i k a j b
    split at h
    · rename_i hk; subst hk
      injection h with h; subst h
      rw [int_inv hx, int_inv hy]
      exact ⟨_, rfl, .int _ _⟩
    · cases h
  · cases h
theorem mnmxL_sim (b : Bool) : ∀ {xs : List AV} {cs : List Value} {x v : AV} {c : Value}, VR m x c → LR m xs cs → mnmxL b x xs = some v → ∃ r, (cs.foldlM (if b then Builtin.max2 else Builtin.min2) c).run P W = .ok r W ∧ VR m v r
  | [], cs, x, v, c, hx, hl, h => by
    rw [hl.nil_inv]; simp only [mnmxL] at h; injection h with h; subst h; exact ⟨c, rfl, hx⟩
  | y :: xs, cs, x, v, c, hx, hl, h => by
    obtain ⟨d, ds, rfl, hd, hl'⟩ := hl.cons_inv
    simp only [mnmxL] at h
    split at h
    · rename_i u hu
      have : ∃ r, ((if b then Builtin.max2 else Builtin.min2) c d).run P W = .ok r W ∧ VR m u r := by
        cases b
        · exact min2_sim hx hd hu
        · exact max2_sim hx hd hu
      obtain ⟨r, h1, h2⟩ := this
      obtain ⟨r', h3, h4⟩ := mnmxL_sim b h2 hl' h
      exact ⟨r', by simp only [List.foldlM_cons, Sem.run_bind, h1, Result.andThen_ok]; exact h3, h4⟩
    · cases h
theorem bytes_sim : ∀ {cs : List AV} {ds : List Value} {l : List UInt8} (acc : ByteArray), LR m cs ds → bytesOf cs = some l →
    ∃ s : ByteArray, (forIn (m := Sem) ds acc (fun c (s : ByteArray) => (match c with
      | .int .u8 n => pure (ForInStep.yield (s.push (UInt8.ofNat n.toNat)))
      | _ => do
        stuck "bytesToString: byte expected"
        pure (ForInStep.yield s) : Sem (ForInStep ByteArray)))).run P W = .ok s W ∧ s.data.toList = acc.data.toList ++ l
  | [], ds, l, acc, hl, h => by
    rw [hl.nil_inv]; rw [bytesOf] at h; injection h with h; subst h; exact ⟨acc, rfl, by simp⟩
  | c :: cs, ds, l, acc, hl, h => by
    obtain ⟨d, ds', rfl, hd, hl'⟩ := hl.cons_inv
    unfold bytesOf at h
    split at h
    · rename_i h1; cases h1
    · rename_i n r h1
      injection h1 with h1 h1'; subst h1; subst h1'
      rw [int_inv hd]
      split at h
      · rename_i l' hl''
        injection h with h; subst h
        obtain ⟨s, h2, h3⟩ := bytes_sim (acc.push (UInt8.ofNat n.toNat)) hl' hl''
        refine ⟨s, ?_, by rw [h3]; simp⟩
        simp only [List.forIn_cons, Sem.run_bind, Sem.run_pure, Result.andThen_ok]
        exact h2
      · cases h
    · cases h
theorem runes_sim : ∀ {cs : List AV} {ds : List Value} {l : List UInt8} (acc : ByteArray), LR m cs ds → runesOf cs = some l →
    ∃ s : ByteArray, (forIn (m := Sem) ds acc (fun c (s : ByteArray) => (match c with
      | .int .i32 n => pure (ForInStep.yield (s ++ Utf8.encode n))
      | _ => do
        stuck "runesToString: rune expected"
        pure (ForInStep.yield s) : Sem (ForInStep ByteArray)))).run P W = .ok s W ∧ s.data.toList = acc.data.toList ++ l
  | [], ds, l, acc, hl, h => by
    rw [hl.nil_inv]; rw [runesOf] at h; injection h with h; subst h; exact ⟨acc, rfl, by simp⟩
  | c :: cs, ds, l, acc, hl, h => by
    obtain ⟨d, ds', rfl, hd, hl'⟩ := hl.cons_inv
    unfold runesOf at h
    split at h
    · rename_i h1; cases h1
    · rename_i n r h1
      injection h1 with h1 h1'; subst h1; subst h1'
      rw [int_inv hd]
      split at h
      · rename_i l' hl''
        injection h with h; subst h
        obtain ⟨s, h2, h3⟩ := runes_sim (acc ++ Utf8.encode n) hl' hl''
        refine ⟨s, ?_, by rw [h3, ByteArray.data_append, Array.toList_append, List.append_assoc]⟩
        simp only [List.forIn_cons, Sem.run_bind, Sem.run_pure, Result.andThen_ok]
        exact h2
      · cases h
    · cases h
/-- which kind of type a key is of -/
def kindFits : TypeDesc → AV → Prop
  | .int _, .int _ _ | .string, .str _ | .bool, .bool _ => True
  | _, _ => False
theorem kind_fits {t : TypeId} {kk : Nat} {k : AV} (ht : keyKindT P t = some kk) (hk : isKind kk k = true) : ∃ D, P.underlying t = some D ∧ kindFits D k := by
  unfold keyKindT at ht
  split at ht
  · rename_i hu; injection ht with ht; subst ht; refine ⟨_, hu, ?_⟩; cases k <;> simp [isKind] at hk; trivial
  · rename_i hu; injection ht with ht; subst ht; refine ⟨_, hu, ?_⟩; cases k <;> simp [isKind] at hk; trivial
  · rename_i hu; injection ht with ht; subst ht; refine ⟨_, hu, ?_⟩; cases k <;> simp [isKind] at hk; trivial
  · cases ht
/-- a map's keys: plain numbers, strings, bools -/
theorem key_ok {D : TypeDesc} {k : AV} {c : Value} (b : Bool) (t : TypeId) (hu : P.underlying t = some D) (hk : kindFits D k) (hv : VR m k c) (n : Nat) : (Instr.checkKey b (n + 1) t c).run P W = .ok () W := by
  cases D <;> cases k <;> simp only [kindFits] at hk <;> cases hv <;> simp [Instr.checkKey, run_underlying hu]
theorem find_sim {D : TypeDesc} {k : AV} {kc : Value} (hk : VR m k kc) (hf : kindFits D k) : ∀ {es : List (AV × AV)} {xs : List MapEntry} {i : Nat} {r : Option (Nat × AV)}, es.length = xs.length →
    (∀ (j : Nat) (a b : AV) (E : MapEntry), es[j]? = some (a, b) → xs[j]? = some E → VR m a E.key ∧ VR m b E.val) → findKey k es i = some r →
    (r = none ∧ Instr.findNow D kc xs i = some none) ∨ ∃ j v c, r = some (j, v) ∧ i ≤ j ∧ Instr.findNow D kc xs i = some (some (j, c)) ∧ VR m v c ∧ (∃ E, xs[j - i]? = some E ∧ VR m k E.key)
  | [], xs, i, r, hl, _, h => by
    rw [findKey] at h; injection h with h; subst h
    have : xs = [] := List.length_eq_zero_iff.1 (by simpa using hl.symm)
    subst this
    exact .inl ⟨rfl, rfl⟩
  | (a, b) :: es, xs, i, r, hl, hE, h => by
    match xs, hl with
    | E :: xs, hl =>
    have hl' : es.length = xs.length := by simpa using hl
    obtain ⟨ha, hb⟩ := hE 0 a b E rfl rfl
    have hE' : ∀ (j : Nat) (a b : AV) (E : MapEntry), es[j]? = some (a, b) → xs[j]? = some E → VR m a E.key ∧ VR m b E.val := fun j a b E' h1 h2 => hE (j + 1) a b E' (by simpa using h1) (by simpa using h2)
    rw [findKey] at h
    have same : ∀ q, keyEq k a = some q → Instr.sameNow D kc E.key = some q ∧ (q = true → k = a) := by
      intro q hq
      unfold keyEq at hq
      split at hq
      · rename_i kd x jd y
        split at hq
        · rename_i he; subst he
          injection hq with hq; subst hq
          rw [int_inv hk, int_inv ha]
          cases D <;> simp only [kindFits] at hf
          exact ⟨by simp [Instr.sameNow], fun hh => by have := eq_of_beq hh; rw [this]⟩
        · cases hq
      · injection hq with hq; subst hq
        rename_i x y
        obtain ⟨s, rfl, hs⟩ := str_inv hk
        obtain ⟨s', hs1, hs2⟩ := str_inv ha
        rw [hs1]
        cases D <;> simp only [kindFits] at hf
        refine ⟨?_, fun hh => by have := eq_of_beq hh; rw [this]⟩
        simp only [Instr.sameNow, beq_toListBytes, ByteArray.toList_eq, hs, hs2]
      · injection hq with hq; subst hq
        rw [bool_inv hk, bool_inv ha]
        cases D <;> simp only [kindFits] at hf
        exact ⟨by simp [Instr.sameNow], fun hh => by have := eq_of_beq hh; rw [this]⟩
      · cases hq
    split at h
    · rename_i hq
      injection h with h; subst h
      obtain ⟨h1, h2⟩ := same true hq
      refine .inr ⟨i, b, E.val, rfl, Nat.le_refl _, by simp [Instr.findNow, h1], hb, E, by simp, by rw [h2 rfl]; exact ha⟩
    · rename_i hq
      obtain ⟨h1, _⟩ := same false hq
      rcases find_sim hk hf hl' hE' h with ⟨h2, h3⟩ | ⟨j, v, c, h2, h3, h4, h5, E', h6, h7⟩
      · exact .inl ⟨h2, by simp [Instr.findNow, h1, h3]⟩
      · refine .inr ⟨j, v, c, h2, by omega, by simp [Instr.findNow, h1, h4], h5, E', ?_, h7⟩
        rw [show j - i = (j - (i + 1)) + 1 by omega]; simpa using h6
    · cases h
theorem run_findKey {kt : TypeId} {D : TypeDesc} (hu : P.underlying kt = some D) {kc : Value} {xs : List MapEntry} {r : Option (Nat × Value)} (h : Instr.findNow D kc xs 0 = some r) : (Instr.findKey kt kc xs).run P W = .ok r W := by
  simp [Instr.findKey, run_underlying hu, h]
end Go.Proofs.YtdkpmlhbofgfdaaGreatDoor.AM
namespace Go.Proofs.YtdkpmlhbofgfdaaGreatDoor.AM
open Go Go.RowKit

variable {base : Nat} {m : Inj} {H : AHeap} {W : World} {P : Program} {gl : List Nat} {e : Env} {ρ : Operand → Value}

theorem ptr_inv {b o : Nat} {c : Value} (h : VR m (.ptr b o) c) : ∃ L, m b = some L ∧ c = .pointer (some ⟨L.blk, L.off + o, none⟩) := by cases h with | ptr hb => exact ⟨_, hb, rfl⟩
theorem slc_inv {b o len cap : Nat} {c : Value} (h : VR m (.slc b o len cap) c) : ∃ L a cap', m b = some L ∧ c = .slice (some a) len cap' ∧ len ≤ cap ∧ (cap = cap' ∨ (cap < cap' ∧ 0 < L.es ∧ o + cap' * L.es ≤ L.room)) ∧ (0 < cap' → a = ⟨L.blk, L.off + o, none⟩) := by
  cases h with | slc hb hl hc ha => exact ⟨_, _, _, hb, rfl, hl, hc, ha⟩

theorem sim_move {ty : TypeId} {d : Option Nat} {X : Operand} {x : Opd} {pos : String} {af : Array Edge} {g : Option (Nat × Bool)} {v : AV} (hx : copd gl X = some x) (hX : OpR gl m e ρ X) (hr : (ROp.mv x).run H e = some v) :
    VR m v (ρ X) := by
  simp only [ROp.run] at hr; injection hr with hr; subst hr; exact hX x hx

theorem sim_index {t : TypeId} {X I : Operand} {x i : Opd} {es : Nat} {el : TypeId} {v : AV} (h : SR P gl base m H W) (hx : copd gl X = some x) (hi : copd gl I = some i) (hX : OpR gl m e ρ X) (hI : OpR gl m e ρ I)
    (hu : P.underlying t = some (.slice el)) (hs : sizeT P el = some es) (hr : (ROp.idxS es x i).run H e = some v) : ∃ c, (Instr.indexAt t (ρ X) (ρ I)).run P W = .ok c W ∧ VR m v c := by
  simp only [ROp.run] at hr
  split at hr
  · rename_i b o len cap hxe
    split at hr
    · rename_i k hk
      injection hr with hr; subst hr
      have hxv := hX x hx
      rw [hxe] at hxv
      obtain ⟨L, a, cap', h1, h2, h3, h4, h5⟩ := slc_inv hxv
      obtain ⟨kd, n, g1, g2, g3, g4⟩ := inIndex_inv hk (hI i hi)
      obtain ⟨inf, hin, hsz⟩ := size_inv hs
      refine ⟨.pointer (some (a.add (k * es))), ?_, ?_⟩
      · rw [g1, h2]
        simp [Instr.indexAt, asIntOf, run_underlying hu, g2, g3, g4, run_sizeOf hin, hsz]
      · rw [h5 (by omega), addr_add, Nat.add_assoc]
        exact .ptr h1
    · cases hr
  · cases hr
theorem sim_indexA {t : TypeId} {X I : Operand} {x i : Opd} {n es : Nat} {el : TypeId} {v : AV} (hx : copd gl X = some x) (hi : copd gl I = some i) (hX : OpR gl m e ρ X) (hI : OpR gl m e ρ I)
    (hu : P.underlying t = some (.array n el)) (hs : sizeT P el = some es) (hr : (ROp.idxA n es x i).run H e = some v) : ∃ c, (Instr.indexAt t (ρ X) (ρ I)).run P W = .ok c W ∧ VR m v c := by
  simp only [ROp.run] at hr
  split at hr
  · rename_i b o hxe
    split at hr
    · rename_i k hk
      injection hr with hr; subst hr
      have hxv := hX x hx
      rw [hxe] at hxv
      obtain ⟨L, h1, h2⟩ := ptr_inv hxv
      obtain ⟨kd, q, g1, g2, g3, g4⟩ := inIndex_inv hk (hI i hi)
      obtain ⟨inf, hin, hsz⟩ := size_inv hs
      refine ⟨.pointer (some ((⟨L.blk, L.off + o, none⟩ : Addr).add (k * es))), ?_, ?_⟩
      · rw [g1, h2]
        simp [Instr.indexAt, asIntOf, run_underlying hu, g2, g3, g4, run_sizeOf hin, hsz, Instr.sureAddr]
      · rw [addr_add, Nat.add_assoc]
        exact .ptr h1
    · cases hr
  · cases hr
theorem sim_field {t : TypeId} {X : Operand} {x : Opd} {fs : Array Field} {f : Nat} {g : Field} {sz : Option Nat} {v : AV} (hx : copd gl X = some x) (hX : OpR gl m e ρ X)
    (hu : P.underlying t = some (.struct fs)) (hf : fs[f]? = some g) (hs : szT P g.type = some sz) (hr : (ROp.field g.offset sz x).run H e = some v) : ∃ c, (Instr.field t (ρ X) f).run P W = .ok c W ∧ VR m v c := by
  simp only [ROp.run] at hr
  split at hr
  · rename_i cs hxe
    have hxv := hX x hx
    rw [hxe] at hxv
    obtain ⟨cs', h1, h2⟩ := hxv.agg_inv
    obtain ⟨c, h3, h4⟩ := sub_sim (W := W) hs h2 hr
    exact ⟨c, by rw [h1]; simp [Instr.field, run_underlying hu, hf, asAgg, h3], h4⟩
  · cases hr
theorem sim_fieldAddr {t : TypeId} {X : Operand} {x : Opd} {fs : Array Field} {f s : Nat} {g : Field} {v : AV} (hx : copd gl X = some x) (hX : OpR gl m e ρ X)
    (hu : P.underlying t = some (.struct fs)) (hf : fs[f]? = some g) (hs : sizeT P g.type = some s) (hs0 : s ≠ 0) (hr : (ROp.fieldAddr g.offset x).run H e = some v) : ∃ c, (Instr.fieldAt t (ρ X) f).run P W = .ok c W ∧ VR m v c := by
  simp only [ROp.run] at hr
  split at hr
  · rename_i b o hxe
    injection hr with hr; subst hr
    have hxv := hX x hx
    rw [hxe] at hxv
    obtain ⟨L, h1, h2⟩ := ptr_inv hxv
    obtain ⟨inf, hin, hsz⟩ := size_inv hs
    refine ⟨.pointer (some ⟨L.blk, L.off + (o + g.offset), none⟩), ?_, .ptr h1⟩
    rw [h2]
    have : ¬ inf.size = 0 := by omega
    simp [Instr.fieldAt, run_underlying hu, hf, Instr.sureAddr, fieldPlace, run_sizeOf hin, this, addr_add, Nat.add_assoc]
  · cases hr
theorem sim_indexArr {t : TypeId} {X I : Operand} {x i : Opd} {n es : Nat} {el : TypeId} {sz : Option Nat} {v : AV} (hx : copd gl X = some x) (hi : copd gl I = some i) (hX : OpR gl m e ρ X) (hI : OpR gl m e ρ I)
    (hu : P.underlying t = some (.array n el)) (hs : sizeT P el = some es) (hz : szT P el = some sz) (hr : (ROp.idxArr n es sz x i).run H e = some v) : ∃ c, (Instr.index t (ρ X) (ρ I)).run P W = .ok c W ∧ VR m v c := by
  simp only [ROp.run] at hr
  split at hr
  · rename_i cs hxe
    split at hr
    · rename_i k hk
      have hxv := hX x hx
      rw [hxe] at hxv
      obtain ⟨cs', h1, h2⟩ := hxv.agg_inv
      obtain ⟨kd, q, g1, g2, g3, g4⟩ := inIndex_inv hk (hI i hi)
      obtain ⟨inf, hin, hsz⟩ := size_inv hs
      obtain ⟨c, h3, h4⟩ := sub_sim (W := W) hz h2 hr
      refine ⟨c, ?_, h4⟩
      rw [g1, h1]
      simp [Instr.index, asIntOf, run_underlying hu, g2, g3, g4, run_sizeOf hin, hsz, h3]
    · cases hr
  · cases hr
theorem sim_indexStr {t : TypeId} {X I : Operand} {x i : Opd} {v : AV} (hx : copd gl X = some x) (hi : copd gl I = some i) (hX : OpR gl m e ρ X) (hI : OpR gl m e ρ I)
    (hu : P.underlying t = some .string) (hr : (ROp.idxStr x i).run H e = some v) : ∃ c, (Instr.index t (ρ X) (ρ I)).run P W = .ok c W ∧ VR m v c := by
  simp only [ROp.run] at hr
  split at hr
  · rename_i s hxe
    split at hr
    · rename_i k hk
      split at hr
      · rename_i b hb
        injection hr with hr; subst hr
        have hxv := hX x hx
        rw [hxe] at hxv
        obtain ⟨s', h1, h2⟩ := str_inv hxv
        obtain ⟨kd, q, g1, g2, g3, g4⟩ := inIndex_inv hk (hI i hi)
        refine ⟨_, ?_, .int _ _⟩
        rw [g1, h1]
        have hget : s'[k]? = some b := by
          subst h2
          have hlt : k < s'.size := by
            rw [size_of (s := s') rfl]
            exact (List.getElem?_eq_some_iff.1 hb).1
          rw [getElem?_pos s' k hlt]
          congr 1
          exact (List.getElem?_eq_some_iff.1 hb).2
        simp [Instr.index, asIntOf, run_underlying hu, g2, g4, hget]
      · cases hr
    · cases hr
  · cases hr
theorem sim_slStr {t : TypeId} {X : Operand} {x : Opd} {lo hi : Option Operand} {lo' hi' : Option Opd} {v : AV} (hx : copd gl X = some x) (hX : OpR gl m e ρ X) (hlo : copdO gl lo = some lo') (hhi : copdO gl hi = some hi')
    (hL : ∀ X, lo = some X → OpR gl m e ρ X) (hH : ∀ X, hi = some X → OpR gl m e ρ X) (hu : P.underlying t = some .string) (hr : (ROp.slStr x lo' hi').run H e = some v) :
    ∃ c, (Instr.sliceAt t (ρ X) (lo.map ρ) (hi.map ρ) none).run P W = .ok c W ∧ VR m v c := by
  simp only [ROp.run] at hr
  split at hr
  · rename_i s hxe
    split at hr
    · rename_i l hh hb
      injection hr with hr; subst hr
      have hxv := hX x hx
      rw [hxe] at hxv
      obtain ⟨s', h1, h2⟩ := str_inv hxv
      have hsz := size_of h2
      rw [← hsz] at hb
      obtain ⟨g1, g2, g3⟩ := bounds_sim (W := W) (P := P) false hb hlo hhi hL hH (Nat.le_refl _) (Nat.le_refl _)
      refine ⟨.string (s'.extract l hh), ?_, .ofStr ?_⟩
      · rw [h1]
        simp [Instr.sliceAt, Instr.slice, run_underlying hu, g1]
      · subst h2
        show (s'.extract l hh).data.toList = _
        rw [ByteArray.data_extract]
        simp [List.extract_eq_take_drop, List.drop_take]
    · cases hr
  · cases hr
theorem sim_slS {t el : TypeId} {X : Operand} {x : Opd} {es : Nat} {lo hi : Option Operand} {lo' hi' : Option Opd} {v : AV} (h : SR P gl base m H W) (hx : copd gl X = some x) (hX : OpR gl m e ρ X) (hlo : copdO gl lo = some lo') (hhi : copdO gl hi = some hi')
    (hL : ∀ X, lo = some X → OpR gl m e ρ X) (hH : ∀ X, hi = some X → OpR gl m e ρ X) (hu : P.underlying t = some (.slice el)) (hs : sizeT P el = some es) (hr : (ROp.slS es x lo' hi').run H e = some v) :
    ∃ c, (Instr.sliceAt t (ρ X) (lo.map ρ) (hi.map ρ) none).run P W = .ok c W ∧ VR m v c := by
  obtain ⟨inf, hin, hsz⟩ := size_inv hs
  simp only [ROp.run] at hr
  split at hr
  · rename_i hxe
    split at hr
    · rename_i p hb
      obtain ⟨l, hh⟩ := p
      injection hr with hr; subst hr
      have hxv := hX x hx
      rw [hxe] at hxv
      obtain ⟨g1, g2, g3⟩ := bounds_sim (W := W) (P := P) true hb hlo hhi hL hH (Nat.le_refl _) (Nat.le_refl _)
      have hl0 : l = 0 := by omega
      have hh0 : hh = 0 := by omega
      subst hl0; subst hh0
      generalize ρ X = c at hxv
      cases hxv
      refine ⟨_, ?_, .nils⟩
      simp [Instr.sliceAt, Instr.slice, run_underlying hu, g1, run_sizeOf hin]
    · cases hr
  · rename_i b o len cap hxe
    split at hr
    · rename_i l hh hb
      split at hr
      · rename_i B hB
        split at hr
        · rename_i hes
          injection hr with hr; subst hr
          have hxv := hX x hx
          rw [hxe] at hxv
          obtain ⟨L, a, cap', h1, h2, h3, h4, h5⟩ := slc_inv hxv
          have hcc : cap ≤ cap' := by rcases h4 with h4 | h4 <;> omega
          obtain ⟨g1, g2, g3⟩ := bounds_sim (W := W) (P := P) true hb hlo hhi hL hH hcc h3
          have hLes := h.es b L B h1 hB
          refine ⟨.slice (some (if cap' = l then a else a.add (l * es))) (hh - l) (cap' - l), ?_, ?_⟩
          · rw [h2]
            simp [Instr.sliceAt, Instr.slice, run_underlying hu, g1, run_sizeOf hin, hsz]
            split <;> rfl
          · refine .slc h1 (by omega) ?_ (fun hpos => ?_)
            · rcases h4 with h4 | ⟨h41, h42, h43⟩
              · exact .inl (by omega)
              · refine .inr ⟨by omega, h42, ?_⟩
                rcases hes with hes | hes
                · omega
                · rw [← hes, ← hLes, Nat.add_assoc, ← Nat.add_mul]
                  rw [show l + (cap' - l) = cap' by omega]
                  exact h43
            · rw [if_neg (by omega), h5 (by omega), addr_add, Nat.add_assoc]
        · cases hr
      · cases hr
    · cases hr
  · cases hr
theorem sim_slA {t el : TypeId} {X : Operand} {x : Opd} {n es : Nat} {lo hi : Option Operand} {lo' hi' : Option Opd} {v : AV} (hx : copd gl X = some x) (hX : OpR gl m e ρ X) (hlo : copdO gl lo = some lo') (hhi : copdO gl hi = some hi')
    (hL : ∀ X, lo = some X → OpR gl m e ρ X) (hH : ∀ X, hi = some X → OpR gl m e ρ X) (hu : P.underlying t = some (.array n el)) (hs : sizeT P el = some es) (hr : (ROp.slA n es x lo' hi').run H e = some v) :
    ∃ c, (Instr.sliceAt t (ρ X) (lo.map ρ) (hi.map ρ) none).run P W = .ok c W ∧ VR m v c := by
  obtain ⟨inf, hin, hsz⟩ := size_inv hs
  simp only [ROp.run] at hr
  split at hr
  · rename_i b o hxe
    split at hr
    · rename_i l hh hb
      injection hr with hr; subst hr
      have hxv := hX x hx
      rw [hxe] at hxv
      obtain ⟨L, h1, h2⟩ := ptr_inv hxv
      obtain ⟨g1, g2, g3⟩ := bounds_sim (W := W) (P := P) false hb hlo hhi hL hH (Nat.le_refl _) (Nat.le_refl _)
      refine ⟨.slice (some (if n = l then ⟨L.blk, L.off + o, none⟩ else (⟨L.blk, L.off + o, none⟩ : Addr).add (l * es))) (hh - l) (n - l), ?_, ?_⟩
      · rw [h2]
        simp [Instr.sliceAt, run_underlying hu, g1, run_sizeOf hin, hsz, Instr.sureAddr]
      · refine .slc h1 (by omega) (.inl rfl) (fun hpos => ?_)
        rw [if_neg (by omega), addr_add, Nat.add_assoc]
    · cases hr
  · cases hr
theorem sim_load {t : TypeId} {A : Operand} {a : Opd} {sz : Option Nat} {v : AV} (h : SR P gl base m H W) (ha : copd gl A = some a) (hA : OpR gl m e ρ A) (hz : szT P t = some sz) (hr : (ROp.load sz a).run H e = some v) :
    ∃ c, (Instr.loadAt t (ρ A)).run P W = .ok c W ∧ VR m v c := by
  simp only [ROp.run] at hr
  split at hr
  · rename_i b o hae
    split at hr
    · rename_i B hB
      have hav := hA a ha
      rw [hae] at hav
      obtain ⟨L, h1, h2⟩ := ptr_inv hav
      rw [h2]
      obtain ⟨i, hi, (⟨rfl, hag⟩ | ⟨rfl, hag⟩)⟩ := szT_cases (W := W) hz
      · simp only at hr
        split at hr
        · rename_i cs hcs
          injection hr with hr; subst hr
          obtain ⟨cs', g1, g2, _⟩ := loads P h h1 hB hcs
          exact ⟨.agg cs'.toArray, by simp [Instr.loadAt, Instr.sureAddr, loadVar, hag, run_sizeOf hi, g1], VR.agg' (by simpa using g2)⟩
        · cases hr
      · simp only at hr
        obtain ⟨g1, g2⟩ := row_inv hB
        obtain ⟨c, h3, h4⟩ := h.cell b L B h1 g1 g2 o v hr
        exact ⟨c, by simp [Instr.loadAt, Instr.sureAddr, loadVar, hag, h3], h4⟩
    · cases hr
  · cases hr
theorem sim_strOfBytes {src dst el : TypeId} {X : Operand} {x : Opd} {v : AV} (h : SR P gl base m H W) (hx : copd gl X = some x) (hX : OpR gl m e ρ X) (hus : P.underlying src = some (.slice el)) (hud : P.underlying dst = some .string) (hue : P.underlying el = some (.int .u8))
    (hr : (ROp.strOfBytes x).run H e = some v) : ∃ c, (Go.convert src dst (ρ X)).run P W = .ok c W ∧ VR m v c := by
  simp only [ROp.run] at hr
  have hxv := hX x hx
  split at hr
  · rename_i hxe
    injection hr with hr; subst hr
    rw [hxe] at hxv
    generalize ρ X = c at hxv
    cases hxv
    exact ⟨.string .empty, by simp [Go.convert, run_underlying hus, run_underlying hud, run_underlying hue, Conv.bytesToString], .ofStr rfl⟩
  · rename_i b o len cap hxe
    split at hr
    · rename_i B hB
      split at hr
      · rename_i cs hcs
        split at hr
        · rename_i l hl
          injection hr with hr; subst hr
          rw [hxe] at hxv
          obtain ⟨L, a, cap', h1, h2, h3, h4, h5⟩ := slc_inv hxv
          rw [h2]
          by_cases hlen : len = 0
          · subst hlen
            have hcs0 : cs = [] := List.length_eq_zero_iff.1 (cut_some hcs).2.1
            subst hcs0
            rw [bytesOf] at hl; injection hl with hl; subst hl
            refine ⟨.string .empty, ?_, .ofStr rfl⟩
            simp [Go.convert, run_underlying hus, run_underlying hud, run_underlying hue, Conv.bytesToString, loadCells, loadCellsFrom]
          · have hcc : cap ≤ cap' := by rcases h4 with h4 | h4 <;> omega
            rw [h5 (by omega)]
            obtain ⟨cs', g1, g2, _⟩ := loads P h h1 hB hcs
            obtain ⟨s, g3, g4⟩ := bytes_sim (P := P) (W := W) .empty g2 hl
            refine ⟨.string s, ?_, .ofStr (by rw [g4]; simp)⟩
            simp only [Go.convert, run_underlying hus, run_underlying hud, run_underlying hue, Conv.bytesToString, Sem.run_bind, Result.andThen_ok, g1]
            rw [← Array.forIn_toList]
            rw [show (cs'.toArray).toList = cs' by simp]
            refine (congrArg (fun r => Result.andThen r _) g3).trans ?_
            rfl
        · cases hr
      · cases hr
    · cases hr
  · cases hr
theorem sim_strOfRunes {src dst el : TypeId} {X : Operand} {x : Opd} {v : AV} (h : SR P gl base m H W) (hx : copd gl X = some x) (hX : OpR gl m e ρ X) (hus : P.underlying src = some (.slice el)) (hud : P.underlying dst = some .string) (hue : P.underlying el = some (.int .i32))
    (hr : (ROp.strOfRunes x).run H e = some v) : ∃ c, (Go.convert src dst (ρ X)).run P W = .ok c W ∧ VR m v c := by
  simp only [ROp.run] at hr
  have hxv := hX x hx
  split at hr
  · rename_i hxe
    injection hr with hr; subst hr
    rw [hxe] at hxv
    generalize ρ X = c at hxv
    cases hxv
    exact ⟨.string .empty, by simp [Go.convert, run_underlying hus, run_underlying hud, run_underlying hue, Conv.runesToString], .ofStr rfl⟩
  · rename_i b o len cap hxe
    split at hr
    · rename_i B hB
      split at hr
      · rename_i cs hcs
        split at hr
        · rename_i l hl
          injection hr with hr; subst hr
          rw [hxe] at hxv
          obtain ⟨L, a, cap', h1, h2, h3, h4, h5⟩ := slc_inv hxv
          rw [h2]
          by_cases hlen : len = 0
          · subst hlen
            have hcs0 : cs = [] := List.length_eq_zero_iff.1 (cut_some hcs).2.1
            subst hcs0
            rw [runesOf] at hl; injection hl with hl; subst hl
            refine ⟨.string .empty, ?_, .ofStr rfl⟩
            simp [Go.convert, run_underlying hus, run_underlying hud, run_underlying hue, Conv.runesToString, loadCells, loadCellsFrom]
          · have hcc : cap ≤ cap' := by rcases h4 with h4 | h4 <;> omega
            rw [h5 (by omega)]
            obtain ⟨cs', g1, g2, _⟩ := loads P h h1 hB hcs
            obtain ⟨s, g3, g4⟩ := runes_sim (P := P) (W := W) .empty g2 hl
            refine ⟨.string s, ?_, .ofStr (by rw [g4]; simp)⟩
            simp only [Go.convert, run_underlying hus, run_underlying hud, run_underlying hue, Conv.runesToString, Sem.run_bind, Result.andThen_ok, g1]
            rw [← Array.forIn_toList]
            rw [show (cs'.toArray).toList = cs' by simp]
            refine (congrArg (fun r => Result.andThen r _) g3).trans ?_
            rfl
        · cases hr
      · cases hr
    · cases hr
  · cases hr
end Go.Proofs.YtdkpmlhbofgfdaaGreatDoor.AM
namespace Go.Proofs.YtdkpmlhbofgfdaaGreatDoor.AM
open Go Go.RowKit

variable {base : Nat} {m : Inj} {H : AHeap} {W : World} {P : Program} {gl : List Nat} {e : Env} {ρ : Operand → Value}

theorem bindE {α β : Type} {o : Option α} {f : α → Option β} {b : β} (h : (o >>= f) = some b) : ∃ a, o = some a ∧ f a = some b := by
  cases o with
  | none => cases h
  | some a => exact ⟨a, rfl, h⟩
theorem pureE {α : Type} {a b : α} (h : (pure a : Option α) = some b) : a = b := by injection h

theorem cconv_sim {s d : TypeId} {X : Operand} {r : ROp} {v : AV} (h : SR P gl base m H W) (hop : cconv P gl s d X = some (.r r)) (hX : OpR gl m e ρ X) (hr : r.run H e = some v) : ∃ c, (Go.convert s d (ρ X)).run P W = .ok c W ∧ VR m v c := by
  unfold cconv at hop
  obtain ⟨x, hx, hop⟩ := bindE hop
  obtain ⟨S, hS, hop⟩ := bindE hop
  obtain ⟨D, hD, hop⟩ := bindE hop
  have hxv := hX x hx
  split at hop
  · have := pureE hop; injection this with this; subst this
    simp only [ROp.run] at hr
    split at hr
    · rename_i k n hxe
      injection hr with hr; subst hr
      rw [hxe] at hxv
      rw [int_inv hxv]
      exact ⟨_, by simp [Go.convert, run_underlying hS, run_underlying hD, Conv.intToInt], .int _ _⟩
    · cases hr
  · have := pureE hop; injection this with this; subst this
    simp only [ROp.run] at hr
    split at hr
    · rename_i k n hxe
      injection hr with hr; subst hr
      rw [hxe] at hxv
      rw [int_inv hxv]
      exact ⟨.string (Utf8.encode n), by simp [Go.convert, run_underlying hS, run_underlying hD, Conv.intToString], .ofStr rfl⟩
    · cases hr
  · have := pureE hop; injection this with this; subst this
    simp only [ROp.run] at hr
    split at hr
    · rename_i l hxe
      injection hr with hr; subst hr
      rw [hxe] at hxv
      obtain ⟨s', h1, h2⟩ := str_inv hxv
      rw [h1]
      exact ⟨.string s', by simp [Go.convert, run_underlying hS, run_underlying hD], .ofStr h2⟩
    · cases hr
  · obtain ⟨E, hE, hop⟩ := bindE hop
    split at hop
    · have := pureE hop; cases this
    · have := pureE hop; cases this
    · cases hop
  · obtain ⟨E, hE, hop⟩ := bindE hop
    split at hop
    · have := pureE hop; cases this
    · cases hop
  · obtain ⟨E, hE, hop⟩ := bindE hop
    split at hop
    · have := pureE hop; injection this with this; subst this
      exact sim_strOfBytes h hx hX hS hD hE hr
    · have := pureE hop; injection this with this; subst this
      exact sim_strOfRunes h hx hX hS hD hE hr
    · cases hop
  · cases hop

theorem builtin_run {c : Call} {ty : TypeId} {b : Builtin} (hb : c.callee = .builtin b) : (do let d ← resolve ρ c ty; invoke d.target d.args : Sem Next).run P W =
    (Go.builtin b c.argTypes ty (c.args.map fun | .const _ => true | _ => false) (c.args.map ρ)).run P W := by
  simp only [resolve, hb, Sem.run_bind, Sem.run_pure, Result.andThen_ok, invoke]
  rfl
theorem copds_cons {xs : List Operand} {x : Opd} {ys : List Opd} (h : copds gl xs = some (x :: ys)) : ∃ X Xs, xs = X :: Xs ∧ copd gl X = some x ∧ copds gl Xs = some ys := by
  match xs, h with
  | [], h => rw [copds] at h; cases h
  | X :: Xs, h =>
    rw [copds] at h
    split at h
    · rename_i y hy
      split at h
      · rename_i zs hz
        injection h with h; injection h with h1 h2; subst h1; subst h2
        exact ⟨X, Xs, rfl, hy, hz⟩
      · cases h
    · cases h
theorem copds_one {xs : List Operand} {x : Opd} (h : copds gl xs = some [x]) : ∃ X, xs = [X] ∧ copd gl X = some x := by
  obtain ⟨X, Xs, rfl, h1, h2⟩ := copds_cons h
  match Xs, h2 with
  | [], _ => exact ⟨X, rfl, h1⟩
  | Y :: Ys, h2 =>
    rw [copds] at h2
    split at h2
    · split at h2
      · injection h2 with h2; cases h2
      · cases h2
    · cases h2
theorem len_sim {k : Nat} {ts : Array TypeId} {ty t0 : TypeId} {U : TypeDesc} {X : Operand} {x : Opd} {v : AV} (h : SR P gl base m H W) (ht0 : ts[0]? = some t0) (hU : P.underlying t0 = some U)
    (hk : (k = 0 ∧ U = .string) ∨ (k = 1 ∧ ∃ q, U = .slice q) ∨ (k = 2 ∧ ∃ q r, U = .map q r)) (hx : VR m (x.ev e) (ρ X))
    (hr : (ROp.lng k x).run H e = some v) : ∃ cv, (Builtin.len_ ts ty #[ρ X]).run P W = .ok cv W ∧ VR m v cv := by
  simp only [ROp.run] at hr
  generalize x.ev e = a at hx hr
  generalize ρ X = c at hx
  split at hr
  · obtain rfl : U = .string := by simpa using hk
    injection hr with hr; subst hr
    obtain ⟨s, rfl, hs⟩ := str_inv hx
    exact ⟨_, by simp [Builtin.len_, ht0, run_underlying hU, size_of hs, goInt], .int _ _⟩
  · obtain ⟨q, rfl⟩ : ∃ q, U = .slice q := by simpa using hk
    injection hr with hr; subst hr
    cases hx
    exact ⟨_, by simp [Builtin.len_, ht0, run_underlying hU, goInt], .int _ _⟩
  · obtain ⟨q, rfl⟩ : ∃ q, U = .slice q := by simpa using hk
    injection hr with hr; subst hr
    cases hx
    exact ⟨_, by simp [Builtin.len_, ht0, run_underlying hU, goInt], .int _ _⟩
  · obtain ⟨q, r, rfl⟩ : ∃ q r, U = .map q r := by simpa using hk
    injection hr with hr; subst hr
    cases hx
    exact ⟨_, by simp [Builtin.len_, ht0, run_underlying hU, goInt], .int _ _⟩
  · obtain ⟨q, r, rfl⟩ : ∃ q r, U = .map q r := by simpa using hk
    split at hr
    · rename_i es hes
      injection hr with hr; subst hr
      cases hx with
      | map hb =>
        obtain ⟨_, arr, cl, h1, h2, _⟩ := h.mp _ _ es hb hes
        refine ⟨_, ?_, .int _ _⟩
        simp [Builtin.len_, ht0, run_underlying hU, goInt, getObj, Sem.run, h1, h2]
    · cases hr
  · cases hr
theorem ccall_sim {c : Call} {ty : TypeId} {r : ROp} {v : AV} (h : SR P gl base m H W) (hop : ccall P gl c = some (.r r)) (hX : ∀ X ∈ c.args.toList, OpR gl m e ρ X) (hr : r.run H e = some v) :
    ∃ cv, (do let d ← resolve ρ c ty; invoke d.target d.args : Sem Next).run P W = .ok (.value cv) W ∧ VR m v cv := by
  unfold ccall at hop
  obtain ⟨as, has, hop⟩ := bindE hop
  split at hop
  · have := pureE hop; cases this
  · obtain ⟨x, hx, hop⟩ := bindE hop
    have := pureE hop; cases this
  · cases hop
  · rename_i b hb
    obtain ⟨t0, ht0, hop⟩ := bindE hop
    have hlr : LR m (as.map (·.ev e)) (c.args.toList.map ρ) := copds_lr has hX
    split at hop
    · -- append
      obtain ⟨U, hU, hop⟩ := bindE hop
      split at hop
      · obtain ⟨t1, ht1, hop⟩ := bindE hop
        obtain ⟨U1, hU1, hop⟩ := bindE hop
        split at hop
        all_goals first
          | (obtain ⟨_, _, hop⟩ := bindE hop
             obtain ⟨_, _, hop⟩ := bindE hop
             split at hop
             · obtain ⟨_, _, hop⟩ := bindE hop
               have := pureE hop; cases this
             · cases hop)
          | cases hop
      · cases hop
    · -- len
      obtain ⟨X, hX1, hX2⟩ := copds_one has
      have hargs : c.args = #[X] := by rw [← hX1]
      have hxv := hX X (by rw [hX1]; simp) _ hX2
      obtain ⟨U, hU, hop⟩ := bindE hop
      rw [builtin_run hb, hargs, show (#[X] : Array Operand).map ρ = #[ρ X] from by simp]
      have fin : ∀ (s : Sem Value), (∃ cv, s.run P W = .ok cv W ∧ VR m v cv) → ∃ cv, (do pure (Next.value (← s)) : Sem Next).run P W = .ok (.value cv) W ∧ VR m v cv := fun s ⟨cv, h1, h2⟩ => ⟨cv, val_run h1, h2⟩
      split at hop
      · have := pureE hop; injection this with this; subst this
        exact fin _ (len_sim h ht0 hU (.inl ⟨rfl, rfl⟩) hxv hr)
      · have := pureE hop; injection this with this; subst this
        exact fin _ (len_sim h ht0 hU (.inr (.inl ⟨rfl, _, rfl⟩)) hxv hr)
      · have := pureE hop; injection this with this; subst this
        exact fin _ (len_sim h ht0 hU (.inr (.inr ⟨rfl, _, _, rfl⟩)) hxv hr)
      · have := pureE hop; injection this with this; subst this
        simp only [ROp.run] at hr; injection hr with hr; subst hr
        exact fin _ ⟨_, by simp [Builtin.len_, ht0, run_underlying hU, goInt], .int _ _⟩
      · obtain ⟨V, hV, hop⟩ := bindE hop
        split at hop
        · have := pureE hop; injection this with this; subst this
          simp only [ROp.run] at hr; injection hr with hr; subst hr
          exact fin _ ⟨_, by simp [Builtin.len_, ht0, run_underlying hU, run_underlying hV, goInt], .int _ _⟩
        · cases hop
      · cases hop
    · obtain ⟨U, hU, hop⟩ := bindE hop
      split at hop
      · obtain ⟨_, _, hop⟩ := bindE hop
        have := pureE hop; cases this
      · cases hop
    · obtain ⟨U, hU, hop⟩ := bindE hop
      split at hop
      · obtain ⟨_, _, hop⟩ := bindE hop
        have := pureE hop; cases this
      · have := pureE hop; cases this
      · cases hop
    · have := pureE hop; injection this with this; subst this
      obtain ⟨X, Xs, hX1, hX2, hX3⟩ := copds_cons has
      have hxv := hX X (by rw [hX1]; simp) _ hX2
      have hl := copds_lr (ρ := ρ) (e := e) (m := m) hX3 (fun Y hY => hX Y (by rw [hX1]; simp [hY]))
      simp only [ROp.run] at hr
      split at hr
      · rename_i k n hxe
        rw [hxe] at hxv
        obtain ⟨r, h1, h2⟩ := mnmxL_sim (P := P) (W := W) false hxv hl hr
        refine ⟨r, ?_, h2⟩
        rw [builtin_run hb]
        refine val_run ?_
        have : (c.args.map ρ).toList = ρ X :: Xs.map ρ := by rw [Array.toList_map, hX1]; rfl
        unfold Builtin.min_
        rw [this]
        exact h1
      · cases hr
    · have := pureE hop; injection this with this; subst this
      obtain ⟨X, Xs, hX1, hX2, hX3⟩ := copds_cons has
      have hxv := hX X (by rw [hX1]; simp) _ hX2
      have hl := copds_lr (ρ := ρ) (e := e) (m := m) hX3 (fun Y hY => hX Y (by rw [hX1]; simp [hY]))
      simp only [ROp.run] at hr
      split at hr
      · rename_i k n hxe
        rw [hxe] at hxv
        obtain ⟨r, h1, h2⟩ := mnmxL_sim (P := P) (W := W) true hxv hl hr
        refine ⟨r, ?_, h2⟩
        rw [builtin_run hb]
        refine val_run ?_
        have : (c.args.map ρ).toList = ρ X :: Xs.map ρ := by rw [Array.toList_map, hX1]; rfl
        unfold Builtin.max_
        rw [this]
        exact h1
      · cases hr
    · cases hop
end Go.Proofs.YtdkpmlhbofgfdaaGreatDoor.AM
namespace Go.Proofs.YtdkpmlhbofgfdaaGreatDoor.AM
open Go Go.RowKit

variable {base : Nat} {m : Inj} {H : AHeap} {W : World} {P : Program} {gl : List Nat} {e : Env} {ρ : Operand → Value}

theorem sim_lookup {t kt el : TypeId} {X K : Operand} {x k : Opd} {kk : Nat} {z : List AV} {zg ok : Bool} {v : AV} (h : SR P gl base m H W) (hU : P.underlying t = some (.map kt el)) (hkk : keyKindT P kt = some kk)
    (hz : zeroT P el = some z) (hzg : zeroAgg P el = some zg) (hx : copd gl X = some x) (hk : copd gl K = some k) (hX : OpR gl m e ρ X) (hK : OpR gl m e ρ K) (hr : (ROp.lookup kk z zg x k ok).run H e = some v) :
    ∃ c, (Instr.lookup t (ρ X) (ρ K) ok).run P W = .ok c W ∧ VR m v c := by
  simp only [ROp.run] at hr
  split at hr
  · cases hr
  · rename_i hkind
    have hkind : isKind kk (k.ev e) = true := by simpa using hkind
    obtain ⟨D, hD, hf⟩ := kind_fits hkk hkind
    have hxv := hX x hx
    have hkv := hK k hk
    obtain ⟨i, zv, hi, hzv, hzl⟩ := zero_inv (m := m) hz
    have hzvr : VR m (if zg then .agg z else z.headD .undef) zv := by
      unfold zeroAgg at hzg
      rw [hi] at hzg
      simp only [Option.bind_some, hzv, Option.map_some, Option.some.injEq] at hzg
      cases zv <;> simp only at hzg <;> subst hzg <;> first
        | (exact VR.agg' hzl)
        | (simp only [Bool.false_eq_true, if_false]
           have h0 : LR m z [_] := hzl
           have := h0.getD 0
           cases z with
           | nil => have := h0.1; simp at this
           | cons a l => simpa using this)
    have hes : ∃ (es : List (AV × AV)) (xs : List MapEntry), mapOf H (x.ev e) = some es ∧ es.length = xs.length ∧
        (∀ (j : Nat) (a b : AV) (E : MapEntry), es[j]? = some (a, b) → xs[j]? = some E → VR m a E.key ∧ VR m b E.val) ∧
        ((ρ X = .map none ∧ xs = []) ∨ ∃ r cl, ρ X = .map (some r) ∧ W.heap[r]? = some (.map xs.toArray cl)) := by
      generalize x.ev e = a at hr hxv
      generalize ρ X = c at hxv
      split at hr
      · cases hr
      · rename_i es hes
        unfold mapOf at hes
        split at hes
        · injection hes with hes; subst hes
          cases hxv
          exact ⟨[], [], rfl, rfl, fun j a b E hh => by simp at hh, .inl ⟨rfl, rfl⟩⟩
        · rename_i b
          split at hes
          · rename_i es' hH
            injection hes with hes; subst hes
            cases hxv with
            | map hb =>
              obtain ⟨_, arr, cl, h1, h2, h3⟩ := h.mp _ _ _ hb hH
              exact ⟨es', arr.toList, by simp [mapOf, hH], by simpa using h2, fun j a b E p q => h3 j a b E p (by simpa using q), .inr ⟨_, cl, rfl, by simpa using h1⟩⟩
          · cases hes
        · cases hes
    obtain ⟨es, xs, g1, g2, g3, g4⟩ := hes
    rw [g1] at hr
    simp only at hr
    split at hr
    · cases hr
    · rename_i r hfk
      have key : ∃ w f cw, hit (if zg then AV.agg z else z.headD .undef) r = (w, f) ∧ VR m w cw ∧
          ((Instr.findKey kt (ρ K) xs).run P W = .ok (if f then some (match r with | some (j, _) => j | none => 0, cw) else none) W) ∧ (f = false → cw = zv) := by
        rcases find_sim hkv hf g2 g3 hfk with ⟨rfl, h5⟩ | ⟨j, w, cw, rfl, _, h5, h6, _⟩
        · exact ⟨_, _, zv, rfl, hzvr, by simpa using run_findKey hD h5, fun _ => rfl⟩
        · exact ⟨_, _, cw, rfl, h6, by simpa using run_findKey hD h5, fun hh => by cases hh⟩
      obtain ⟨w, f, cw, k1, k2, k3, k4⟩ := key
      have hr' : v = (if ok then .tup [w, .bool f] else w) := by
        rw [k1] at hr; injection hr with hr; exact hr.symm
      refine ⟨if ok then .tuple #[cw, .bool f] else cw, ?_, ?_⟩
      · have hck : (Instr.checkKey (xs.toArray).isEmpty 10000 kt (ρ K)).run P W = .ok () W := key_ok _ kt hD hf hkv 9999
        rcases g4 with ⟨hρ, rfl⟩ | ⟨r', cl, hρ, hheap⟩
        · rw [hρ]
          simp only [Instr.lookup, Sem.run_bind, run_underlying hU, Result.andThen_ok, Sem.run_pure]
          have hck' : (Instr.checkKey (#[] : Array MapEntry).isEmpty 10000 kt (ρ K)).run P W = .ok () W := hck
          rw [hck']
          simp only [Result.andThen_ok, Sem.run_bind]
          rw [k3]
          cases f
          · simp [run_zero hi hzv, k4 rfl]
          · simp
        · rw [hρ]
          simp only [Instr.lookup, Sem.run_bind, run_underlying hU, Result.andThen_ok, Sem.run_pure, getObj, Sem.run, hheap]
          rw [hck]
          simp only [Result.andThen_ok, Sem.run_bind]
          first | rw [k3] | rw [show xs.toArray.toList = xs by simp, k3]
          cases f
          · simp [run_zero hi hzv, k4 rfl]
          · simp
      · rw [hr']
        cases ok
        · exact k2
        · exact VR.tup' (.cons k2 (.cons (.bool f) (.nil m)))
theorem rI {a : AOp} {r : ROp} (h : (pure a : Option AOp) = some (.r r)) : a = .r r := by injection h

set_option maxHeartbeats 1000000 in
theorem rsim0 (h : SR P gl base m H W) {o : Oper} {r : ROp} {v : AV} (hop : cop0 P gl o.op = some (.r r)) (hX : ∀ X ∈ o.op.operands.toList, OpR gl m e ρ X) (hr : r.run H e = some v) :
    ∃ c, (execOp ρ o).run P W = .ok (.value c) W ∧ VR m v c := by
  have fin : ∀ (s : Sem Value), (∃ cv, s.run P W = .ok cv W ∧ VR m v cv) → ∃ cv, (do pure (Next.value (← s)) : Sem Next).run P W = .ok (.value cv) W ∧ VR m v cv := fun s ⟨cv, h1, h2⟩ => ⟨cv, val_run h1, h2⟩
  obtain ⟨dst, op, type, pos, after, guard⟩ := o
  simp only at hop hX
  cases op <;> simp only [cop0, reduceCtorEq] at hop <;> simp only [Op.operands] at hX <;> simp only [execOp]
  case move X =>
    obtain ⟨x, hx, hop⟩ := bindE hop
    have := rI hop; injection this with this; subst this
    simp only [ROp.run] at hr; injection hr with hr; subst hr
    exact ⟨_, rfl, hX X (by simp) x hx⟩
  case assign X =>
    obtain ⟨x, hx, hop⟩ := bindE hop
    have := rI hop; injection this with this; subst this
    simp only [ROp.run] at hr; injection hr with hr; subst hr
    exact ⟨_, rfl, hX X (by simp) x hx⟩
  case pick C A B =>
    obtain ⟨c, hc, hop⟩ := bindE hop
    obtain ⟨a, ha, hop⟩ := bindE hop
    obtain ⟨b, hb, hop⟩ := bindE hop
    have := rI hop; injection this with this; subst this
    simp only [ROp.run] at hr
    split at hr
    · rename_i t ht
      injection hr with hr; subst hr
      have hcv := hX C (by simp) c hc
      rw [ht] at hcv
      rw [bool_inv hcv]
      refine ⟨if t then ρ A else ρ B, by simp [asBool], ?_⟩
      cases t
      · exact hX B (by simp) b hb
      · exact hX A (by simp) a ha
    · cases hr
  case alloc t => obtain ⟨_, _, hop⟩ := bindE hop; have := rI hop; cases this
  case box t X => obtain ⟨_, _, hop⟩ := bindE hop; have := rI hop; cases this
  case build t ps =>
    obtain ⟨U, hU, hop⟩ := bindE hop
    split at hop
    · rename_i fs
      obtain ⟨pl, hpl, hop⟩ := bindE hop
      obtain ⟨z, hz, hop⟩ := bindE hop
      obtain ⟨qs, hqs, hop⟩ := bindE hop
      have := rI hop; injection this with this; subst this
      simp only [ROp.run] at hr
      split at hr
      · rename_i cs hcs
        injection hr with hr; subst hr
        obtain ⟨i, zv, hi, hzv, hzl⟩ := zero_inv (m := m) hz
        obtain ⟨ds, h1, h2⟩ := fill_sim (fun i => pl[i]?) hqs (fun p hp => hX p.2 (by simp only [List.mem_toArray, Array.toList_map, List.mem_map]; exact ⟨p, hp, rfl⟩)) hzl hcs
        refine fin _ ⟨.agg ds, ?_, VR.agg' h2⟩
        have h3 := run_places (P := P) W _ _ hpl
        simp [Instr.build, run_zero hi hzv, run_underlying hU, Array.mapM_eq_mapM_toList, h3, h1]
      · cases hr
    · obtain ⟨s, hs, hop⟩ := bindE hop
      obtain ⟨z, hz, hop⟩ := bindE hop
      obtain ⟨qs, hqs, hop⟩ := bindE hop
      have := rI hop; injection this with this; subst this
      simp only [ROp.run] at hr
      split at hr
      · rename_i cs hcs
        injection hr with hr; subst hr
        obtain ⟨i, zv, hi, hzv, hzl⟩ := zero_inv (m := m) hz
        obtain ⟨inf, hin, hsz⟩ := size_inv hs
        obtain ⟨ds, h1, h2⟩ := fill_sim (fun i => some (i * s, s)) hqs (fun p hp => hX p.2 (by simp only [List.mem_toArray, Array.toList_map, List.mem_map]; exact ⟨p, hp, rfl⟩)) hzl hcs
        refine fin _ ⟨.agg ds, ?_, VR.agg' h2⟩
        simp only [Instr.build, Sem.run_bind, run_zero hi hzv, run_underlying hU, Result.andThen_ok, run_sizeOf hin, hsz, Array.toList_map]
        rw [h1]
        rfl
      · cases hr
    · cases hop
  case buildSlice t n ps =>
    obtain ⟨U, hU, hop⟩ := bindE hop
    split at hop
    · obtain ⟨_, _, hop⟩ := bindE hop
      obtain ⟨_, _, hop⟩ := bindE hop
      obtain ⟨_, _, hop⟩ := bindE hop
      have := rI hop; cases this
    · cases hop
  case insert t mm k x =>
    obtain ⟨U, hU, hop⟩ := bindE hop
    split at hop
    · obtain ⟨_, _, hop⟩ := bindE hop
      obtain ⟨_, _, hop⟩ := bindE hop
      obtain ⟨_, _, hop⟩ := bindE hop
      obtain ⟨_, _, hop⟩ := bindE hop
      have := rI hop; cases this
    · cases hop
  case load t A =>
    obtain ⟨sz, hz, hop⟩ := bindE hop
    obtain ⟨a, ha, hop⟩ := bindE hop
    have := rI hop; injection this with this; subst this
    exact fin _ (sim_load h ha (hX A (by simp)) hz hr)
  case store t A X =>
    obtain ⟨_, _, hop⟩ := bindE hop
    obtain ⟨_, _, hop⟩ := bindE hop
    obtain ⟨_, _, hop⟩ := bindE hop
    have := rI hop; cases this
  case nilCheck X =>
    obtain ⟨x, hx, hop⟩ := bindE hop
    have := rI hop; injection this with this; subst this
    have hxv := hX X (by simp) x hx
    simp only [ROp.run] at hr
    split at hr
    · rename_i hxe; injection hr with hr; subst hr; rw [hxe] at hxv
      have hxv' := hxv
      obtain ⟨L, h1, h2⟩ := ptr_inv hxv
      exact ⟨_, by rw [h2]; rfl, by rw [← h2]; exact hxv'⟩
    · rename_i hxe; injection hr with hr; subst hr; rw [hxe] at hxv
      generalize ρ X = c at hxv
      have hxv' := hxv
      cases hxv with
      | fn => exact ⟨_, rfl, hxv'⟩
    · rename_i hxe; injection hr with hr; subst hr; rw [hxe] at hxv
      generalize ρ X = c at hxv
      have hxv' := hxv
      cases hxv with
      | yld => exact ⟨_, rfl, hxv'⟩
    · rename_i hxe; injection hr with hr; subst hr; rw [hxe] at hxv
      generalize ρ X = c at hxv
      have hxv' := hxv
      cases hxv with
      | iface => exact ⟨_, rfl, hxv'⟩
    · cases hr
  case binOp op t X Y yt =>
    refine fin _ ?_
    exact cbin_sim (yt := yt) hop (hX X (by simp)) (hX Y (by simp)) hr
  case unOp op t X =>
    cases op <;> simp only [reduceCtorEq] at hop
    · obtain ⟨x, hx, hop⟩ := bindE hop
      have := rI hop; injection this with this; subst this
      have hxv := hX X (by simp) x hx
      simp only [ROp.run] at hr
      split at hr
      · rename_i k n hxe
        injection hr with hr; subst hr
        rw [hxe] at hxv
        rw [int_inv hxv]
        exact fin _ ⟨_, by simp only [Op.unary, Op.intArith]; rfl, .int _ _⟩
      · cases hr
    · obtain ⟨x, hx, hop⟩ := bindE hop
      have := rI hop; injection this with this; subst this
      have hxv := hX X (by simp) x hx
      simp only [ROp.run] at hr
      split at hr
      · rename_i b hxe
        injection hr with hr; subst hr
        rw [hxe] at hxv
        rw [bool_inv hxv]
        exact fin _ ⟨_, by simp only [Op.unary]; rfl, .bool _⟩
      · cases hr
  case convert s d X => exact fin _ (cconv_sim h hop (hX X (by simp)) hr)
  case makeInterface t X =>
    obtain ⟨U, hU, hop⟩ := bindE hop
    split at hop
    · cases hop
    · rename_i hni
      obtain ⟨x, hx, hop⟩ := bindE hop
      have := rI hop; injection this with this; subst this
      simp only [ROp.run] at hr; injection hr with hr; subst hr
      refine fin _ ⟨.iface t (ρ X), ?_, .iface (hX X (by simp) x hx)⟩
      simp only [Instr.makeInterface, Sem.run_bind, run_underlying hU, Result.andThen_ok]
      cases U <;> first | rfl | exact absurd rfl (hni _)
  case makeFunc f as bs =>
    obtain ⟨xs, hxs, hop⟩ := bindE hop
    obtain ⟨ys, hys, hop⟩ := bindE hop
    have := rI hop; injection this with this; subst this
    simp only [ROp.run] at hr; injection hr with hr; subst hr
    have h1 : LR m (xs.map (·.ev e)) (as.toList.map ρ) := copds_lr hxs (fun X hx => hX X (by simp at hx ⊢; exact .inl hx))
    have h2 : LR m (ys.map (·.ev e)) (bs.toList.map ρ) := copds_lr hys (fun X hx => hX X (by simp at hx ⊢; exact .inr hx))
    refine fin _ ⟨.func f (as.map ρ) (bs.map ρ), rfl, .fn ?_ ?_ ?_ ?_⟩
    · simpa using h1.1
    · intro i u u' a b; exact h1.2 i u u' a (by rw [← Array.toList_map, Array.getElem?_toList]; exact b)
    · simpa using h2.1
    · intro i u u' a b; exact h2.2 i u u' a (by rw [← Array.toList_map, Array.getElem?_toList]; exact b)
  case makeMap t rs => cases rs <;> simp only [reduceCtorEq] at hop; have := rI hop; cases this
  case makeSlice t l c =>
    obtain ⟨U, hU, hop⟩ := bindE hop
    split at hop
    · obtain ⟨_, _, hop⟩ := bindE hop
      obtain ⟨_, _, hop⟩ := bindE hop
      obtain ⟨_, _, hop⟩ := bindE hop
      obtain ⟨_, _, hop⟩ := bindE hop
      obtain ⟨_, _, hop⟩ := bindE hop
      have := rI hop; cases this
    · cases hop
  case slice t X lo hi mx =>
    cases mx <;> simp only [reduceCtorEq] at hop
    obtain ⟨x, hx, hop⟩ := bindE hop
    obtain ⟨lo', hlo, hop⟩ := bindE hop
    obtain ⟨hi', hhi, hop⟩ := bindE hop
    obtain ⟨U, hU, hop⟩ := bindE hop
    have hL : ∀ Y, lo = some Y → OpR gl m e ρ Y := fun Y hy => hX Y (by subst hy; simp)
    have hH : ∀ Y, hi = some Y → OpR gl m e ρ Y := fun Y hy => hX Y (by subst hy; simp)
    split at hop
    · obtain ⟨s, hs, hop⟩ := bindE hop
      have := rI hop; injection this with this; subst this
      exact fin _ (sim_slA hx (hX X (by simp)) hlo hhi hL hH hU hs hr)
    · have := rI hop; injection this with this; subst this
      exact fin _ (sim_slStr hx (hX X (by simp)) hlo hhi hL hH hU hr)
    · obtain ⟨s, hs, hop⟩ := bindE hop
      have := rI hop; injection this with this; subst this
      exact fin _ (sim_slS h hx (hX X (by simp)) hlo hhi hL hH hU hs hr)
    · cases hop
  case fieldAddr t X f =>
    obtain ⟨U, hU, hop⟩ := bindE hop
    split at hop
    · obtain ⟨g, hg, hop⟩ := bindE hop
      obtain ⟨s, hs, hop⟩ := bindE hop
      split at hop
      · cases hop
      · rename_i hs0
        obtain ⟨x, hx, hop⟩ := bindE hop
        have := rI hop; injection this with this; subst this
        exact fin _ (sim_fieldAddr hx (hX X (by simp)) hU hg hs hs0 hr)
    · cases hop
  case field t X f =>
    obtain ⟨U, hU, hop⟩ := bindE hop
    split at hop
    · obtain ⟨g, hg, hop⟩ := bindE hop
      obtain ⟨s, hs, hop⟩ := bindE hop
      obtain ⟨x, hx, hop⟩ := bindE hop
      have := rI hop; injection this with this; subst this
      exact fin _ (sim_field hx (hX X (by simp)) hU hg hs hr)
    · cases hop
  case indexAddr t X I =>
    obtain ⟨U, hU, hop⟩ := bindE hop
    split at hop
    · obtain ⟨s, hs, hop⟩ := bindE hop
      obtain ⟨x, hx, hop⟩ := bindE hop
      obtain ⟨i, hi, hop⟩ := bindE hop
      have := rI hop; injection this with this; subst this
      exact fin _ (sim_indexA hx hi (hX X (by simp)) (hX I (by simp)) hU hs hr)
    · obtain ⟨s, hs, hop⟩ := bindE hop
      obtain ⟨x, hx, hop⟩ := bindE hop
      obtain ⟨i, hi, hop⟩ := bindE hop
      have := rI hop; injection this with this; subst this
      exact fin _ (sim_index h hx hi (hX X (by simp)) (hX I (by simp)) hU hs hr)
    · cases hop
  case index t X I =>
    obtain ⟨U, hU, hop⟩ := bindE hop
    split at hop
    · obtain ⟨s, hs, hop⟩ := bindE hop
      obtain ⟨z, hz, hop⟩ := bindE hop
      obtain ⟨x, hx, hop⟩ := bindE hop
      obtain ⟨i, hi, hop⟩ := bindE hop
      have := rI hop; injection this with this; subst this
      exact fin _ (sim_indexArr hx hi (hX X (by simp)) (hX I (by simp)) hU hs hz hr)
    · obtain ⟨x, hx, hop⟩ := bindE hop
      obtain ⟨i, hi, hop⟩ := bindE hop
      have := rI hop; injection this with this; subst this
      exact fin _ (sim_indexStr hx hi (hX X (by simp)) (hX I (by simp)) hU hr)
    · cases hop
  case lookup t X K ok =>
    obtain ⟨U, hU, hop⟩ := bindE hop
    split at hop
    · rename_i kt el
      obtain ⟨kk, hkk, hop⟩ := bindE hop
      obtain ⟨z, hz, hop⟩ := bindE hop
      obtain ⟨zg, hzg, hop⟩ := bindE hop
      obtain ⟨x, hx, hop⟩ := bindE hop
      obtain ⟨k, hk, hop⟩ := bindE hop
      have := rI hop; injection this with this; subst this
      exact fin _ (sim_lookup h hU hkk hz hzg hx hk (hX X (by simp)) (hX K (by simp)) hr)
    · cases hop
  case mapUpdate t mm k x =>
    obtain ⟨U, hU, hop⟩ := bindE hop
    split at hop
    · obtain ⟨_, _, hop⟩ := bindE hop
      obtain ⟨_, _, hop⟩ := bindE hop
      obtain ⟨_, _, hop⟩ := bindE hop
      obtain ⟨_, _, hop⟩ := bindE hop
      have := rI hop; cases this
    · cases hop
  case extract X i =>
    obtain ⟨x, hx, hop⟩ := bindE hop
    have := rI hop; injection this with this; subst this
    have hxv := hX X (by simp) x hx
    simp only [ROp.run] at hr
    split at hr
    · rename_i vs hxe
      rw [hxe] at hxv
      obtain ⟨cs, h1, h2⟩ := hxv.tup_inv
      obtain ⟨c, h3, h4⟩ := h2.get hr
      refine fin _ ⟨c, ?_, h4⟩
      rw [h1]
      have h3' : cs[i]? = some c := by simpa using h3
      simp [Instr.extract, h3']
    · cases hr
  case call c => exact ccall_sim h hop (fun X hx => hX X (by simp only [Call.operands, Array.toList_append, List.mem_append]; exact .inr hx)) hr
end Go.Proofs.YtdkpmlhbofgfdaaGreatDoor.AM
