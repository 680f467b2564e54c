/-
  Operations that make no memory and write none, all of them.
-/
import Derived.Test.YtcfjjeipdacbcaaDoorAmR
set_option linter.unusedSimpArgs false
set_option linter.unusedVariables false
namespace Go.Proofs.YtcfjjeipdacbcaaDoor.AM
open Go Go.RowKit

variable {base : Nat} {m : Inj} {H : AHeap} {W : World} {P : Program} {gl : List Nat} {e : Env} {ρ : Operand → Value}

/-- what is told of an operation -/
def RGoal (P : Program) (W : World) (m : Inj) (ρ : Operand → Value) (o : Oper) (v : AV) : Prop := ∃ c, (execOp ρ o).run P W = .ok (.value c) W ∧ VR m v c

theorem val_run {s : Sem Value} {c : Value} (h : s.run P W = .ok c W) : (do pure (Next.value (← s)) : Sem Next).run P W = .ok (.value c) W := by simp [h]

theorem r_bin {op : BinOp} {t yt ty : TypeId} {X Y : Operand} {x y : Opd} {v : AV} (hx : VR m (x.ev e) (ρ X)) (hy : VR m (y.ev e) (ρ Y)) (hne : op ≠ .eql ∧ op ≠ .neq ∨ (∃ k n j n', x.ev e = .int k n ∧ y.ev e = .int j n') ∨ (∃ s s', x.ev e = .str s ∧ y.ev e = .str s'))
    (hr : binV op (x.ev e) (y.ev e) = some v) : ∃ c, (do eqGuard op t X Y (ρ X) (ρ Y); Go.binOp op t (ρ X) (ρ Y) : Sem Value).run P W = .ok c W ∧ VR m v c := by
  obtain ⟨c, h1, h2⟩ := sim_bin P W op t hx hy hr
  refine ⟨c, ?_, h2⟩
  have hg : (eqGuard op t X Y (ρ X) (ρ Y)).run P W = .ok () W := by
    refine guard_ok P W op t X Y _ _ (fun u w hc => ?_) (fun hc => ?_)
    · rw [hc.1, hc.2] at h1; cases op <;> simp [binV] at hr
      all_goals
        (rw [hc.1] at hx; generalize x.ev e = z at hx hr; cases hx; simp [binV] at hr)
    · rw [hc.1] at hx; generalize x.ev e = z at hx hr; cases hx; simp [binV] at hr
  simp only [Sem.run_bind, hg, Result.andThen_ok]
  exact h1
theorem binV_kind {op : BinOp} {x y v : AV} (h : binV op x y = some v) : (∃ k n j n', x = .int k n ∧ y = .int j n') ∨ (∃ s s', x = .str s ∧ y = .str s') := by
  unfold binV at h
  split at h
  · exact .inl ⟨_, _, _, _, rfl, rfl⟩
  · exact .inr ⟨_, _, rfl, rfl⟩
  · cases h

theorem cbin_sim {op : BinOp} {t yt : TypeId} {X Y : Operand} {r : ROp} {v : AV} (hop : cbin P gl op t X Y = some (.r r)) (hX : OpR gl m e ρ X) (hY : OpR gl m e ρ Y) (hr : r.run H e = some v) :
    ∃ c, (do eqGuard op t X Y (ρ X) (ρ Y); Go.binOp op t (ρ X) (ρ Y) : Sem Value).run P W = .ok c W ∧ VR m v c := by
  unfold cbin at hop
  cases hx : copd gl X with
  | none => simp [hx] at hop
  | some x =>
  cases hy : copd gl Y with
  | none => simp [hx, hy] at hop
  | some y =>
  have hxv := hX x hx
  have hyv := hY y hy
  simp only [hx, hy, Option.bind_eq_bind, Option.bind_some] at hop
  have easy : (ROp.bin op x y).run H e = some v → ∃ c, (do eqGuard op t X Y (ρ X) (ρ Y); Go.binOp op t (ρ X) (ρ Y) : Sem Value).run P W = .ok c W ∧ VR m v c := fun h' => by
    simp only [ROp.run] at h'
    exact r_bin (ty := 0) (yt := 0) hxv hyv (.inr (binV_kind h')) h'
  have eqs : (op = .eql ∨ op = .neq) → ∃ g : Bool, op = (if g then .neq else .eql) := by
    rintro (rfl | rfl)
    · exact ⟨false, rfl⟩
    · exact ⟨true, rfl⟩
  by_cases hq : op = .eql ∨ op = .neq
  · obtain ⟨g, hg1⟩ := eqs hq
    clear eqs
    have hop' : (match P.underlying t with
      | none => none
      | some (.int _) | some .string => some (AOp.r (.bin op x y))
      | some .bool => some (.r (.beq g x y))
      | some (.pointer _) => some (.r (.nileq 0 g x y))
      | some (.slice _) => some (.r (.nileq 1 g x y))
      | some (.map _ _) => some (.r (.nileq 2 g x y))
      | some (.func _ _ _) => some (.r (.nileq 3 g x y))
      | some (.interface _) => if isNilIface X || isNilIface Y then some (.r (.nileq 4 g x y)) else none
      | some (.struct _) => (flatT P 8 t).bind fun ks => if packedT P 8 t && !P.eqGuardType P.depth t && P.cellsOf t == ks.length then some (.r (.seq ks g x y)) else none
      | _ => none) = some (.r r) := by
      rw [← hop]
      rcases hq with rfl | rfl <;> cases g <;> simp at hg1 <;> cases hu : P.underlying t with
      | none => rfl
      | some D => cases D <;> simp
    clear hop
    rw [hg1]
    split at hop'
    · cases hop'
    · injection hop' with h; injection h with h; subst h; rw [← hg1]; exact easy hr
    · injection hop' with h; injection h with h; subst h; rw [← hg1]; exact easy hr
    · rename_i hu
      injection hop' with h; injection h with h; subst h
      simp only [ROp.run] at hr
      split at hr
      · rename_i a b ha hb
        rw [ha] at hxv; rw [hb] at hyv
        rw [bool_inv hxv, bool_inv hyv]
        injection hr with hr; subst hr
        refine ⟨_, ?_, .bool _⟩
        have hgd : (eqGuard (if g then .neq else .eql) t X Y (.bool a) (.bool b)).run P W = .ok () W := guard_ok P W _ t X Y _ _ (by simp) (by simp)
        simp only [Sem.run_bind, hgd, Result.andThen_ok]
        refine eql_run P W g t _ _ _ (by simp) (by simp) (by simp) (by simp) ?_
        rw [(eqDeep t _ _).choose_spec]
        exact run_equalIn_bool' W _ t a b hu
      · cases hr
    all_goals try (
      rename_i hu
      injection hop' with h; injection h with h; subst h
      simp only [ROp.run] at hr
      split at hr
      · rename_i b hb
        injection hr with hr; subst hr
        exact ⟨_, sim_nileq P W g t X Y hxv hyv hb hu (by simp), .bool _⟩
      · cases hr)
    · rename_i hu
      split at hop'
      · rename_i hn
        injection hop' with h; injection h with h; subst h
        simp only [ROp.run] at hr
        split at hr
        · rename_i b hb
          injection hr with hr; subst hr
          exact ⟨_, sim_nileq P W g t X Y hxv hyv hb hu (by simpa using hn), .bool _⟩
        · cases hr
      · cases hop'
    · rename_i fs hu
      rw [Option.bind_eq_some_iff] at hop'
      obtain ⟨ks, hks, hop'⟩ := hop'
      split at hop'
      · rename_i hc
        simp only [Bool.and_eq_true, Bool.not_eq_true', beq_iff_eq] at hc
        obtain ⟨⟨hpk, hgt⟩, hlen⟩ := hc
        injection hop' with h; injection h with h; subst h
        simp only [ROp.run] at hr
        split at hr
        · rename_i xs ys hxs hys
          rw [hxs] at hxv; rw [hys] at hyv
          obtain ⟨xs', hcx, hlx⟩ := hxv.agg_inv
          obtain ⟨ys', hcy, hly⟩ := hyv.agg_inv
          rw [hcx, hcy]
          split at hr
          · rename_i hlens
            split at hr
            · rename_i b hb
              injection hr with hr; subst hr
              refine ⟨_, ?_, .bool _⟩
              have hgd : (eqGuard (if g then .neq else .eql) t X Y (.agg xs') (.agg ys')).run P W = .ok () W := run_eqGuard_agg W _ t X Y xs' ys' hgt
              simp only [Sem.run_bind, hgd, Result.andThen_ok]
              refine eql_run P W g t _ _ _ (by simp) (by simp) (by simp) (by simp) ?_
              rcases sim_flat P W 8 t ks hks hpk 10000 (by omega) xs ys xs'.toList ys'.toList b hlx hly (by omega) (by omega) hb with ⟨_, _, h1⟩ | ⟨D, _, _, hD, hk, _⟩
              · exact h1
              · rw [hu] at hD; injection hD with hD; subst hD; simp at hk
            · cases hr
          · cases hr
        · cases hr
      · cases hop'
    · cases hop'
  · have : op ≠ .eql ∧ op ≠ .neq := ⟨fun h => hq (.inl h), fun h => hq (.inr h)⟩
    have hop' : some (AOp.r (.bin op x y)) = some (.r r) := by rw [← hop]; cases op <;> first | rfl | exact absurd rfl this.1 | exact absurd rfl this.2
    injection hop' with h; injection h with h; subst h
    exact easy hr
end Go.Proofs.YtcfjjeipdacbcaaDoor.AM
