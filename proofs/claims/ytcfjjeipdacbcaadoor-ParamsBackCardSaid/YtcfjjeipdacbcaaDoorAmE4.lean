/-
  Operations that write: in one theorem.
-/
import Derived.Test.YtcfjjeipdacbcaaDoorAmE3
set_option linter.unusedSimpArgs false
set_option linter.unusedVariables false
namespace Go.Proofs.YtcfjjeipdacbcaaDoor.AM
open Go Go.RowKit

variable {base : Nat} {m : Inj} {H : AHeap} {W : World} {P : Program} {gl : List Nat} {e : Env} {ρ : Operand → Value}

def EOp.calls : EOp → Bool
  | .call _ _ | .callv _ _ | .fail => true
  | _ => false
theorem copds_two {xs : List Operand} {x y : Opd} (h : copds gl xs = some [x, y]) : ∃ X Y, xs = [X, Y] ∧ copd gl X = some x ∧ copd gl Y = some y := by
  obtain ⟨X, Xs, rfl, h1, h2⟩ := copds_cons h
  obtain ⟨Y, rfl, h3⟩ := copds_one h2
  exact ⟨X, Y, rfl, h1, h3⟩
set_option maxHeartbeats 1000000 in
theorem esim {cl : CallH} (h : SR P gl base m H W) {o : Oper} {x : EOp} {v : AV} {H' : AHeap} (hop : cop P gl o.op = some (.e x)) (hX : ∀ X ∈ o.op.operands.toList, OpR gl m e ρ X) (hnc : x.calls = false) (hr : x.run cl H e = some (v, H')) :
    ∃ c W' m', ((execOp ρ o).run P W = .ok (.value c) W' ∨ ((execOp ρ o).run P W = .ok .skip W' ∧ c = undef)) ∧ Post P gl base m H W m' H' W' ∧ VR m' v c := by
  have finV : ∀ (s : Sem Value), (∃ c W' m', s.run P W = .ok c W' ∧ Post P gl base m H W m' H' W' ∧ VR m' v c) →
      ∃ c W' m', ((do pure (Next.value (← s)) : Sem Next).run P W = .ok (.value c) W' ∨ ((do pure (Next.value (← s)) : Sem Next).run P W = .ok .skip W' ∧ c = undef)) ∧ Post P gl base m H W m' H' W' ∧ VR m' v c :=
    fun s ⟨c, W', m', h1, h2⟩ => ⟨c, W', m', .inl (by simp [h1]), h2⟩
  have finU : ∀ (s : Sem Unit), (∃ W' m', s.run P W = .ok () W' ∧ Post P gl base m H W m' H' W' ∧ v = .undef) →
      ∃ c W' m', ((do s; pure Next.skip : Sem Next).run P W = .ok (.value c) W' ∨ ((do s; pure Next.skip : Sem Next).run P W = .ok .skip W' ∧ c = undef)) ∧ Post P gl base m H W m' H' W' ∧ VR m' v c :=
    fun s ⟨W', m', h1, h2, h3⟩ => ⟨undef, W', m', .inr ⟨by simp [h1], rfl⟩, h2, by rw [h3]; exact VR.undef m'⟩
  obtain ⟨dst, op, type, pos, after, guard⟩ := o
  simp only at hop hX
  cases op <;> simp only [cop, reduceCtorEq] at hop <;> simp only [Op.operands] at hX <;> simp only [execOp]
  case move X => obtain ⟨_, _, hop⟩ := bindE hop; have := eI hop; cases this
  case assign X => obtain ⟨_, _, hop⟩ := bindE hop; have := eI hop; cases this
  case pick => obtain ⟨_, _, hop⟩ := bindE hop; obtain ⟨_, _, hop⟩ := bindE hop; obtain ⟨_, _, hop⟩ := bindE hop; have := eI hop; cases this
  case alloc t => obtain ⟨_, _, hop⟩ := bindE hop; have := eI hop; cases this
  case box t X => obtain ⟨_, _, hop⟩ := bindE hop; have := eI hop; cases this
  case build t ps =>
    obtain ⟨_, _, hop⟩ := bindE hop
    split at hop
    · obtain ⟨_, _, hop⟩ := bindE hop; obtain ⟨_, _, hop⟩ := bindE hop; obtain ⟨_, _, hop⟩ := bindE hop; have := eI hop; cases this
    · obtain ⟨_, _, hop⟩ := bindE hop; obtain ⟨_, _, hop⟩ := bindE hop; obtain ⟨_, _, hop⟩ := bindE hop; have := eI hop; cases this
    · cases hop
  case buildSlice t n ps =>
    obtain ⟨U, hU, hop⟩ := bindE hop
    split at hop
    · obtain ⟨_, _, hop⟩ := bindE hop; obtain ⟨_, _, hop⟩ := bindE hop; obtain ⟨_, _, hop⟩ := bindE hop; have := eI hop; cases this
    · cases hop
  case insert t mm k x0 =>
    obtain ⟨U, hU, hop⟩ := bindE hop
    split at hop
    · obtain ⟨kk', hkk, hop⟩ := bindE hop
      obtain ⟨m', hm', hop⟩ := bindE hop
      obtain ⟨k', hk', hop⟩ := bindE hop
      obtain ⟨x', hx', hop⟩ := bindE hop
      have := eI hop; injection this with this; subst this
      exact finU _ (sim_mapUpd h hU hkk hm' hk' hx' (hX mm (by simp)) (hX k (by simp)) (hX x0 (by simp)) hr)
    · cases hop
  case load t A => obtain ⟨_, _, hop⟩ := bindE hop; obtain ⟨_, _, hop⟩ := bindE hop; have := eI hop; cases this
  case store t A X =>
    obtain ⟨n, hn, hop⟩ := bindE hop
    obtain ⟨a', ha', hop⟩ := bindE hop
    obtain ⟨x', hx', hop⟩ := bindE hop
    have := eI hop; injection this with this; subst this
    exact finU _ (sim_store h ha' hx' (hX A (by simp)) (hX X (by simp)) hn hr)
  case nilCheck X => obtain ⟨_, _, hop⟩ := bindE hop; have := eI hop; cases this
  case binOp op t X Y yt =>
    unfold cbin at hop
    obtain ⟨_, _, hop⟩ := bindE hop; obtain ⟨_, _, hop⟩ := bindE hop
    split at hop
    all_goals try (have := eI hop; cases this; done)
    all_goals
      obtain ⟨_, _, hop⟩ := bindE hop
      split at hop <;> first
        | (have := eI hop; cases this; done)
        | (cases hop; done)
        | (split at hop <;> first | (have := eI hop; cases this; done) | (cases hop; done))
        | (obtain ⟨_, _, hop⟩ := bindE hop; split at hop <;> first | (have := eI hop; cases this; done) | (cases hop; done))
  case unOp op t X => cases op <;> simp only [reduceCtorEq] at hop <;> (obtain ⟨_, _, hop⟩ := bindE hop; have := eI hop; cases this)
  case convert s d X =>
    unfold cconv at hop
    obtain ⟨y, hy, hop⟩ := bindE hop
    obtain ⟨S, hS, hop⟩ := bindE hop
    obtain ⟨D, hD, hop⟩ := bindE hop
    split at hop
    all_goals first
      | (have := eI hop; cases this; done)
      | (cases hop; done)
      | (obtain ⟨_, _, hop⟩ := bindE hop
         split at hop
         · have := eI hop; cases this
         · cases hop)
  case makeInterface t X =>
    obtain ⟨U, hU, hop⟩ := bindE hop
    split at hop
    · cases hop
    · obtain ⟨_, _, hop⟩ := bindE hop; have := eI hop; cases this
  case makeFunc f as bs => obtain ⟨_, _, hop⟩ := bindE hop; obtain ⟨_, _, hop⟩ := bindE hop; have := eI hop; cases this
  case makeMap t rs => cases rs <;> simp only [reduceCtorEq] at hop; have := eI hop; cases this
  case makeSlice t l c =>
    obtain ⟨U, hU, hop⟩ := bindE hop
    split at hop
    · obtain ⟨_, _, hop⟩ := bindE hop; obtain ⟨_, _, hop⟩ := bindE hop; obtain ⟨_, _, hop⟩ := bindE hop; obtain ⟨_, _, hop⟩ := bindE hop; obtain ⟨_, _, hop⟩ := bindE hop; have := eI hop; cases this
    · cases hop
  case slice t X lo hi mx =>
    cases mx <;> simp only [reduceCtorEq] at hop
    obtain ⟨_, _, hop⟩ := bindE hop; obtain ⟨_, _, hop⟩ := bindE hop; obtain ⟨_, _, hop⟩ := bindE hop; obtain ⟨_, _, hop⟩ := bindE hop
    split at hop <;> first
      | (obtain ⟨_, _, hop⟩ := bindE hop; have := eI hop; cases this; done)
      | (have := eI hop; cases this; done)
      | (cases hop; done)
  case fieldAddr t X f =>
    obtain ⟨U, hU, hop⟩ := bindE hop
    split at hop
    · obtain ⟨_, _, hop⟩ := bindE hop; obtain ⟨_, _, hop⟩ := bindE hop
      split at hop
      · cases hop
      · obtain ⟨_, _, hop⟩ := bindE hop; have := eI hop; cases this
    · cases hop
  case field t X f =>
    obtain ⟨U, hU, hop⟩ := bindE hop
    split at hop
    · obtain ⟨_, _, hop⟩ := bindE hop; obtain ⟨_, _, hop⟩ := bindE hop; obtain ⟨_, _, hop⟩ := bindE hop; have := eI hop; cases this
    · cases hop
  case indexAddr t X I =>
    obtain ⟨U, hU, hop⟩ := bindE hop
    split at hop
    · obtain ⟨_, _, hop⟩ := bindE hop; obtain ⟨_, _, hop⟩ := bindE hop; obtain ⟨_, _, hop⟩ := bindE hop; have := eI hop; cases this
    · obtain ⟨_, _, hop⟩ := bindE hop; obtain ⟨_, _, hop⟩ := bindE hop; obtain ⟨_, _, hop⟩ := bindE hop; have := eI hop; cases this
    · cases hop
  case index t X I =>
    obtain ⟨U, hU, hop⟩ := bindE hop
    split at hop
    · obtain ⟨_, _, hop⟩ := bindE hop; obtain ⟨_, _, hop⟩ := bindE hop; obtain ⟨_, _, hop⟩ := bindE hop; obtain ⟨_, _, hop⟩ := bindE hop; have := eI hop; cases this
    · obtain ⟨_, _, hop⟩ := bindE hop; obtain ⟨_, _, hop⟩ := bindE hop; have := eI hop; cases this
    · cases hop
  case lookup t X K ok =>
    obtain ⟨U, hU, hop⟩ := bindE hop
    split at hop
    · obtain ⟨_, _, hop⟩ := bindE hop; obtain ⟨_, _, hop⟩ := bindE hop; obtain ⟨_, _, hop⟩ := bindE hop; obtain ⟨_, _, hop⟩ := bindE hop; obtain ⟨_, _, hop⟩ := bindE hop; have := eI hop; cases this
    · cases hop
  case mapUpdate t mm k x0 =>
    obtain ⟨U, hU, hop⟩ := bindE hop
    split at hop
    · obtain ⟨kk', hkk, hop⟩ := bindE hop
      obtain ⟨m', hm', hop⟩ := bindE hop
      obtain ⟨k', hk', hop⟩ := bindE hop
      obtain ⟨x', hx', hop⟩ := bindE hop
      have := eI hop; injection this with this; subst this
      exact finU _ (sim_mapUpd h hU hkk hm' hk' hx' (hX mm (by simp)) (hX k (by simp)) (hX x0 (by simp)) hr)
    · cases hop
  case extract X i => obtain ⟨_, _, hop⟩ := bindE hop; have := eI hop; cases this
  case call c =>
    unfold ccall at hop
    obtain ⟨as, has, hop⟩ := bindE hop
    split at hop
    · have := eI hop; injection this with this; subst this; simp [EOp.calls] at hnc
    · obtain ⟨_, _, hop⟩ := bindE hop; have := eI hop; injection this with this; subst this; simp [EOp.calls] at hnc
    · cases hop
    · rename_i bb hb
      obtain ⟨t0, ht0, hop⟩ := bindE hop
      have hXa : ∀ X ∈ c.args.toList, OpR gl m e ρ X := fun X hx => hX X (by simp only [Call.operands, Array.toList_append, List.mem_append]; exact .inr hx)
      rw [builtin_run hb]
      split at hop
      · -- append
        obtain ⟨U, hU, hop⟩ := bindE hop
        split at hop
        · rename_i el
          obtain ⟨t1, ht1, hop⟩ := bindE hop
          obtain ⟨U1, hU1, hop⟩ := bindE hop
          obtain ⟨X, Y, hxy, hX1, hY1⟩ := copds_two has
          have hargs : c.args.map ρ = #[ρ X, ρ Y] := by
            apply Array.ext'; rw [Array.toList_map, hxy]; rfl
          rw [hargs]
          have app : ∀ (sO xO : Opd) (hs0 : copd gl X = some sO) (hx0 : copd gl Y = some xO) (hnz : ∀ k, U1 ≠ .int k) (z : List AV) (k by_ : Nat), zeroT P el = some z → sizeT P el = some k → z.length = k → bytesT P el = some by_ → x = .append k by_ sO xO →
              ∃ c2 W' m', (Builtin.append_ c.argTypes type #[ρ X, ρ Y]).run P W = .ok c2 W' ∧ Post P gl base m H W m' H' W' ∧ VR m' v c2 := by
            intro sO xO hs0 hx0 hnz z k by_ hz hk hzk hby hxe
            subst hxe
            have hxv := hXa X (by rw [hxy]; simp) _ hs0
            have hyv := hXa Y (by rw [hxy]; simp) _ hx0
            obtain ⟨inf, hin, hsz⟩ := size_inv hk
            have hby' : inf.bytes = by_ := by unfold bytesT at hby; rw [hin] at hby; injection hby
            obtain ⟨i2, zv, hi2, hzv, hzl⟩ := zero_inv (m := m) hz
            rw [hin] at hi2; injection hi2 with hi2; subst hi2
            simp only [EOp.run] at hr
            split at hr
            · rename_i n cs hsc
              split at hr
              · cases hr
              · rename_i hcond
                obtain ⟨cs', k1, k2, k3, k4⟩ := srcCells_sim (P := P) h hyv hsc
                have g1 : k ≠ 0 := fun hh => hcond (.inl hh)
                have g2 : by_ ≠ 0 := fun hh => hcond (.inr (.inl hh))
                have g3 : cs.all AV.one = true := by
                  cases hq : cs.all AV.one with
                  | true => rfl
                  | false => exact absurd (.inr (.inr (by simp [hq]))) hcond
                refine append_sim h ht0 ht1 hU hU1 hnz hin hsz hby' hzv ?_ g1 g2 g3 hxv k1 k2 k3 (fun W2 hW2 => ?_) hr
                · have := hzl.1; simp at this; omega
                · have := k4 n (Nat.le_refl _) W2 hW2
                  rw [← k2, List.take_length] at this
                  exact this
            · cases hr
          split at hop
          · obtain ⟨z, hz, hop⟩ := bindE hop
            obtain ⟨k, hk, hop⟩ := bindE hop
            split at hop
            · rename_i hzk
              obtain ⟨by_, hby, hop⟩ := bindE hop
              have := eI hop; injection this with this
              exact finV _ (app _ _ hX1 hY1 (by simp) z k by_ hz hk hzk hby this.symm)
            · cases hop
          · obtain ⟨z, hz, hop⟩ := bindE hop
            obtain ⟨k, hk, hop⟩ := bindE hop
            split at hop
            · rename_i hzk
              obtain ⟨by_, hby, hop⟩ := bindE hop
              have := eI hop; injection this with this
              exact finV _ (app _ _ hX1 hY1 (by simp) z k by_ hz hk hzk hby this.symm)
            · cases hop
          · cases hop
        · cases hop
      · obtain ⟨U, hU, hop⟩ := bindE hop
        split at hop
        all_goals first
          | (have := eI hop; cases this; done)
          | (cases hop; done)
          | (obtain ⟨_, _, hop⟩ := bindE hop
             split at hop
             · have := eI hop; cases this
             · cases hop)
      · -- copy
        obtain ⟨U, hU, hop⟩ := bindE hop
        split at hop
        · obtain ⟨es, hes, hop⟩ := bindE hop
          have := eI hop; injection this with this; subst this
          obtain ⟨X, Y, hxy, hX1, hY1⟩ := copds_two has
          have hargs : c.args.map ρ = #[ρ X, ρ Y] := by
            apply Array.ext'; rw [Array.toList_map, hxy]; rfl
          rw [hargs]
          exact finV _ (sim_copy h hX1 hY1 (hXa X (by rw [hxy]; simp)) (hXa Y (by rw [hxy]; simp)) ht0 hU hes hr)
        · cases hop
      · -- clear
        obtain ⟨U, hU, hop⟩ := bindE hop
        obtain ⟨X, hxy, hX1⟩ := copds_one has
        have hargs : c.args.map ρ = #[ρ X] := by
          apply Array.ext'; rw [Array.toList_map, hxy]; rfl
        rw [hargs]
        split at hop
        · obtain ⟨z, hz, hop⟩ := bindE hop
          have := eI hop; injection this with this; subst this
          exact finV _ (sim_clear h hX1 (hXa X (by rw [hxy]; simp)) ht0 hU (.inl ⟨_, rfl, hz⟩) hr)
        · have := eI hop; injection this with this; subst this
          exact finV _ (sim_clear h hX1 (hXa X (by rw [hxy]; simp)) ht0 hU (.inr rfl) hr)
        · cases hop
      · have := eI hop; cases this
      · have := eI hop; cases this
      · cases hop
end Go.Proofs.YtcfjjeipdacbcaaDoor.AM
