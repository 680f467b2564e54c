/-
  Operations that make no memory and write none: what the model answers where the abstract machine answers, in one theorem.
-/
import Derived.Test.YtcfjjeipdacbcaaDoorAmR4
set_option linter.unusedSimpArgs false
set_option linter.unusedVariables false
namespace Go.Proofs.YtcfjjeipdacbcaaDoor.AM
open Go Go.RowKit

variable {base : Nat} {m : Inj} {H : AHeap} {W : World} {P : Program} {gl : List Nat} {e : Env} {ρ : Operand → Value}

theorem bindE {α β : Type} {o : Option α} {f : α → Option β} {b : β} (h : (o >>= f) = some b) : ∃ a, o = some a ∧ f a = some b := by
  cases o with
  | none => cases h
  | some a => exact ⟨a, rfl, h⟩
theorem pureE {α : Type} {a b : α} (h : (pure a : Option α) = some b) : a = b := by injection h

theorem cconv_sim {s d : TypeId} {X : Operand} {r : ROp} {v : AV} (h : SR P gl base m H W) (hop : cconv P gl s d X = some (.r r)) (hX : OpR gl m e ρ X) (hr : r.run H e = some v) : ∃ c, (Go.convert s d (ρ X)).run P W = .ok c W ∧ VR m v c := by
  unfold cconv at hop
  obtain ⟨x, hx, hop⟩ := bindE hop
  obtain ⟨S, hS, hop⟩ := bindE hop
  obtain ⟨D, hD, hop⟩ := bindE hop
  have hxv := hX x hx
  split at hop
  · have := pureE hop; injection this with this; subst this
    simp only [ROp.run] at hr
    split at hr
    · rename_i k n hxe
      injection hr with hr; subst hr
      rw [hxe] at hxv
      rw [int_inv hxv]
      exact ⟨_, by simp [Go.convert, run_underlying hS, run_underlying hD, Conv.intToInt], .int _ _⟩
    · cases hr
  · have := pureE hop; injection this with this; subst this
    simp only [ROp.run] at hr
    split at hr
    · rename_i k n hxe
      injection hr with hr; subst hr
      rw [hxe] at hxv
      rw [int_inv hxv]
      exact ⟨.string (Utf8.encode n), by simp [Go.convert, run_underlying hS, run_underlying hD, Conv.intToString], .ofStr rfl⟩
    · cases hr
  · have := pureE hop; injection this with this; subst this
    simp only [ROp.run] at hr
    split at hr
    · rename_i l hxe
      injection hr with hr; subst hr
      rw [hxe] at hxv
      obtain ⟨s', h1, h2⟩ := str_inv hxv
      rw [h1]
      exact ⟨.string s', by simp [Go.convert, run_underlying hS, run_underlying hD], .ofStr h2⟩
    · cases hr
  · obtain ⟨E, hE, hop⟩ := bindE hop
    split at hop
    · have := pureE hop; cases this
    · cases hop
  · obtain ⟨E, hE, hop⟩ := bindE hop
    split at hop
    · have := pureE hop; injection this with this; subst this
      exact sim_strOfBytes h hx hX hS hD hE hr
    · cases hop
  · cases hop

theorem builtin_run {c : Call} {ty : TypeId} {b : Builtin} (hb : c.callee = .builtin b) : (do let d ← resolve ρ c ty; invoke d.target d.args : Sem Next).run P W =
    (Go.builtin b c.argTypes ty (c.args.map fun | .const _ => true | _ => false) (c.args.map ρ)).run P W := by
  simp only [resolve, hb, Sem.run_bind, Sem.run_pure, Result.andThen_ok, invoke]
  rfl
theorem copds_cons {xs : List Operand} {x : Opd} {ys : List Opd} (h : copds gl xs = some (x :: ys)) : ∃ X Xs, xs = X :: Xs ∧ copd gl X = some x ∧ copds gl Xs = some ys := by
  match xs, h with
  | [], h => rw [copds] at h; cases h
  | X :: Xs, h =>
    rw [copds] at h
    split at h
    · rename_i y hy
      split at h
      · rename_i zs hz
        injection h with h; injection h with h1 h2; subst h1; subst h2
        exact ⟨X, Xs, rfl, hy, hz⟩
      · cases h
    · cases h
theorem copds_one {xs : List Operand} {x : Opd} (h : copds gl xs = some [x]) : ∃ X, xs = [X] ∧ copd gl X = some x := by
  obtain ⟨X, Xs, rfl, h1, h2⟩ := copds_cons h
  match Xs, h2 with
  | [], _ => exact ⟨X, rfl, h1⟩
  | Y :: Ys, h2 =>
    rw [copds] at h2
    split at h2
    · split at h2
      · injection h2 with h2; cases h2
      · cases h2
    · cases h2
theorem len_sim {k : Nat} {ts : Array TypeId} {ty t0 : TypeId} {U : TypeDesc} {X : Operand} {x : Opd} {v : AV} (h : SR P gl base m H W) (ht0 : ts[0]? = some t0) (hU : P.underlying t0 = some U)
    (hk : (k = 0 ∧ U = .string) ∨ (k = 1 ∧ ∃ q, U = .slice q) ∨ (k = 2 ∧ ∃ q r, U = .map q r)) (hx : VR m (x.ev e) (ρ X))
    (hr : (ROp.lng k x).run H e = some v) : ∃ cv, (Builtin.len_ ts ty #[ρ X]).run P W = .ok cv W ∧ VR m v cv := by
  simp only [ROp.run] at hr
  generalize x.ev e = a at hx hr
  generalize ρ X = c at hx
  split at hr
  · obtain rfl : U = .string := by simpa using hk
    injection hr with hr; subst hr
    obtain ⟨s, rfl, hs⟩ := str_inv hx
    exact ⟨_, by simp [Builtin.len_, ht0, run_underlying hU, size_of hs, goInt], .int _ _⟩
  · obtain ⟨q, rfl⟩ : ∃ q, U = .slice q := by simpa using hk
    injection hr with hr; subst hr
    cases hx
    exact ⟨_, by simp [Builtin.len_, ht0, run_underlying hU, goInt], .int _ _⟩
  · obtain ⟨q, rfl⟩ : ∃ q, U = .slice q := by simpa using hk
    injection hr with hr; subst hr
    cases hx
    exact ⟨_, by simp [Builtin.len_, ht0, run_underlying hU, goInt], .int _ _⟩
  · obtain ⟨q, r, rfl⟩ : ∃ q r, U = .map q r := by simpa using hk
    injection hr with hr; subst hr
    cases hx
    exact ⟨_, by simp [Builtin.len_, ht0, run_underlying hU, goInt], .int _ _⟩
  · obtain ⟨q, r, rfl⟩ : ∃ q r, U = .map q r := by simpa using hk
    split at hr
    · rename_i es hes
      injection hr with hr; subst hr
      cases hx with
      | map hb =>
        obtain ⟨_, arr, cl, h1, h2, _⟩ := h.mp _ _ es hb hes
        refine ⟨_, ?_, .int _ _⟩
        simp [Builtin.len_, ht0, run_underlying hU, goInt, getObj, Sem.run, h1, h2]
    · cases hr
  · cases hr
theorem ccall_sim {c : Call} {ty : TypeId} {r : ROp} {v : AV} (h : SR P gl base m H W) (hop : ccall P gl c = some (.r r)) (hX : ∀ X ∈ c.args.toList, OpR gl m e ρ X) (hr : r.run H e = some v) :
    ∃ cv, (do let d ← resolve ρ c ty; invoke d.target d.args : Sem Next).run P W = .ok (.value cv) W ∧ VR m v cv := by
  unfold ccall at hop
  obtain ⟨as, has, hop⟩ := bindE hop
  split at hop
  · have := pureE hop; cases this
  · obtain ⟨x, hx, hop⟩ := bindE hop
    have := pureE hop; cases this
  · cases hop
  · rename_i b hb
    obtain ⟨t0, ht0, hop⟩ := bindE hop
    have hlr : LR m (as.map (·.ev e)) (c.args.toList.map ρ) := copds_lr has hX
    split at hop
    · -- append
      obtain ⟨U, hU, hop⟩ := bindE hop
      split at hop
      · obtain ⟨t1, ht1, hop⟩ := bindE hop
        obtain ⟨U1, hU1, hop⟩ := bindE hop
        split at hop
        all_goals first
          | (obtain ⟨_, _, hop⟩ := bindE hop
             obtain ⟨_, _, hop⟩ := bindE hop
             split at hop
             · obtain ⟨_, _, hop⟩ := bindE hop
               have := pureE hop; cases this
             · cases hop)
          | cases hop
      · cases hop
    · -- len
      obtain ⟨X, hX1, hX2⟩ := copds_one has
      have hargs : c.args = #[X] := by rw [← hX1]
      have hxv := hX X (by rw [hX1]; simp) _ hX2
      obtain ⟨U, hU, hop⟩ := bindE hop
      rw [builtin_run hb, hargs, show (#[X] : Array Operand).map ρ = #[ρ X] from by simp]
      have fin : ∀ (s : Sem Value), (∃ cv, s.run P W = .ok cv W ∧ VR m v cv) → ∃ cv, (do pure (Next.value (← s)) : Sem Next).run P W = .ok (.value cv) W ∧ VR m v cv := fun s ⟨cv, h1, h2⟩ => ⟨cv, val_run h1, h2⟩
      split at hop
      · have := pureE hop; injection this with this; subst this
        exact fin _ (len_sim h ht0 hU (.inl ⟨rfl, rfl⟩) hxv hr)
      · have := pureE hop; injection this with this; subst this
        exact fin _ (len_sim h ht0 hU (.inr (.inl ⟨rfl, _, rfl⟩)) hxv hr)
      · have := pureE hop; injection this with this; subst this
        exact fin _ (len_sim h ht0 hU (.inr (.inr ⟨rfl, _, _, rfl⟩)) hxv hr)
      · have := pureE hop; injection this with this; subst this
        simp only [ROp.run] at hr; injection hr with hr; subst hr
        exact fin _ ⟨_, by simp [Builtin.len_, ht0, run_underlying hU, goInt], .int _ _⟩
      · obtain ⟨V, hV, hop⟩ := bindE hop
        split at hop
        · have := pureE hop; injection this with this; subst this
          simp only [ROp.run] at hr; injection hr with hr; subst hr
          exact fin _ ⟨_, by simp [Builtin.len_, ht0, run_underlying hU, run_underlying hV, goInt], .int _ _⟩
        · cases hop
      · cases hop
    · obtain ⟨U, hU, hop⟩ := bindE hop
      split at hop
      · obtain ⟨_, _, hop⟩ := bindE hop
        have := pureE hop; cases this
      · cases hop
    · obtain ⟨U, hU, hop⟩ := bindE hop
      split at hop
      · obtain ⟨_, _, hop⟩ := bindE hop
        have := pureE hop; cases this
      · have := pureE hop; cases this
      · cases hop
    · have := pureE hop; injection this with this; subst this
      obtain ⟨X, Xs, hX1, hX2, hX3⟩ := copds_cons has
      have hxv := hX X (by rw [hX1]; simp) _ hX2
      have hl := copds_lr (ρ := ρ) (e := e) (m := m) hX3 (fun Y hY => hX Y (by rw [hX1]; simp [hY]))
      simp only [ROp.run] at hr
      split at hr
      · rename_i k n hxe
        rw [hxe] at hxv
        obtain ⟨r, h1, h2⟩ := mnmxL_sim (P := P) (W := W) false hxv hl hr
        refine ⟨r, ?_, h2⟩
        rw [builtin_run hb]
        refine val_run ?_
        have : (c.args.map ρ).toList = ρ X :: Xs.map ρ := by rw [Array.toList_map, hX1]; rfl
        unfold Builtin.min_
        rw [this]
        exact h1
      · cases hr
    · have := pureE hop; injection this with this; subst this
      obtain ⟨X, Xs, hX1, hX2, hX3⟩ := copds_cons has
      have hxv := hX X (by rw [hX1]; simp) _ hX2
      have hl := copds_lr (ρ := ρ) (e := e) (m := m) hX3 (fun Y hY => hX Y (by rw [hX1]; simp [hY]))
      simp only [ROp.run] at hr
      split at hr
      · rename_i k n hxe
        rw [hxe] at hxv
        obtain ⟨r, h1, h2⟩ := mnmxL_sim (P := P) (W := W) true hxv hl hr
        refine ⟨r, ?_, h2⟩
        rw [builtin_run hb]
        refine val_run ?_
        have : (c.args.map ρ).toList = ρ X :: Xs.map ρ := by rw [Array.toList_map, hX1]; rfl
        unfold Builtin.max_
        rw [this]
        exact h1
      · cases hr
    · cases hop
end Go.Proofs.YtcfjjeipdacbcaaDoor.AM
