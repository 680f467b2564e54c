/-
  Regions in the text's order.
-/
import Derived.Test.YtdkpmlhbofgfdaaGreatDoorAmOp
import Derived.OrdersIn
set_option linter.unusedSimpArgs false
set_option linter.unusedVariables false
namespace Go.Proofs.YtdkpmlhbofgfdaaGreatDoor.AM
open Go Go.RowKit

variable {base : Nat} {m : Inj} {H : AHeap} {W : World} {P : Program} {gl : List Nat} {e : Env}

/-- A frame stands for an environment. -/
structure ER (ds : List Deferred) (m : Inj) (N : Nat) (e : Env) (a : Act) : Prop where
  size : a.tmps.size = N
  defers : a.defers = ds
  tmps : ∀ x, VR m (Env.get e x) (a.tmps.getD x undef)
variable {ds : List Deferred} {ro : Option Nat}
theorem ER.mono {m' : Inj} {N : Nat} {a : Act} (h : m.le m') (k : ER ds m N e a) : ER ds m' N e a := ⟨k.size, k.defers, fun x => (k.tmps x).mono h⟩
theorem put_getD (a : Act) (d : Option Nat) (c : Value) (x : Nat) : (a.put d c).tmps.getD x undef = if d = some x ∧ x < a.tmps.size then c else a.tmps.getD x undef := by
  cases d with
  | none => simp [Act.put]
  | some d =>
    simp only [Act.put, Array.getD_eq_getD_getElem?, Array.getElem?_setIfInBounds]
    by_cases h : d = x
    · subst h
      by_cases h2 : d < a.tmps.size
      · simp [h2]
      · simp [h2]
    · simp [h]
theorem put_size (a : Act) (d : Option Nat) (c : Value) : (a.put d c).tmps.size = a.tmps.size := by cases d <;> simp [Act.put]
theorem put_defers (a : Act) (d : Option Nat) (c : Value) : (a.put d c).defers = a.defers := by cases d <;> rfl
theorem ER.put {N : Nat} {a : Act} {d : Option Nat} {v : AV} {c : Value} (h : ER ds m N e a) (hv : VR m v c) (hd : ∀ x, d = some x → x < N) : ER ds m N (Env.put e d v) (a.put d c) := by
  refine ⟨by rw [put_size]; exact h.size, by rw [put_defers]; exact h.defers, fun x => ?_⟩
  rw [put_getD, Env.get_put]
  by_cases hx : d = some x
  · rw [if_pos hx, if_pos ⟨hx, by rw [h.size]; exact hd x hx⟩]; exact hv
  · rw [if_neg hx, if_neg (fun k => hx k.1)]; exact h.tmps x

theorem coper_inv {N : Nat} {ops : List Oper} {i : Nat} {ao : AOper} (h : coper P gl N ops i = some ao) :
    ∃ o, ops[i]? = some o ∧ (cop P gl o.op).getD (.e .fail) = ao.op ∧ cguard ops o.guard = some ao.guard ∧ ao.ix = i ∧ ao.dst = o.dst ∧ ao.echo = [] ∧ (∀ x, o.dst = some x → x < N) := by
  unfold coper at h
  split at h
  · cases h
  · rename_i o ho
    split at h
    · rename_i g h2
      split at h
      · rename_i hd
        injection h with h; subst h
        exact ⟨o, ho, rfl, h2, rfl, rfl, rfl, fun x hx => by rw [hx] at hd; simpa [dstOk] using hd⟩
      · cases h
    · cases h
theorem guard_tmps {ops : List Oper} {g0 g : Option (Nat × Bool)} {t : Nat} {b : Bool} (h : cguard ops g0 = some g) (hg : g = some (t, b)) : ∃ j o, g0 = some (j, b) ∧ ops[j]? = some o ∧ o.dst = some t := by
  subst hg
  cases g0 with
  | none => simp [cguard] at h
  | some p =>
    obtain ⟨j, w⟩ := p
    simp only [cguard] at h
    split at h
    · rename_i o ho
      split at h
      · rename_i t' ht
        injection h with h; injection h with h; injection h with h1 h2; subst h1; subst h2
        exact ⟨j, o, rfl, ho, ht⟩
      · cases h
    · cases h

/-- one operation, in the text's order -/
theorem op_wp {cl : CallH} {N : Nat} (hcl : CallSim P base gl cl) (hgl : ∀ g ∈ gl, g < 999999 → m g = some ⟨g, 0, 0, 0⟩) (h : SR P gl base m H W) {ops : Array Oper} {i : Nat} {ao : AOper} {a : Act} {e' : Env} {H' : AHeap} {K : Act → World → Prop} {Q : Exit → Act → World → Prop}
    (hco : coper P gl N ops.toList i = some ao) (her : ER ds m N e a) (hr : ao.run cl e H = some (e', H')) (hK : ∀ a' W' m', ER ds m' N e' a' → Post P gl base m H W m' H' W' → K a' W') : wpOpIn (WF ro) 0 P ops Q i K a W := by
  obtain ⟨o, ho, hop, hgd, hix, hdst, hecho, hN⟩ := coper_inv hco
  have ho' : ops[i]? = some o := by simpa using ho
  have hw := want_sim (e := e) (a := a) (m := m) hgd (fun t b _ => her.tmps t)
  unfold wpOpIn
  rw [ho']
  simp only
  unfold AOper.run at hr
  rw [hw] at hr
  split at hr
  · rename_i hwant
    rw [if_pos hwant]
    have htr : TR m e a (opTmps o) := fun t _ => her.tmps t
    split at hr
    · rename_i x hx
      split at hr
      · rename_i v hv
        injection hr with hr; injection hr with hr1 hr2; subst hr1; subst hr2
        rw [hx] at hop
        have hc : cop P gl o.op = some (.r x) := by
          cases hq : cop P gl o.op with
          | none => rw [hq] at hop; cases hop
          | some y => rw [hq] at hop; simp only [Option.getD_some] at hop; rw [hop]
        obtain ⟨c, h1, h2⟩ := rsim h hc (opRs (e := e) hgl htr) hv
        exact upon_value h1 (cop_nodefer hc) (hK _ _ m (by rw [hdst]; exact her.put h2 hN) (Post.refl h))
      · cases hr
    · rename_i x hx
      split at hr
      · rename_i obj k hv
        injection hr with hr; injection hr with hr1 hr2; subst hr1; subst hr2
        rw [hx] at hop
        have hc : cop P gl o.op = some (.a x) := by
          cases hq : cop P gl o.op with
          | none => rw [hq] at hop; cases hop
          | some y => rw [hq] at hop; simp only [Option.getD_some] at hop; rw [hop]
        have hb : m H.next = none := by
          cases hm : m H.next with
          | none => rfl
          | some L => exact absurd (h.dom _ _ hm) (Nat.lt_irrefl _)
        obtain ⟨c, W', L, h1, h2, h3, h4⟩ := asim (h.ext obj) (b := H.next) hc (opRs (e := e) hgl htr) hv (by rw [AHeap.get_alloc, if_pos rfl]) hb
        have hle := Inj.le_upd (L := L) hb
        refine upon_value h1 (cop_nodefer hc) (hK _ _ (m.upd H.next L) (by rw [hdst]; exact (her.mono hle).put h3 hN) ⟨hle, h2, h4, by rw [AHeap.next_alloc]; omega, fun b hlt hmb => ⟨?_, by rw [AHeap.get_alloc, if_neg (by omega)]⟩⟩)
        unfold Inj.upd; rw [if_neg (by omega)]; exact hmb
      · cases hr
    · rename_i x hx
      split at hr
      · rename_i v H2 hv
        split at hr
        · injection hr with hr; injection hr with hr1 hr2; subst hr1; subst hr2
          rw [hx] at hop
          refine eff_wp hcl hgl h hop htr hv (fun c W' m' h1 h2 => hK _ _ m' ?_ h1)
          rw [hdst]
          exact (her.mono h1.le).put h2 hN
        · cases hr
      · cases hr
  · rename_i hwant
    rw [if_neg hwant]
    injection hr with hr; injection hr with hr1 hr2; subst hr1; subst hr2
    exact ⟨fun _ _ => trivial, hK _ _ m (by rw [hdst]; exact her.put (VR.undef m) hN) (Post.refl h)⟩

theorem gl_mono {m' : Inj} (hgl : ∀ g ∈ gl, g < 999999 → m g = some ⟨g, 0, 0, 0⟩) (h : m.le m') : ∀ g ∈ gl, g < 999999 → m' g = some ⟨g, 0, 0, 0⟩ := fun g hg hlt => h _ _ (hgl g hg hlt)

theorem seq_wp {cl : CallH} {N : Nat} (hcl : CallSim P base gl cl) {ops : Array Oper} {Q : Exit → Act → World → Prop} {eF : Env} {HF : AHeap} : ∀ (is : List Nat) (L : List AOper) (m : Inj) (e : Env) (H : AHeap) (W : World) (a : Act),
    copers P gl N ops.toList is = some L → runOps cl L e H = some (eF, HF) → (∀ g ∈ gl, g < 999999 → m g = some ⟨g, 0, 0, 0⟩) → SR P gl base m H W → ER ds m N e a →
    (∀ a' W' m', ER ds m' N eF a' → Post P gl base m H W m' HF W' → Q .normal a' W') → wpOpsIn (WF ro) 0 P ops Q is a W
  | [], L, m, e, H, W, a, hL, hr, hgl, h, her, hQ => by
    rw [copers] at hL; injection hL with hL; subst hL
    rw [runOps] at hr; injection hr with hr; injection hr with hr1 hr2; subst hr1; subst hr2
    exact hQ a W m her (Post.refl h)
  | i :: is, L, m, e, H, W, a, hL, hr, hgl, h, her, hQ => by
    rw [copers] at hL
    split at hL
    · rename_i ao hao
      split at hL
      · rename_i L' hL'
        injection hL with hL; subst hL
        rw [runOps] at hr
        split at hr
        · rename_i e1 H1 h1
          rw [wpOpsIn_cons]
          refine op_wp hcl hgl h hao her h1 (fun a' W' m' k1 k2 => ?_)
          exact seq_wp hcl is L' m' e1 H1 W' a' hL' hr (gl_mono hgl k2.le) k2.sr k1 (fun a'' W'' m'' k3 k4 => hQ a'' W'' m'' k3 (k2.trans k4))
        · cases hr
      · cases hL
    · cases hL
end Go.Proofs.YtdkpmlhbofgfdaaGreatDoor.AM
