/-
  One operation: what the model's step asks for, out of what the abstract machine does.
-/
import Derived.Test.YtdkpmlhbofgfdaaGreatDoorAmU
set_option linter.unusedSimpArgs false
set_option linter.unusedVariables false
namespace Go.Proofs.YtdkpmlhbofgfdaaGreatDoor.AM
open Go Go.RowKit

variable {base : Nat} {m : Inj} {H : AHeap} {W : World} {P : Program} {gl : List Nat} {e : Env}

/-- a fence that lets in whatever there is; the frame may be a round's -/
abbrev WF (ro : Option Nat) : Fence := { Fence.wide with round := ro }
/-- A handler of calls that tells what the model's calls do. -/
structure CallSim (P : Program) (base : Nat) (gl : List Nat) (cl : CallH) : Prop where
  fn : ∀ (f : FuncId) (args : List AV) (H : AHeap) (v : AV) (H' : AHeap), cl (.fn f) args H = some (v, H') → ∀ (m : Inj) (W : World) (cargs : Array Value), SR P gl base m H W → LR m args cargs.toList → (∀ g ∈ gl, g < 999999 → m g = some ⟨g, 0, 0, 0⟩) →
    (∃ fn, P.funcs[f]? = some fn ∧ fn.body.isSome = true ∧ (fn.name == "runtime.NumGoroutine") = false) ∧
    Calls P f cargs W fun q W' => ∃ c m', q = .returned c ∧ Post P gl base m H W m' H' W' ∧ VR m' v c
  yl : ∀ (b : Nat) (args : List AV) (H : AHeap) (v : AV) (H' : AHeap), cl (.yld b) args H = some (v, H') → ∀ (m : Inj) (W : World) (cargs : Array Value) (L : Loc), SR P gl base m H W → LR m args cargs.toList → (∀ g ∈ gl, g < 999999 → m g = some ⟨g, 0, 0, 0⟩) → m b = some L →
    ∃ fn tmps asg bdy, (Instr.yield L.blk cargs).run P W = .ok (.round L.blk fn tmps asg bdy) W ∧
    RoundIn Fence.wide 0 P L.blk fn tmps asg bdy W fun q W' => ∃ c m', q = .returned c ∧ Post P gl base m H W m' H' W' ∧ VR m' v c

/-- Slots that are looked at stand for what the machine has. -/
def TR (m : Inj) (e : Env) (a : Act) (ts : List Nat) : Prop := ∀ t ∈ ts, VR m (Env.get e t) (a.tmps.getD t undef)

theorem opR_of (hgl : ∀ g ∈ gl, g < 999999 → m g = some ⟨g, 0, 0, 0⟩) {a : Act} {X : Operand} (ht : ∀ t, X = .tmp t → VR m (Env.get e t) (a.tmps.getD t undef)) : OpR gl m e a.eval X := by
  intro y hy
  cases X with
  | tmp t => simp only [copd] at hy; injection hy with hy; subst hy; exact ht t rfl
  | const v =>
    simp only [copd] at hy
    rw [Option.map_eq_some_iff] at hy
    obtain ⟨c, h1, rfl⟩ := hy
    exact ofConst_vr h1
  | global g =>
    simp only [copd] at hy
    split at hy
    · rename_i hg
      injection hy with hy; subst hy
      simp only [Bool.and_eq_true, decide_eq_true_eq, List.contains_iff_mem] at hg
      have := hgl g hg.1 hg.2
      have h2 := VR.ptr (m := m) (o := 0) this
      show VR m (.ptr g 0) (.pointer (some ⟨g, 0, none⟩))
      simpa using h2
    · cases hy
  | func f => simp only [copd] at hy; injection hy with hy; subst hy; exact .fn rfl (fun i v v' h => by simp at h) rfl (fun i v v' h => by simp at h)

theorem mem_opTmps {o : Oper} {t : Nat} (h : Operand.tmp t ∈ o.op.operands.toList) : t ∈ opTmps o := by
  unfold opTmps
  rw [List.mem_filterMap]
  exact ⟨_, h, rfl⟩
theorem opRs {o : Oper} {a : Act} (hgl : ∀ g ∈ gl, g < 999999 → m g = some ⟨g, 0, 0, 0⟩) (h : TR m e a (opTmps o)) : ∀ X ∈ o.op.operands.toList, OpR gl m e a.eval X := by
  intro X hX
  refine opR_of hgl (fun t ht => ?_)
  subst ht
  exact h t (mem_opTmps hX)

/-- a guard -/
theorem want_sim {ops : Array Oper} {o : Oper} {g : Option (Nat × Bool)} {a : Act} (hg : cguard ops.toList o.guard = some g) (ht : ∀ t b, g = some (t, b) → VR m (Env.get e t) (a.tmps.getD t undef)) :
    want e g = Region.wanted o (yielded ops a.tmps) := by
  cases hgd : o.guard with
  | none => rw [hgd] at hg; simp only [cguard] at hg; injection hg with hg; subst hg; simp [want, Region.wanted, hgd]
  | some p =>
    obtain ⟨j, w⟩ := p
    rw [hgd] at hg
    simp only [cguard] at hg
    split at hg
    · rename_i o2 ho2
      split at hg
      · rename_i t hdst
        injection hg with hg; subst hg
        have hv := ht t w rfl
        have ho2' : ops[j]? = some o2 := by simpa using ho2
        simp only [want, Region.wanted, hgd, yielded, ho2', Option.bind_some, hdst]
        cases hx : a.tmps[t]? with
        | none =>
          have : a.tmps.getD t undef = undef := by rw [Array.getD_eq_getD_getElem?, hx]; rfl
          rw [this] at hv
          generalize Env.get e t = q at hv
          cases q <;> first | rfl | cases hv
        | some c =>
          have : a.tmps.getD t undef = c := by simp [Array.getD_eq_getD_getElem?, hx]
          rw [this] at hv
          generalize Env.get e t = q at hv
          cases hv <;> first | rfl | simp
      · cases hg
    · cases hg

variable {ro : Option Nat}
theorem upon_value {o : Oper} {a : Act} {c : Value} {W W' : World} {next : Act → World → Prop} {Q : Exit → Act → World → Prop} (h : (execOp a.eval o).run P W = .ok (.value c) W') (hd : ∀ c, o.op ≠ .defer c) (k : next (a.put o.dst c) W') : o.wpIn (WF ro) 0 P a W next Q := by
  refine ⟨fun _ _ => trivial, ?_⟩
  rw [Oper.semAt_eq _ _ _ hd, h]; exact k
theorem upon_skip {o : Oper} {a : Act} {W W' : World} {next : Act → World → Prop} {Q : Exit → Act → World → Prop} (h : (execOp a.eval o).run P W = .ok .skip W') (hd : ∀ c, o.op ≠ .defer c) (k : next (a.put o.dst undef) W') : o.wpIn (WF ro) 0 P a W next Q := by
  refine ⟨fun _ _ => trivial, ?_⟩
  rw [Oper.semAt_eq _ _ _ hd, h]; exact k
theorem upon_enter {o : Oper} {a : Act} {f : FuncId} {args : Array Value} {W : World} {next : Act → World → Prop} {Q : Exit → Act → World → Prop} {R : Value → World → Prop} (h : (execOp a.eval o).run P W = .ok (.enter f args) W)
    (hd : ∀ c, o.op ≠ .defer c) (k : Calls P f args W fun q W' => ∃ c, q = .returned c ∧ R c W') (hn : ∀ c W', R c W' → next (a.put o.dst c) W') : o.wpIn (WF ro) 0 P a W next Q := by
  refine ⟨fun _ _ => trivial, ?_⟩
  rw [Oper.semAt_eq _ _ _ hd, h]
  refine ⟨fun hh => (by cases hh), ?_⟩
  have k2 : CallsIn (WF ro) (0 - 1) P f args W fun q W' => ∃ c, q = .returned c ∧ R c W' := (callsIn_wide (n := 0)).2 k
  refine k2.mono fun q W' hq => ?_
  obtain ⟨c, rfl, hr⟩ := hq
  exact hn c W' hr
theorem upon_round {o : Oper} {a : Act} {l : Nat} {fn : FuncId} {tmps : Array Value} {asg bdy : Code} {W : World} {next : Act → World → Prop} {Q : Exit → Act → World → Prop} {R : Value → World → Prop} (h : (execOp a.eval o).run P W = .ok (.round l fn tmps asg bdy) W)
    (hd : ∀ c, o.op ≠ .defer c) (k : RoundIn Fence.wide 0 P l fn tmps asg bdy W fun q W' => ∃ c, q = .returned c ∧ R c W') (hn : ∀ c W', R c W' → next (a.put o.dst c) W') : o.wpIn (WF ro) 0 P a W next Q := by
  refine ⟨fun _ _ => trivial, ?_⟩
  rw [Oper.semAt_eq _ _ _ hd, h]
  refine ⟨fun hh => (by cases hh), ?_⟩
  have k2 : RoundIn (WF ro) (0 - 1) P l fn tmps asg bdy W fun q W' => ∃ c, q = .returned c ∧ R c W' := k
  refine k2.mono fun q W' hq => ?_
  obtain ⟨c, rfl, hr⟩ := hq
  exact hn c W' hr
theorem cop_nodefer {op : Op} {x : AOp} (h : cop P gl op = some x) : ∀ c, op ≠ .defer c := by
  rintro c rfl
  simp [cop, crng, csp, cop0] at h

/-- An operation that writes, or calls. -/
theorem eff_wp {cl : CallH} (hcl : CallSim P base gl cl) (hgl : ∀ g ∈ gl, g < 999999 → m g = some ⟨g, 0, 0, 0⟩) (h : SR P gl base m H W) {o : Oper} {x : EOp} {v : AV} {H' : AHeap} {a : Act} {next : Act → World → Prop} {Q : Exit → Act → World → Prop}
    (hop : (cop P gl o.op).getD (.e .fail) = .e x) (ht : TR m e a (opTmps o)) (hr : x.run cl H e = some (v, H')) (hn : ∀ c W' m', Post P gl base m H W m' H' W' → VR m' v c → next (a.put o.dst c) W') : o.wpIn (WF ro) 0 P a W next Q := by
  cases hc : cop P gl o.op with
  | none => rw [hc] at hop; simp only [Option.getD_none, AOp.e.injEq] at hop; subst hop; cases hr
  | some op' =>
    rw [hc] at hop
    simp only [Option.getD_some] at hop
    subst hop
    have hX := opRs (e := e) hgl ht
    by_cases hnc : x.calls = false
    · obtain ⟨c, W', m', h1, h2, h3⟩ := esim h hc hX hnc hr
      rcases h1 with h1 | ⟨h1, rfl⟩
      · exact upon_value h1 (cop_nodefer hc) (hn c W' m' h2 h3)
      · exact upon_skip h1 (cop_nodefer hc) (hn _ W' m' h2 h3)
    · have enter : ∀ (f : FuncId) (args : List AV) (cargs : Array Value), cl (.fn f) args H = some (v, H') → LR m args cargs.toList → ((execOp a.eval o).run P W = (callFunc f cargs).run P W) → o.wpIn (WF ro) 0 P a W next Q := by
        intro f args cargs hcall hl hrun
        obtain ⟨⟨fn, hf, hb, hnm⟩, hC⟩ := hcl.fn f args H v H' hcall m W cargs h hl hgl
        refine upon_enter (f := f) (args := cargs) (R := fun c W' => ∃ m', Post P gl base m H W m' H' W' ∧ VR m' v c) ?_ (cop_nodefer hc) (hC.mono fun q W' hq => ?_) (fun c W' hq => ?_)
        · rw [hrun]
          have hb' : fn.body.isNone = false := by cases hq : fn.body <;> simp [hq] at hb ⊢
          simp only [callFunc, Sem.run_bind, run_program, Result.andThen_ok, hf, hnm, hb', Bool.false_eq_true, if_false, Sem.run_pure]
        · obtain ⟨c, m', rfl, h2, h3⟩ := hq; exact ⟨c, rfl, m', h2, h3⟩
        · obtain ⟨m', h2, h3⟩ := hq; exact hn c W' m' h2 h3
      -- which call it is
      obtain ⟨dst, op, type, pos, after, guard⟩ := o
      obtain ⟨c, hopc, hcc, hnb⟩ := cop_call (P := P) (gl := gl) (op := op) hc (by simpa using hnc)
      subst hopc
      unfold ccall at hcc
      obtain ⟨as, has, hcc⟩ := bindE hcc
      have hlr : LR m (as.map (·.ev e)) (c.args.toList.map a.eval) := copds_lr has (fun X hx => hX X (by simp only [Op.operands, Call.operands, Array.toList_append, List.mem_append]; exact .inr hx))
      split at hcc
      · rename_i f hcal
        have := eI hcc; injection this with this; subst this
        simp only [EOp.run] at hr
        refine enter f _ (c.args.map a.eval) hr (by rw [Array.toList_map]; exact hlr) ?_
        simp [execOp, resolve, hcal, Act.eval, Deferred.ofValue, invoke]
      · rename_i X hnf hcal
        obtain ⟨y, hy, hcc⟩ := bindE hcc
        have := eI hcc; injection this with this; subst this
        simp only [EOp.run] at hr
        split at hr
        · rename_i g first captured hfe
          have hv := hX X (by simp only [Op.operands, Call.operands, hcal]; simp) y hy
          rw [hfe] at hv
          generalize hρ : a.eval X = fv at hv
          cases hv with
          | fn h1 h2 h3 h4 =>
            rename_i x' y'
            refine enter g _ (x' ++ c.args.map a.eval ++ y') hr ?_ ?_
            · rw [Array.toList_append, Array.toList_append, Array.toList_map]
              refine LR.append (LR.append ⟨by simpa using h1, fun i u u' p q => h2 i u u' p (by simpa using q)⟩ hlr) ⟨by simpa using h3, fun i u u' p q => h4 i u u' p (by simpa using q)⟩
            · simp [execOp, resolve, hcal, hρ, Deferred.ofValue, invoke]
        · rename_i b hfe
          have hv := hX X (by simp only [Op.operands, Call.operands, hcal]; simp) y hy
          rw [hfe] at hv
          generalize hρ : a.eval X = fv at hv
          cases hv with
          | yld hb =>
            rename_i L
            obtain ⟨fn, tmps, asg, bdy, hy1, hR⟩ := hcl.yl b _ H v H' hr m W (c.args.map a.eval) L h (by rw [Array.toList_map]; exact hlr) hgl hb
            refine upon_round (R := fun c W' => ∃ m', Post P gl base m H W m' H' W' ∧ VR m' v c) (l := L.blk) (fn := fn) (tmps := tmps) (asg := asg) (bdy := bdy) ?_ (cop_nodefer hc) (hR.mono fun q W' hq => ?_) (fun c W' hq => ?_)
            · rw [← hy1]
              simp [execOp, resolve, hcal, hρ, Deferred.ofValue, invoke]
            · obtain ⟨c, m', rfl, h2, h3⟩ := hq; exact ⟨c, rfl, m', h2, h3⟩
            · obtain ⟨m', h2, h3⟩ := hq; exact hn c W' m' h2 h3
        · cases hr
      · cases hcc
      · exfalso
        rename_i bb hb
        exact hnb bb hb
end Go.Proofs.YtdkpmlhbofgfdaaGreatDoor.AM
