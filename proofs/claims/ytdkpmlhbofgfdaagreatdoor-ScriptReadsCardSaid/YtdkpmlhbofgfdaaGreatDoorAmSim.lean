/-
  The simulation of calls.
-/
import Derived.Test.YtdkpmlhbofgfdaaGreatDoorAmCode
set_option linter.unusedSimpArgs false
set_option linter.unusedVariables false
namespace Go.Proofs.YtdkpmlhbofgfdaaGreatDoor.AM
open Go Go.RowKit

variable {base : Nat} {P : Program} {gl : List Nat}

theorem init_get : ∀ (vs : List AV) (i : Nat) (e : Env) (x : Nat), Env.get (Env.init i vs e) x = if i ≤ x ∧ x < i + vs.length then vs.getD (x - i) .undef else Env.get e x
  | [], i, e, x => by rw [Env.init, if_neg (by simp)]
  | v :: vs, i, e, x => by
    rw [Env.init, init_get vs, Env.get_set]
    simp only [List.length_cons]
    by_cases h1 : i + 1 ≤ x ∧ x < i + 1 + vs.length
    · rw [if_pos h1, if_pos (by omega), show x - i = (x - (i + 1)) + 1 by omega, List.getD_cons_succ]
    · rw [if_neg h1]
      by_cases h2 : x = i
      · subst h2; rw [if_pos rfl, if_pos (by omega)]; simp
      · rw [if_neg h2, if_neg (by omega)]
theorem er_init {m : Inj} {N : Nat} {args : List AV} {cargs : Array Value} (hl : LR m args cargs.toList) (hN : args.length ≤ N) :
    ER [] m N (Env.init 0 args .nil) { tmps := cargs ++ Array.replicate (N - cargs.size) undef, defers := [] } := by
  have hs : args.length = cargs.size := by simpa using hl.1
  refine ⟨by simp; omega, rfl, fun x => ?_⟩
  rw [init_get]
  simp only [Nat.zero_le, true_and, Nat.zero_add, Nat.sub_zero]
  split
  · rename_i hx
    have h1 := hl.getD x
    have : (cargs ++ Array.replicate (N - cargs.size) undef).getD x undef = cargs.toList.getD x undef := by
      simp only [Array.getD_eq_getD_getElem?, List.getD_eq_getElem?_getD, Array.getElem?_append_left (show x < cargs.size by omega), Array.getElem?_toList]
    rw [this]; exact h1
  · rename_i hx
    have : (cargs ++ Array.replicate (N - cargs.size) undef).getD x undef = undef := by
      simp only [Array.getD_eq_getD_getElem?, Array.getElem?_append_right (show cargs.size ≤ x by omega), Array.getElem?_replicate]
      split <;> rfl
    rw [this, Env.get_nil]; exact VR.undef m

def resOne (tmps : Array Value) : ResultVar → Sem Value
  | .tmp t => pure (tmps.getD t undef)
  | .cell q t => do loadVar t (← asAddr (tmps.getD q undef))
theorem results_eq (fn : Func) (tmps : Array Value) : results fn tmps = (do
    let vs ← fn.results.mapM (resOne tmps)
    pure (if h : vs.size = 1 then vs[0] else .tuple vs)) := by
  unfold results
  have : (fun x : ResultVar => match x with | .tmp t => (pure (tmps.getD t undef) : Sem Value) | .cell q t => (do loadVar t (← asAddr (tmps.getD q undef)))) = resOne tmps := by
    funext x; cases x <;> rfl
  rw [← this]
  rfl
theorem asAddr_run {W : World} {a : Addr} : (asAddr (.pointer (some a))).run P W = .ok a W := rfl
theorem res_sim {m : Inj} {N : Nat} {e : Env} {H : AHeap} {W : World} {a : Act} (h : SR P gl base m H W) {ds : List Deferred} (her : ER ds m N e a) : ∀ {rs : List ResultVar} {as : List ARes} {vs : List AV}, cres P rs = some as → resVals e H as = some vs →
    ∃ cs : List Value, (rs.mapM (resOne a.tmps)).run P W = .ok cs W ∧ LR m vs cs
  | [], as, vs, hc, hv => by
    simp only [cres, Option.some.injEq] at hc; subst hc
    simp only [resVals, Option.some.injEq] at hv; subst hv
    exact ⟨[], rfl, LR.nil m⟩
  | .tmp t :: rs, as, vs, hc, hv => by
    simp only [cres, Option.map_eq_some_iff] at hc
    obtain ⟨as', hc', rfl⟩ := hc
    simp only [resVals, ARes.val] at hv
    split at hv
    · rename_i vs' hvs
      injection hv with hv; subst hv
      obtain ⟨cs, h1, h2⟩ := res_sim h her hc' hvs
      exact ⟨a.tmps.getD t undef :: cs, by simp only [List.mapM_cons, resOne, Sem.run_bind, Sem.run_pure, Result.andThen_ok, h1], LR.cons (her.tmps t) h2⟩
    · cases hv
  | .cell q t :: rs, as, vs, hc, hv => by
    simp only [cres] at hc
    split at hc
    · rename_i s l hs hl
      injection hc with hc; subst hc
      simp only [resVals, ARes.val] at hv
      split at hv
      · rename_i v hv1
        split at hv
        · rename_i vs' hvs
          injection hv with hv; subst hv
          obtain ⟨cs, h1, h2⟩ := res_sim h her hl hvs
          obtain ⟨c, h3, h4⟩ := sim_load (gl := gl) (ρ := fun _ => a.tmps.getD q undef) (A := .tmp q) h rfl (fun y hy => by simp only [copd] at hy; injection hy with hy; subst hy; exact her.tmps q) hs hv1
          refine ⟨c :: cs, ?_, LR.cons h4 h2⟩
          have h5 : (do loadVar t (← asAddr (a.tmps.getD q undef)) : Sem Value).run P W = .ok c W := by
            -- the address is one
            have hq := her.tmps q
            simp only [ROp.run] at hv1
            split at hv1
            · rename_i b o hbo
              simp only [Opd.ev] at hbo
              rw [hbo] at hq
              obtain ⟨L, g1, g2⟩ := ptr_inv hq
              rw [g2] at h3 ⊢
              simpa [Instr.loadAt, Instr.sureAddr, asAddr] using h3
            · cases hv1
          have h6 : (resOne a.tmps (.cell q t)).run P W = .ok c W := h5
          simp only [List.mapM_cons, Sem.run_bind, h6, h1, Result.andThen_ok, Sem.run_pure]
        · cases hv
      · cases hv
    · cases hc

/-- values without addresses -/
def AV.plain1 : AV → Bool
  | .bool _ | .int _ _ | .str _ | .nilp | .nils | .nilm | .nilFn | .nilIface => true
  | _ => false
def AV.plain : AV → Bool
  | .agg cs => cs.all AV.plain1
  | v => v.plain1
abbrev noInj : Inj := fun _ => none
theorem VR.plain1 {m : Inj} {v : AV} {c : Value} (h : VR m v c) (hp : v.plain1 = true) : VR noInj v c := by
  cases h <;> first | (simp [AV.plain1] at hp; done) | constructor
theorem VR.plain {m : Inj} {v : AV} {c : Value} (h : VR m v c) (hp : v.plain = true) : VR noInj v c := by
  cases h with
  | agg hx hxs => exact .agg hx (fun i u u' a b => (hxs i u u' a b).plain1 (List.all_eq_true.1 hp u (List.mem_of_getElem? a)))
  | bool _ => constructor
  | int _ _ => constructor
  | str _ => constructor
  | nilp => constructor
  | nils => constructor
  | nilm => constructor
  | nilFn => constructor
  | nilIface => constructor
  | _ => simp [AV.plain, AV.plain1] at hp
theorem LR.plain {m : Inj} : ∀ {x : List AV} {y : List Value}, LR m x y → x.all AV.plain = true → LR noInj x y
  | [], y, h, _ => by rw [h.nil_inv]; exact LR.nil _
  | v :: x, y, h, hp => by
    obtain ⟨c, z, rfl, hv, hz⟩ := h.cons_inv
    simp only [List.all_cons, Bool.and_eq_true] at hp
    exact LR.cons (hv.plain hp.1) (LR.plain hz hp.2)
/-- tables as the model has them -/
def TabW (T : List Tb) (W : World) : Prop := ∀ t ∈ T, ∀ (i : Nat) (v : AV), t.cs[i]? = some v → ∃ c, W.cell? ⟨t.g, i, none⟩ = some c ∧ VR noInj v c
theorem sameL_eq1 : ∀ {x y : List AV}, AV.sameL x y = true → x = y
  | [], [], _ => rfl
  | x :: xs, y :: ys, h => by
    simp only [AV.sameL, Bool.and_eq_true] at h
    have h1 : x = y := by
      have := h.1
      cases x <;> cases y <;> simp_all [AV.same1]
    rw [h1, sameL_eq1 h.2]
  | [], _ :: _, h => by cases h
  | _ :: _, [], h => by cases h
/-- What a function that is known by its answer alone does. -/
def OrcOK (P : Program) (T : List Tb) (f : FuncId) (args : List AV) (v : AV) : Prop :=
  (∃ fn, P.funcs[f]? = some fn ∧ fn.body.isSome = true ∧ (fn.name == "runtime.NumGoroutine") = false) ∧ args.all AV.plain = true ∧
    ∀ (W : World) (cargs : Array Value), TabW T W → LR noInj args cargs.toList → Calls P f cargs W fun q W' => ∃ c, q = .returned c ∧ VR noInj v c ∧ Below W.heap.size W W'
/-- The same of one that looks at memory. -/
def OrhOK (P : Program) (gl : List Nat) (f : FuncId) (args : List AV) (H : AHeap) (v : AV) : Prop :=
  (∃ fn, P.funcs[f]? = some fn ∧ fn.body.isSome = true ∧ (fn.name == "runtime.NumGoroutine") = false) ∧
    ∀ (base : Nat) (m : Inj) (W : World) (cargs : Array Value), SR P gl base m H W → LR m args cargs.toList → Calls P f cargs W fun q W' => ∃ c, q = .returned c ∧ VR noInj v c ∧ Below W.heap.size W W'
structure ProgOK (P : Program) (gl : List Nat) (Q : Prog) : Prop where
  fns : ∀ f F, Q.fns f = some F → ∃ fn, P.funcs[f]? = some fn ∧ cfunc P gl fn = some F
  orc : ∀ f args v, Q.orc f args = some v → OrcOK P Q.tabs f args v
  tg : ∀ t ∈ Q.tabs, t.g ∈ gl ∧ t.g < 999999
  orh : ∀ f args H v, Q.orh f args H = some v → OrhOK P gl f args H v
theorem tabW_of {T : List Tb} {m : Inj} {H : AHeap} {W : World} (h : SR P gl base m H W) (hgl : ∀ g ∈ gl, g < 999999 → m g = some ⟨g, 0, 0, 0⟩) (tg : ∀ t ∈ T, t.g ∈ gl ∧ t.g < 999999) (ht : hasTabs H T = true) : TabW T W := by
  intro t hT i v hv
  have h1 := List.all_eq_true.1 ht t hT
  split at h1
  · rename_i B hB
    simp only [Bool.and_eq_true] at h1
    have hc := sameL_eq1 h1.2
    obtain ⟨c, k1, k2⟩ := h.cell t.g _ B (hgl _ (tg t hT).1 (tg t hT).2) hB h1.1 i v (by rw [hc]; exact hv)
    refine ⟨c, by rw [Nat.zero_add] at k1; exact k1, k2.plain ?_⟩
    simp only [Tb.cs, List.getElem?_map] at hv
    cases hz : t.zs[i]? with
    | none => rw [hz] at hv; cases hv
    | some z => rw [hz] at hv; obtain rfl := Option.some.inj hv; rfl
  · cases h1

theorem SR.below {m : Inj} {H : AHeap} {W W' : World} (h : SR P gl base m H W) (hb : Below W.heap.size W W') : SR P gl base m H W' := by
  have hc : ∀ (a : Addr) c, W.cell? a = some c → W'.cell? a = some c := fun a c hc => by
    rw [cell_block (hb.block a.block (World.block_lt_of_cell? _ _ hc))]; exact hc
  have hk : ∀ k o, W.heap[k]? = some o → W'.heap[k]? = some o := fun k o hk => by
    rw [hb.block k (Array.getElem?_eq_some_iff.1 hk).1]; exact hk
  exact { le := Nat.le_trans h.le hb.size, dom := h.dom, fresh := h.fresh, es := h.es,
          cell := fun b L B x y z i v hv => by obtain ⟨c, h1, h2⟩ := h.cell b L B x y z i v hv; exact ⟨c, hc _ _ h1, h2⟩, ro := h.ro,
          rw := fun b L B x y z q => by obtain ⟨h1, arr, el, lo, hi, h2, h3⟩ := h.rw b L B x y z q; exact ⟨h1, arr, el, lo, hi, hk _ _ h2, h3⟩,
          mp := fun b L es x y => by obtain ⟨h1, arr, cl, h2, h3⟩ := h.mp b L es x y; exact ⟨h1, arr, cl, hk _ _ h2, h3⟩,
          lp := fun b L R x y z => by obtain ⟨h1, r, h2, h3⟩ := h.lp b L R x y z; exact ⟨h1, r, hk _ _ h2, h3⟩, inj := h.inj, ty := fun b L B hb hB h0 => (h.ty b L B hb hB h0).ext hk }

/-- marks are taken one by one, and nothing else is done -/
theorem shut {R : Ending → World → Prop} {fn : Func} {tmps : Array Value} {n0 : Nat} {m : Inj} {H : AHeap} (hn0 : base ≤ n0) : ∀ (Ds : List Nat) (W : World), SR P gl base m H W → Ds.Nodup → (∀ D ∈ Ds, n0 ≤ D ∧ W.heap[D]? = some (.deferred (some []))) →
    (∀ W', SR P gl base m H W' → Below n0 W W' → LeavesIn (WF none) 0 P fn tmps R [] .returning W') → LeavesInM (WF none) 0 P fn tmps R (Ds.map (fun D => mark D)) .returning W
  | [], W, h, _, _, hk => hk W h (Below.refl _ _)
  | D :: Ds, W, h, hn, hd, hk => by
    obtain ⟨hn1, hn2⟩ := List.nodup_cons.1 hn
    obtain ⟨d1, d2⟩ := hd D (by simp)
    have hw := wr_putObj (o' := .deferred none) d2
    have hs : SR P gl base m H (W.putObj D (.deferred none)) := h.wrOther hw (Nat.le_trans hn0 d1) (fun a t f hx => by rw [d2] at hx; cases hx) (fun c L hc ho e => by
      rcases ho with ⟨B, h1, h2, h3⟩ | ⟨es, h1⟩ | ⟨R, h1, h5⟩
      · obtain ⟨_, arr, el, lo, hi, h4, _⟩ := h.rw c L B hc h1 h2 h3
        rw [e, d2] at h4; cases h4
      · obtain ⟨_, arr, cl, h4, _⟩ := h.mp c L es hc h1
        rw [e, d2] at h4; cases h4
      · obtain ⟨_, r, h4, h6⟩ := h.lp c L R hc h1 h5
        rw [e, d2] at h4; injection h4 with h4; subst h4
        cases R <;> exact h6.elim)
    refine ⟨by simp, .inl ⟨D, _, rfl, run_takeDeferred d2, ?_⟩⟩
    refine shut hn0 Ds _ hs hn2 (fun D' hD' => ⟨(hd D' (by simp [hD'])).1, ?_⟩) (fun W' h1 h2 => hk W' h1 ((hw.below d1).trans h2))
    rw [World.putObj_heap_other (fun e => hn1 (by rw [← e]; exact hD'))]
    exact (hd D' (by simp [hD'])).2

theorem call_sim (hmix : P.follows .mixedOrders = true) {Q : Prog} (hQ : ProgOK P gl Q) : ∀ n, CallSim P base gl (callF Q n)
  | 0 => ⟨fun f args H v H' h => (by cases h), fun b args H v H' h => (by cases h)⟩
  | n + 1 => by
   refine ⟨fun f args H v H' h m W cargs hsr hl hgl => ?_, fun b args H v H' h m W cargs L hsr hl hgl hb => ?_⟩
   ·
    simp only [callF] at h
    split at h
    · rename_i v' ho
      split at h
      rotate_left
      · cases h
      rename_i htab
      injection h with h; injection h with h1 h2; subst h1; subst h2
      obtain ⟨g1, g2, g3⟩ := hQ.orc f args v' ho
      refine ⟨g1, (g3 W cargs (tabW_of hsr hgl hQ.tg htab) (hl.plain g2)).mono fun q W' hq => ?_⟩
      obtain ⟨c, rfl, k1, k2⟩ := hq
      exact ⟨c, m, rfl, ⟨Inj.le_refl m, hsr.below k2, ⟨k2.mono hsr.le, KD.below k2⟩, Nat.le_refl _, fun b _ hb => ⟨hb, rfl⟩⟩, k1.mono (fun b L hb => by cases hb)⟩
    · split at h
      · split at h
        · rename_i v' ho
          injection h with h; injection h with h1 h2; subst h1; subst h2
          obtain ⟨g1, g3⟩ := hQ.orh f args _ v' ho
          refine ⟨g1, (g3 base m W cargs hsr hl).mono fun q W' hq => ?_⟩
          obtain ⟨c, rfl, k1, k2⟩ := hq
          exact ⟨c, m, rfl, ⟨Inj.le_refl m, hsr.below k2, ⟨k2.mono hsr.le, KD.below k2⟩, Nat.le_refl _, fun b _ hb => ⟨hb, rfl⟩⟩, k1.mono (fun b L hb => by cases hb)⟩
        · cases h
      · rename_i F hF
        obtain ⟨fn, hf, hcf⟩ := hQ.fns f F hF
        unfold cfunc at hcf
        split at hcf
        · cases hcf
        · rename_i body hbody
          split at hcf
          · cases hcf
          · rename_i hname
            split at hcf
            · rename_i ac rs hac hrs
              injection hcf with hcf; subst hcf
              simp only at h
              refine ⟨⟨fn, hf, by rw [hbody]; rfl, by simpa using hname⟩, ?_⟩
              split at h
              · cases h
              · rename_i hlen
                have her := er_init hl (N := fn.ntmps) (by omega)
                have hcx : CX none W.heap.size [] W := ⟨Nat.le_refl _, ⟨[], rfl, List.nodup_nil, fun D hD => by simp at hD⟩, fun l hl => by cases hl⟩
                have key : ∀ (x : AEx) (e' : Env) (H2 : AHeap), (x = .normal ∨ x = .ret) → ac.run (callF Q n) n (Env.init 0 args .nil) H = some (x, e', H2) → (match resVal e' H2 rs with | some v => some (v, H2) | none => none) = some (v, H') →
                    Calls P f cargs W fun q W' => ∃ c m', q = .returned c ∧ Post P gl base m H W m' H' W' ∧ VR m' v c := by
                  intro x e' H2 hx hrun hres
                  split at hres
                  · rename_i v' hv'
                    injection hres with hres; injection hres with h1 h2; subst h1; subst h2
                    refine callsIn_wide (n := 0).1 ?_
                    refine callsIn_of_wp_marks (F := WF none) hf hbody trivial ?_
                    refine code_sim (n0 := W.heap.size) hsr.le hmix (call_sim hmix hQ n) (callF_next Q n) body ac hac _ _ _ _ _ hrun [] m W _ _ hcx hgl hsr her (fun a' W' m' ds' k1 kx k2 => ?_)
                    have hpost : LeavesInM (WF none) 0 P fn a'.tmps (fun q W' => ∃ c m', q = .returned c ∧ Post P gl base m H W m' H2 W' ∧ VR m' v' c) a'.defers .returning W' := by
                      rw [k1.defers]
                      obtain ⟨q1, ⟨Ds, q2, q3, q4⟩, q5⟩ := kx
                      rw [q2]
                      refine shut hsr.le Ds W' k2.sr q3 q4 (fun W2 g1 g2 => ?_)
                      have hp2 : Post P gl base m H W m' H2 W2 := by
                        refine ⟨k2.le, g1, ⟨k2.below.toBelow.trans (g2.mono hsr.le), ?_⟩, k2.next, k2.rest⟩
                        have kd := k2.below.kd
                        refine ⟨fun i hi => ?_, fun i r hi => ?_⟩
                        · rw [g2.block i (Array.getElem?_eq_some_iff.1 hi).1]; exact kd.df i hi
                        · obtain ⟨r', h3⟩ := kd.lp i r hi
                          exact ⟨r', by rw [g2.block i (Array.getElem?_eq_some_iff.1 hi).1]; exact h3⟩
                      show ∃ v, (results fn a'.tmps).run P W2 = .ok v W2 ∧ _
                      unfold resVal at hv'
                      split at hv'
                      · rename_i v0 hv0
                        injection hv' with hv'; subst hv'
                        obtain ⟨cs, q1, q2⟩ := res_sim (P := P) g1 k1 hrs hv0
                        obtain ⟨c, z, rfl, q3, q4⟩ := q2.cons_inv
                        obtain rfl := q4.nil_inv
                        refine ⟨c, ?_, c, m', rfl, hp2, q3⟩
                        simp only [results_eq, Array.mapM_eq_mapM_toList, Sem.run_bind, Sem.run_map, q1, Result.andThen_ok]
                        rfl
                      · rename_i vs hne hvs
                        injection hv' with hv'; subst hv'
                        obtain ⟨cs, q1, q2⟩ := res_sim (P := P) g1 k1 hrs hvs
                        refine ⟨.tuple cs.toArray, ?_, .tuple cs.toArray, m', rfl, hp2, VR.tup' (by simpa using q2)⟩
                        have hsz : ¬ (cs.toArray.size = 1) := by
                          intro hs
                          have : vs.length = 1 := by rw [q2.1]; simpa using hs
                          match vs, this with
                          | [u], _ => exact hne u rfl
                        simp only [results_eq, Array.mapM_eq_mapM_toList, Sem.run_bind, Sem.run_map, q1, Result.andThen_ok]
                        simp only [dif_neg hsz]
                        rfl
                      · cases hv'
                    rcases hx with rfl | rfl
                    · exact hpost
                    · exact hpost
                  · cases hres
                split at h
                · rename_i e' H2 hrun; exact key _ _ _ (.inl rfl) hrun h
                · rename_i e' H2 hrun; exact key _ _ _ (.inr rfl) hrun h
                · cases h
            · cases hcf
   ·
    simp only [callF] at h
    split at h
    · rename_i R hR
      split at h
      · cases h
      · rename_i hst
        have hst : R.st = 0 ∧ args.length = R.ps.length := Decidable.of_not_not hst
        obtain ⟨hbase, r, hr1, hr2⟩ := hsr.lpL hb hR
        have hsz : cargs.size = r.params.size := by
          have e1 := hl.1
          have e2 := congrArg List.length hr2.ps
          simp only [Array.length_toList] at e1 e2
          omega
        refine ⟨_, _, _, _, run_yield hr1 hsz, ?_⟩
        split at h
        · rename_i e1 H1 hrun1
          split at h
          · rename_i R1 hR1
            split at h
            · cases h
            · rename_i hst1
              have hst1 : R1.st = 0 := Decidable.of_not_not hst1
              split at h
              · rename_i x e2 H2 hrun2
                split at h
                · rename_i R2 hR2
                  injection h with h; injection h with hv hH; subst hv; subst hH
                  have her := er_putAll (m := m) (N := R.N) R.ps args cargs.toList R.env r.tmps hr2.lt hl hr2.size hr2.tmps
                  have hfold : (r.params.zip cargs).foldl (fun tmps (p : Nat × Value) => tmps.setIfInBounds p.1 p.2) r.tmps = (R.ps.zip cargs.toList).foldl (fun tmps (p : Nat × Value) => tmps.setIfInBounds p.1 p.2) r.tmps := by
                    rw [← Array.foldl_toList, Array.toList_zip, hr2.ps]
                  have hcx : CX (some L.blk) W.heap.size [] W := ⟨Nat.le_refl _, ⟨[], rfl, List.nodup_nil, fun D hD => by simp at hD⟩, fun l hl => by injection hl with hl; subst hl; exact ⟨r, hr1⟩⟩
                  refine roundIn_of_wpIn (F := Fence.wide) trivial ?_
                  refine code_sim (ro := some L.blk) (n0 := W.heap.size) (N := R.N) hsr.le hmix (call_sim hmix hQ n) (callF_next Q n) r.assign R.assign hr2.assign _ _ _ _ _ hrun1 [] m W _ _ hcx hgl hsr ⟨by rw [hfold]; exact her.1, rfl, fun y => by rw [hfold]; exact her.2 y⟩ (fun a1 W1 m1 ds1 k1 kx k2 => ?_)
                  have hb1 : m1 b = some L := k2.le _ _ hb
                  obtain ⟨_, r1, hq1, hq2⟩ := k2.sr.lpL hb1 hR1
                  have hw1 := wr_putObj (o' := .loop { r1 with state := .busy }) hq1
                  obtain ⟨sr1, bk1⟩ := k2.sr.writeLoop (R' := { R1 with st := 1 }) hb1 hR1 hq1 hw1 ⟨rfl, hq2.pend, hq2.size, hq2.tmps, hq2.ps, hq2.lt, hq2.assign, hq2.body⟩
                  refine ⟨_, run_beginRound hq1 (by rw [hq2.st, hst1]; rfl), ?_⟩
                  refine code_sim (ro := some L.blk) (n0 := W.heap.size) (N := R.N) hsr.le hmix (call_sim hmix hQ n) (callF_next Q n) r.body R.body hr2.body _ _ _ _ _ hrun2 ds1 m1 _ _ _ (kx.post bk1) (gl_mono hgl k2.le) sr1 k1 (fun a2 W2 m2 ds2 g1 gx g2 => ?_)
                  have hb2 : m2 b = some L := g2.le _ _ hb1
                  obtain ⟨_, r2, hu1, hu2⟩ := g2.sr.lpL hb2 hR2
                  have fin : ∀ (jump : Option Code), jumpOf x = jump → ∃ v w', (Instr.endRound L.blk jump).run P W2 = .ok v w' ∧ ∃ c m', Ending.returned v = .returned c ∧ Post P gl base m H W m' (H2.set b (.loop { R2 with st := if x = .normal then 0 else 2, pend := x })) w' ∧ VR m' (.bool (decide (x = .normal))) c := by
                    intro jump hj
                    have hw2 := wr_putObj (o' := .loop { r2 with state := if jump.isNone then .ready else .done, pending := jump }) hu1
                    have hjn : jump.isNone = decide (x = .normal) := by subst hj; cases x <;> rfl
                    obtain ⟨sr2, bk2⟩ := g2.sr.writeLoop (R' := { R2 with st := if x = .normal then 0 else 2, pend := x }) hb2 hR2 hu1 hw2 ⟨by subst hj; cases x <;> rfl, hj.symm, hu2.size, hu2.tmps, hu2.ps, hu2.lt, hu2.assign, hu2.body⟩
                    refine ⟨_, _, run_endRound jump hu1, _, m2, rfl, ?_, by rw [hjn]; exact .bool _⟩
                    refine ⟨Inj.le_trans k2.le g2.le, sr2, k2.below.trans (bk1.trans (g2.below.trans bk2)), ?_, fun c hc hm => ?_⟩
                    · have := k2.next; have := g2.next; rw [AHeap.next_set] at this ⊢; omega
                    · have hcb : c ≠ b := fun e => by subst e; rw [hb] at hm; cases hm
                      obtain ⟨u1, u2⟩ := k2.rest c hc hm
                      obtain ⟨u3, u4⟩ := g2.rest c (Nat.lt_of_lt_of_le hc k2.next) u1
                      exact ⟨u3, by rw [AHeap.get_set_ne _ _ _ _ hcb, u4, AHeap.get_set_ne _ _ _ _ hcb, u2]⟩
                  cases x with
                  | normal => exact fin none rfl
                  | ret => exact fin (some .ret) rfl
                  | exit id => exact fin (some (.exit id)) rfl
                · cases h
              · cases h
          · cases h
        · cases h
    · cases h

theorem enters_of {Q : Prog} (hQ : ProgOK P gl Q) : ∀ {n : Nat} {f : FuncId} {args : List AV} {H H' : AHeap} {v : AV}, callF Q n (.fn f) args H = some (v, H') → ∃ fn, P.funcs[f]? = some fn ∧ fn.body.isSome = true ∧ (fn.name == "runtime.NumGoroutine") = false
  | 0, f, args, H, H', v, h => by cases h
  | n + 1, f, args, H, H', v, h => by
    simp only [callF] at h
    split at h
    · rename_i v' ho; exact (hQ.orc f args v' ho).1
    · split at h
      · split at h
        · rename_i v' ho; exact (hQ.orh f args _ v' ho).1
        · cases h
      · rename_i F hF
        obtain ⟨fn, hf, hcf⟩ := hQ.fns f F hF
        unfold cfunc at hcf
        split at hcf
        · cases hcf
        · rename_i body hbody
          split at hcf
          · cases hcf
          · rename_i hname; exact ⟨fn, hf, by rw [hbody]; rfl, by simpa using hname⟩
/-! ### Tables of numbers, alone in memory -/
def tabT : List Tb → T AObj
  | [] => .nil
  | t :: l => (tabT l).set t.g (.row ⟨t.cs, 0, true, true, 0⟩)
def tabH (N : Nat) (l : List Tb) : AHeap := ⟨N, tabT l⟩
def tabI (l : List Tb) : Inj := fun b => if b ∈ l.map (·.g) then some ⟨b, 0, 0, 0⟩ else none
theorem tab_get (N : Nat) : ∀ {l : List Tb} {b : Nat} {o : AObj}, (tabH N l).get b = some o → ∃ t ∈ l, t.g = b ∧ o = .row ⟨t.cs, 0, true, true, 0⟩
  | [], b, o, h => by cases h
  | t :: l, b, o, h => by
    have e : tabH N (t :: l) = (tabH N l).set t.g (.row ⟨t.cs, 0, true, true, 0⟩) := rfl
    rw [e, AHeap.get_set] at h
    by_cases hb : b = t.g
    · rw [if_pos hb] at h
      exact ⟨t, List.mem_cons_self .., hb.symm, (Option.some.inj h).symm⟩
    · rw [if_neg hb] at h
      obtain ⟨u, hu, h1, h2⟩ := tab_get N h
      exact ⟨u, List.mem_cons_of_mem _ hu, h1, h2⟩
theorem tab_at (N : Nat) : ∀ {l : List Tb}, (l.map (·.g)).Nodup → ∀ {t : Tb}, t ∈ l → (tabH N l).get t.g = some (.row ⟨t.cs, 0, true, true, 0⟩)
  | [], _, t, h => by simp at h
  | u :: l, hn, t, h => by
    have e : tabH N (u :: l) = (tabH N l).set u.g (.row ⟨u.cs, 0, true, true, 0⟩) := rfl
    rw [e, AHeap.get_set]
    rw [List.map_cons, List.nodup_cons] at hn
    rcases List.mem_cons.1 h with rfl | h
    · rw [if_pos rfl]
    · rw [if_neg (fun hh : t.g = u.g => hn.1 (by rw [← hh]; exact List.mem_map.2 ⟨t, h, rfl⟩))]
      exact tab_at N hn.2 h
theorem sameL_refl : ∀ (l : List Int) (k : IntKind), AV.sameL (l.map (.int k)) (l.map (.int k)) = true
  | [], _ => rfl
  | z :: l, k => by
    simp only [List.map_cons, AV.sameL, AV.same1, beq_self_eq_true, Bool.true_and]
    exact sameL_refl l k
/-- tables that lie in one memory lie in each that holds it -/
theorem hasTabs_of {N : Nat} {l : List Tb} (hn : (l.map (·.g)).Nodup) {H : AHeap} (h : ∀ b, b < N → H.get b = (tabH N l).get b) (hN : ∀ t ∈ l, t.g < N) : hasTabs H l = true := by
  refine List.all_eq_true.2 fun t ht => ?_
  rw [h _ (hN t ht), tab_at N hn ht]
  simp only [Bool.true_and]
  exact sameL_refl _ _
structure TOk (N : Nat) (l : List Tb) : Prop where
  nd : (l.map (·.g)).Nodup
  lt : ∀ t ∈ l, t.g < N
  ne : ∀ t ∈ l, t.zs ≠ []
theorem sr_tabs {W : World} {N : Nat} {l : List Tb} (ok : TOk N l) (hc : TabW l W) : SR P gl W.heap.size (tabI l) (tabH N l) W := by
  have mem : ∀ {b : Nat} {L : Loc}, tabI l b = some L → b ∈ l.map (·.g) ∧ L = ⟨b, 0, 0, 0⟩ := by
    intro b L h
    unfold tabI at h
    split at h
    · rename_i hm; exact ⟨hm, (Option.some.inj h).symm⟩
    · cases h
  have hW : ∀ t ∈ l, t.g < W.heap.size := by
    intro t ht
    obtain ⟨z, zs, hz⟩ : ∃ z zs, t.zs = z :: zs := by
      cases h : t.zs with
      | nil => exact absurd h (ok.ne t ht)
      | cons z zs => exact ⟨z, zs, rfl⟩
    obtain ⟨c, h1, _⟩ := hc t ht 0 (.int t.k z) (by simp [Tb.cs, hz])
    exact World.block_lt_of_cell? _ _ h1
  refine { le := Nat.le_refl _, dom := ?_, fresh := ?_, es := ?_, cell := ?_, ro := ?_, rw := ?_, mp := ?_, lp := ?_, inj := ?_, ty := fun b L B hb hB h0 => by
             obtain ⟨t, ht, _, e⟩ := tab_get N hB
             injection e with e; subst e; exact absurd rfl h0 }
  · intro b L h
    obtain ⟨hm, _⟩ := mem h
    obtain ⟨t, ht, rfl⟩ := List.mem_map.1 hm
    exact ok.lt t ht
  · intro b hb
    cases hg : (tabH N l).get b with
    | none => rfl
    | some o =>
      obtain ⟨t, ht, rfl, _⟩ := tab_get N hg
      have h1 := ok.lt t ht
      have h2 : N ≤ t.g := hb
      omega
  · intro b L B h hg
    obtain ⟨_, rfl⟩ := mem h
    obtain ⟨t, ht, _, e⟩ := tab_get N hg
    injection e with e; subst e; rfl
  · intro b L B h hg _ i v hv
    obtain ⟨_, rfl⟩ := mem h
    obtain ⟨t, ht, rfl, e⟩ := tab_get N hg
    injection e with e; subst e
    obtain ⟨c, k1, k2⟩ := hc t ht i v hv
    exact ⟨c, by rw [Nat.zero_add]; exact k1, k2.mono (fun b L hb => by cases hb)⟩
  · intro b L B h hg _ _
    obtain ⟨hm, rfl⟩ := mem h
    obtain ⟨t, ht, rfl⟩ := List.mem_map.1 hm
    exact .inl (hW t ht)
  · intro b L B h hg _ hro
    obtain ⟨t, ht, _, e⟩ := tab_get N hg
    injection e with e; subst e; cases hro
  · intro b L es h hg
    obtain ⟨t, ht, _, e⟩ := tab_get N hg
    cases e
  · intro b L R h hg hrec
    obtain ⟨t, ht, _, e⟩ := tab_get N hg
    subst e; cases hrec
  · intro b b' L L' h h' ho
    exfalso
    rcases ho with ⟨B, hg, _, hro⟩ | ⟨es, hg⟩ | ⟨R, hg, hrec⟩
    · obtain ⟨t, ht, _, e⟩ := tab_get N hg
      injection e with e; subst e; cases hro
    · obtain ⟨t, ht, _, e⟩ := tab_get N hg
      cases e
    · obtain ⟨t, ht, _, e⟩ := tab_get N hg
      subst e; cases hrec
theorem tabI_gl {l : List Tb} : ∀ g ∈ l.map (·.g), tabI l g = some ⟨g, 0, 0, 0⟩ := fun g hg => by unfold tabI; rw [if_pos hg]
/-- A call of a function without addresses among its arguments and its answer, from the tables alone: what an oracle may say. -/
theorem tabI_glM {gl : List Nat} {l : List Tb} (h : ∀ g ∈ gl, g < 999999 → g ∈ l.map (·.g)) : ∀ g ∈ gl, g < 999999 → tabI l g = some ⟨g, 0, 0, 0⟩ := fun g hg hlt => tabI_gl g (h g hg hlt)
theorem orc_of_run (hmix : P.follows .mixedOrders = true) {Q : Prog} {T : List Tb} {N : Nat} (ok : TOk N T) {gl : List Nat} (hgT : ∀ g ∈ gl, g < 999999 → g ∈ T.map (·.g)) (hQ : ProgOK P gl Q) {n : Nat} {f : FuncId} {args : List AV} {v : AV} {H' : AHeap} (hp : args.all AV.plain = true) (hv : v.plain = true) (h : callF Q n (.fn f) args (tabH N T) = some (v, H')) : OrcOK P T f args v := by
  have h0 : ∀ (W : World) (cargs : Array Value), TabW T W → LR noInj args cargs.toList → _ := fun W cargs ht hl => (call_sim (base := W.heap.size) hmix hQ n).fn f args _ v H' h (tabI T) W cargs (sr_tabs ok ht) (hl.mono (fun b L hb => by cases hb)) (tabI_glM hgT)
  refine ⟨?_, hp, fun W cargs ht hl => ((h0 W cargs ht hl).2).mono fun q W' hq => ?_⟩
  · exact enters_of hQ h
  · obtain ⟨c, m', rfl, k1, k2⟩ := hq
    exact ⟨c, rfl, k2.plain hv, k1.below.toBelow⟩
end Go.Proofs.YtdkpmlhbofgfdaaGreatDoor.AM
