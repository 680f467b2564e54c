/-
  Ranges over functions: the record of a loop, and the statement itself.
-/
import Derived.Test.YtdkpmlhbofgfdaaGreatDoorAmDraw3
import Derived.RangeFuncRecord
import Derived.LoopNIn
set_option linter.unusedSimpArgs false
set_option linter.unusedVariables false
namespace Go.Proofs.YtdkpmlhbofgfdaaGreatDoor.AM
open Go Go.RowKit

variable {base : Nat} {P : Program} {gl : List Nat} {m : Inj} {H : AHeap} {W : World} {e : Env}

abbrev mark (D : Nat) : Deferred := { target := .collected D, args := #[] }
def AEx.out : AEx → Exit
  | .normal => .normal
  | .exit id => .exit id
  | .ret => .ret
/-- what a walk through a code keeps beside: the marks of the frame's own loops, the round's record -/
structure CX (ro : Option Nat) (n0 : Nat) (ds : List Deferred) (W : World) : Prop where
  low : n0 ≤ W.heap.size
  mks : ∃ Ds : List Nat, ds = Ds.map (fun D => mark D) ∧ Ds.Nodup ∧ ∀ D ∈ Ds, n0 ≤ D ∧ W.heap[D]? = some (.deferred (some []))
  ro : ∀ l : Nat, ro = some l → ∃ r, W.heap[l]? = some (.loop r)
theorem CX.post {ro : Option Nat} {n0 : Nat} {ds : List Deferred} {W W' : World} (h : CX ro n0 ds W) (k : BK base W W') : CX ro n0 ds W' := by
  obtain ⟨h1, ⟨Ds, h2, h3, h4⟩, h5⟩ := h
  refine ⟨Nat.le_trans h1 k.size, ⟨Ds, h2, h3, fun D hD => ⟨(h4 D hD).1, k.kd.df D (h4 D hD).2⟩⟩, fun l hl => ?_⟩
  obtain ⟨r, hr⟩ := h5 l hl
  exact k.kd.lp l r hr

theorem wr_putObj {W : World} {l : Nat} {o o' : Obj} (h : W.heap[l]? = some o) : Wr W (W.putObj l o') l o' :=
  ⟨rfl, rfl, rfl, World.putObj_size, fun k hk => World.putObj_heap_other hk, World.putObj_heap_same (Array.getElem?_eq_some_iff.1 h).1⟩
theorem KD.loop {W W' : World} {g : Nat} {r r' : Loop} (hw : Wr W W' g (.loop r')) (h : W.heap[g]? = some (.loop r)) : KD W W' := by
  refine ⟨fun i hi => ?_, fun i r2 hi => ?_⟩
  · rw [hw.same i (fun e => by subst e; rw [h] at hi; cases hi)]; exact hi
  · by_cases hig : i = g
    · subst hig; exact ⟨r', hw.at_⟩
    · rw [hw.same i hig]; exact ⟨r2, hi⟩
theorem SR.writeLoop (h : SR P gl base m H W) {b : Nat} {L : Loc} {R R' : ALoop} {r r' : Loop} (hb : m b = some L) (hB : H.get b = some (.loop R)) (hr : W.heap[L.blk]? = some (.loop r)) {W' : World} (hw : Wr W W' L.blk (.loop r')) (hR : LpR P gl m R' r') :
    SR P gl base m (H.set b (.loop R')) W' ∧ BK base W W' := ⟨h.writeRec rfl rfl hb hB hw hR, hw.below (h.lpL hb hB).1, KD.loop hw hr⟩
theorem SR.placeLoop (h : SR P gl base m H W) {b : Nat} {L : Loc} {R : ALoop} {r : Loop} (hb : m b = none) (hB : H.get b = some (.loop R)) (hbase : base ≤ L.blk) (ha : W.heap[L.blk]? = some (.loop r)) (hR : LpR P gl m R r)
    (hout : ∀ c L', m c = some L' → owned H c → L'.blk ≠ L.blk) : SR P gl base (m.upd b L) H W := h.placeRec rfl hb hB hbase ha hR hout
/-- entering the statement -/
theorem enter_loop {ro : Option Nat} {n0 : Nat} {ds : List Deferred} (hn0 : base ≤ n0) (h : SR P gl base m H W) (hcx : CX ro n0 ds W) (fn : FuncId) (tmps : Array Value) (ps : Array Tmp) (asg bdy : Code) :
    ∃ l mk w1 D, (Instr.enterLoop fn tmps ps asg bdy ro).run P W = .ok (l, mk) w1 ∧ w1.heap[l]? = some (.loop { state := .ready, pending := none, fn, tmps, params := ps, assign := asg, body := bdy, defers := D }) ∧
      SR P gl base m H w1 ∧ BK base W w1 ∧ W.heap.size ≤ l ∧ CX ro n0 (mk ++ ds) w1 := by
  cases ro with
  | none =>
    have hp1 := h.push (W' := W.alloc (.deferred (some []))) (.deferred (some [])) rfl
    have b1 : BK base W (W.alloc (.deferred (some []))) := below_push h.le rfl rfl rfl rfl
    have hc1 := hcx.post b1
    have b2 : BK base (W.alloc (.deferred (some []))) ((W.alloc (.deferred (some []))).alloc (.loop { state := .ready, pending := none, fn, tmps, params := ps, assign := asg, body := bdy, defers := W.heap.size })) := below_push hp1.le rfl rfl rfl rfl
    refine ⟨_, _, _, W.heap.size, run_enterLoop_outer _ _ _ _ _, ?_, hp1.push _ rfl, b1.trans b2, Nat.le_succ _, ?_⟩
    · have := World.alloc_heap_new (W.alloc (.deferred (some []))) (.loop { state := .ready, pending := none, fn, tmps, params := ps, assign := asg, body := bdy, defers := W.heap.size })
      rwa [World.size_alloc] at this
    · obtain ⟨q1, ⟨Ds, q2, q3, q4⟩, q5⟩ := hcx
      have hd : (W.alloc (.deferred (some []))).heap[W.heap.size]? = some (.deferred (some [])) := World.alloc_heap_new W _
      refine ⟨Nat.le_trans q1 (Nat.le_trans b1.size b2.size), ⟨W.heap.size :: Ds, by rw [q2]; rfl, List.nodup_cons.2 ⟨fun hm => ?_, q3⟩, fun D hD => ?_⟩, fun l hl => by cases hl⟩
      · have := (Array.getElem?_eq_some_iff.1 (q4 _ hm).2).1
        omega
      · rcases List.mem_cons.1 hD with rfl | hD
        · exact ⟨q1, b2.kd.df _ hd⟩
        · exact ⟨(q4 D hD).1, b2.kd.df _ (b1.kd.df _ (q4 D hD).2)⟩
  | some l0 =>
    obtain ⟨r0, hr0⟩ := hcx.ro l0 rfl
    have b1 : BK base W (W.alloc (.loop { state := .ready, pending := none, fn, tmps, params := ps, assign := asg, body := bdy, defers := r0.defers })) := below_push h.le rfl rfl rfl rfl
    refine ⟨W.heap.size, [], _, r0.defers, ?_, World.alloc_heap_new W _, h.push _ rfl, b1, Nat.le_refl _, hcx.post b1⟩
    unfold Instr.enterLoop
    simp only [Sem.run_bind, run_getLoop hr0, run_newObj_alloc, Result.andThen, Sem.run_pure]
theorem stOf_busy {n : Nat} (h : ¬ n = 1) : stOf n ≠ .busy := by
  match n, h with
  | 0, _ => simp [stOf]
  | 1, h => exact absurd rfl h
  | n + 2, _ => cases n <;> simp [stOf]
/-- the statement -/
theorem range_sim {ro : Option Nat} {n0 : Nat} {ds : List Deferred} {N : Nat} {cl : CallH} {fuel : Nat} (hn0 : base ≤ n0) (hcl : CallSim P base gl cl) {f : Operand} {ps : Array Tmp} {asg bdy : Code} {z : Opd} {x1 x2 : ACode} (hz : copd gl f = some z) (hps : ∀ (i : Nat) (h : i < ps.size), ps[i] < N) (h1 : ccode P gl N asg = some x1) (h2 : ccode P gl N bdy = some x2)
    {x : AEx} {e' : Env} {H' : AHeap} (hr : (ACode.rangeF z N ps.toList x1 x2).run cl fuel e H = some (x, e', H')) {a : Act} {Q : Exit → Act → World → Prop} (hcx : CX ro n0 ds W) (hgl : ∀ g ∈ gl, g < 999999 → m g = some ⟨g, 0, 0, 0⟩) (h : SR P gl base m H W) (her : ER ds m N e a)
    (hQ : ∀ a' W' m' ds', ER ds' m' N e' a' → CX ro n0 ds' W' → Post P gl base m H W m' H' W' → Q x.out a' W') : (Code.rangeFunc f ps asg bdy).wpIn (WF ro) 0 P Q a W := by
  simp only [ACode.run] at hr
  split at hr
  · rename_i g first cap hze
    split at hr
    · rename_i v1 H1 hcall
      split at hr
      · rename_i R hR
        split at hr
        · cases hr
        · rename_i hst
          simp only [Option.some.injEq, Prod.mk.injEq] at hr
          obtain ⟨rfl, rfl, rfl⟩ := hr
          refine wpIn_rangeFunc (fun fn _ => ?_)
          obtain ⟨l, mk, w1, D, k1, k2, k3, k4, k5, k6⟩ := enter_loop hn0 h hcx fn a.tmps ps asg bdy
          have hmn : m H.next = none := by
            cases hm : m H.next with
            | none => rfl
            | some L => exact absurd (h.dom _ _ hm) (Nat.lt_irrefl _)
          have hle := Inj.le_upd (L := ⟨l, 0, 0, 0⟩) hmn
          have sr1 : SR P gl base (m.upd H.next ⟨l, 0, 0, 0⟩) (H.alloc (.loop ⟨0, .normal, N, e, ps.toList, x1, x2⟩)) w1 := by
            refine (k3.ext _).placeLoop (L := ⟨l, 0, 0, 0⟩) hmn (by rw [AHeap.get_alloc, if_pos rfl]) (Nat.le_trans h.le k5) k2 ⟨rfl, rfl, her.size, fun x => her.tmps x, rfl, fun p hp => ?_, h1, h2⟩ (fun c L' hc ho => ?_)
            · obtain ⟨i, hi, rfl⟩ := List.mem_iff_getElem.1 hp
              exact hps i (by simpa using hi)
            · have hcn : c ≠ H.next := fun e => by subst e; rw [hmn] at hc; cases hc
              have : owned H c := by unfold owned at ho ⊢; rw [AHeap.get_alloc, if_neg hcn] at ho; exact ho
              have := h.own_lt hc this
              exact fun e => by rw [e] at this; exact absurd this (Nat.not_lt.2 k5)
          have hv := opR_of (a := a) (e := e) hgl (X := f) (fun t _ => her.tmps t) z hz
          rw [hze] at hv
          generalize hρ : a.eval f = fv at hv
          cases hv with
          | fn q1 q2 q3 q4 =>
            rename_i x' y'
            have hlr : LR (m.upd H.next ⟨l, 0, 0, 0⟩) (first ++ [AV.yld H.next] ++ cap) (x' ++ #[Value.func (.yield l) #[] #[]] ++ y').toList := by
              rw [Array.toList_append, Array.toList_append]
              refine LR.append (LR.append (LR.mono hle ⟨by simpa using q1, fun i u u' p q => q2 i u u' p (by simpa using q)⟩) (LR.cons (VR.yld (L := ⟨l, 0, 0, 0⟩) (Inj.upd_same _ _ _)) (LR.nil _))) (LR.mono hle ⟨by simpa using q3, fun i u u' p q => q4 i u u' p (by simpa using q)⟩)
            obtain ⟨⟨fn', hf, hb, hnm⟩, hC⟩ := hcl.fn g _ _ _ _ hcall _ w1 _ sr1 hlr (gl_mono hgl hle)
            refine ⟨l, mk, w1, { target := .fn (.func g) y', args := x' ++ #[.func (.yield l) #[] #[]] }, w1, g, x' ++ #[.func (.yield l) #[] #[]] ++ y', w1, k1, ?_, fun _ _ => trivial, ?_, fun hh => (by cases hh), ?_⟩
            · simp only [resolve, rangeCall, hρ]
              simp [Deferred.ofValue, Act.eval]
            · have hb' : fn'.body.isNone = false := by cases hq : fn'.body <;> simp [hq] at hb ⊢
              simp only [invoke, callFunc, Sem.run_bind, run_program, Result.andThen_ok, hf, hnm, hb', Bool.false_eq_true, if_false, Sem.run_pure]
            · have hC2 : CallsIn (WF ro) (0 - 1) P g (x' ++ #[Value.func (.yield l) #[] #[]] ++ y') w1 _ := (callsIn_wide (n := 0)).2 hC
              refine hC2.mono fun q W' hq => ?_
              obtain ⟨c, m', rfl, p1, p2⟩ := hq
              have hm' : m' H.next = some ⟨l, 0, 0, 0⟩ := p1.le _ _ (Inj.upd_same _ _ _)
              obtain ⟨_, r, hr1, hr2⟩ := p1.sr.lpL hm' hR
              have hw := wr_putObj (o' := .loop { r with state := .exhausted }) hr1
              obtain ⟨sr2, bk2⟩ := p1.sr.writeLoop (R' := { R with st := 3 }) hm' hR hr1 hw ⟨rfl, hr2.pend, hr2.size, hr2.tmps, hr2.ps, hr2.lt, hr2.assign, hr2.body⟩
              have hend := run_endLoop (P := P) (w := W') hr1 (by rw [hr2.st]; exact stOf_busy hst)
              have hbk := k4.trans (p1.below.trans bk2)
              have hpost : Post P gl base m H W m' (H1.set H.next (.loop { R with st := 3 })) (W'.putObj l (.loop { r with state := .exhausted })) :=
                ⟨Inj.le_trans hle p1.le, sr2, hbk, Nat.le_trans (Nat.le_succ _) p1.next, fun b hb hm => by
                  have hbn : b ≠ H.next := Nat.ne_of_lt hb
                  obtain ⟨u1, u2⟩ := p1.rest b (Nat.lt_succ_of_lt hb) (by unfold Inj.upd; rw [if_neg hbn]; exact hm)
                  exact ⟨u1, by rw [AHeap.get_set_ne _ _ _ _ hbn, u2, AHeap.get_alloc, if_neg hbn]⟩⟩
              have her' : ER (mk ++ ds) m' N e { a with defers := mk ++ a.defers } := ⟨her.size, by simp only [her.defers], fun x => (her.tmps x).mono (Inj.le_trans hle p1.le)⟩
              have hcx' := k6.post (p1.below.trans bk2)
              refine ⟨_, _, hend, ?_⟩
              have fin := hQ _ _ _ _ her' hcx' hpost
              rw [hr2.pend] at fin ⊢
              cases hpe : R.pend with
              | normal => rw [hpe] at fin; exact fin
              | exit id => rw [hpe] at fin; exact wpIn_exit fin
              | ret => rw [hpe] at fin; exact wpIn_ret fin
      · cases hr
    · cases hr
  · cases hr

/-- arguments into a loop's variables -/
theorem er_putAll {N : Nat} : ∀ (ps : List Nat) (args : List AV) (cargs : List Value) (e : Env) (t : Array Value), (∀ p ∈ ps, p < N) → LR m args cargs → t.size = N → (∀ x, VR m (Env.get e x) (t.getD x undef)) →
    ((ps.zip cargs).foldl (fun tmps (p : Nat × Value) => tmps.setIfInBounds p.1 p.2) t).size = N ∧ ∀ x, VR m (Env.get (putAll ps args e) x) (((ps.zip cargs).foldl (fun tmps (p : Nat × Value) => tmps.setIfInBounds p.1 p.2) t).getD x undef)
  | [], args, cargs, e, t, _, _, ht, he => by simp only [List.zip_nil_left, List.foldl_nil, putAll]; exact ⟨ht, he⟩
  | p :: ps, [], cargs, e, t, _, hl, ht, he => by rw [hl.nil_inv]; simp only [List.zip_nil_right, List.foldl_nil, putAll]; exact ⟨ht, he⟩
  | p :: ps, v :: args, cargs, e, t, hp, hl, ht, he => by
    obtain ⟨c, cargs', rfl, hv, hl'⟩ := hl.cons_inv
    simp only [List.zip_cons_cons, List.foldl_cons, putAll]
    refine er_putAll ps args cargs' _ _ (fun q hq => hp q (by simp [hq])) hl' (by simpa using ht) (fun x => ?_)
    have h1 := put_getD { tmps := t, defers := [] } (some p) c x
    simp only [Act.put] at h1
    rw [h1, Env.get_put]
    by_cases hx : p = x
    · subst hx; rw [if_pos rfl, if_pos ⟨rfl, by have := hp p (by simp); omega⟩]; exact hv
    · rw [if_neg (by simpa using hx), if_neg (by simp [hx])]; exact he x
end Go.Proofs.YtdkpmlhbofgfdaaGreatDoor.AM
