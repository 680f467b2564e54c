/-
  The simulation: what the abstract machine answers, the model's call answers, in every world.
-/
import Derived.Test.YtdkpmlhbofgfdaaGreatDoorAmLoop
set_option linter.unusedSimpArgs false
set_option linter.unusedVariables false
namespace Go.Proofs.YtdkpmlhbofgfdaaGreatDoor.AM
open Go Go.RowKit

variable {base : Nat} {P : Program} {gl : List Nat}

theorem unlisted_len {n i : Nat} {ls : Array Bool} (hi : i < n) (hs : ls.size = n) (h : ls.getD i true = false) :
    ((List.range n).filter fun j => !((ls.setIfInBounds i true).getD j true)).length + 1 = ((List.range n).filter fun j => !(ls.getD j true)).length := by
  have key : ∀ (l : List Nat), l.Nodup → i ∈ l → (l.filter fun j => !((ls.setIfInBounds i true).getD j true)).length + 1 = (l.filter fun j => !(ls.getD j true)).length := by
    intro l
    induction l with
    | nil => intro _ h; simp at h
    | cons a l ih =>
      intro hn hm
      obtain ⟨hn1, hn2⟩ := List.nodup_cons.1 hn
      have hne : ∀ j, j ≠ i → (ls.setIfInBounds i true).getD j true = ls.getD j true := fun j hj => by
        simp only [Array.getD_eq_getD_getElem?]; rw [Array.getElem?_setIfInBounds_ne (by omega)]
      have hat : (ls.setIfInBounds i true).getD i true = true := by
        simp only [Array.getD_eq_getD_getElem?]; rw [Array.getElem?_setIfInBounds_self]; split <;> rfl
      by_cases hai : a = i
      · subst hai
        have hrest : (l.filter fun j => !((ls.setIfInBounds a true).getD j true)) = (l.filter fun j => !(ls.getD j true)) := by
          apply List.filter_congr
          intro x hx
          rw [hne x (fun e => hn1 (e ▸ hx))]
        rw [List.filter_cons, List.filter_cons, hat, h, hrest]
        simp
      · have hil : i ∈ l := by rcases List.mem_cons.1 hm with h | h; exact absurd h.symm hai; exact h
        have := ih hn2 hil
        rw [List.filter_cons, List.filter_cons, hne a hai]
        split
        · rw [List.length_cons, List.length_cons]; omega
        · exact this
  exact key _ List.nodup_range (List.mem_range.2 hi)

theorem region_any {ro : Option Nat} {N : Nat} {cl : CallH} (R : RC P gl base N cl) {Q : Exit → Act → World → Prop} (hQ : ∀ a' W' m', ER R.ds m' N R.eF a' → Post P gl base R.m0 R.H0 R.W0 m' R.HF W' → Q .normal a' W') :
    ∀ (fuel : Nat) (ls : Array Bool) (a : Act) (W : World), ls.size = R.opsA.size → ((List.range R.opsA.size).filter fun j => !(ls.getD j true)).length = fuel →
      (∃ L1 L2 eX HX m, R.Inv (fun j => ls.getD j false = true) a W L1 L2 eX HX m) → wpAnyIn (WF ro) 0 P .any R.opsA Q fuel ls a W := by
  have readyIff : ∀ (ls : Array Bool) (i : Nat), ls.size = R.opsA.size → (i ∈ Region.ready .any R.opsA ls ↔ (i < R.opsA.size ∧ ls.getD i true = false ∧ ∀ q, R.opsA.toList[i]? = some q → ∀ j ∈ edges q, ls.getD j false = true)) := by
    intro ls i hs
    unfold Region.ready
    simp only [List.mem_filter, List.mem_range, Bool.and_eq_true, Bool.not_eq_true']
    constructor
    · rintro ⟨h1, h2, h3⟩
      refine ⟨h1, h2, fun q hq j hj => ?_⟩
      have hq' : R.opsA[i]? = some q := by simpa using hq
      rw [hq'] at h3
      simp only [Option.map_some, Option.getD_some, Array.all_eq_true_iff_forall_mem] at h3
      obtain ⟨ed, he1, he2, rfl⟩ := mem_edges.1 hj
      have := h3 ed he1
      rw [he2] at this
      simpa using this
    · rintro ⟨h1, h2, h3⟩
      refine ⟨h1, h2, ?_⟩
      have hq' : R.opsA[i]? = some R.opsA[i] := by simp [h1]
      rw [hq']
      simp only [Option.map_some, Option.getD_some, Array.all_eq_true_iff_forall_mem]
      intro ed he
      cases hb : Region.binds .any ed with
      | false => rfl
      | true =>
        have := h3 R.opsA[i] (by simp) ed.on (mem_edges.2 ⟨ed, he, hb, rfl⟩)
        rw [this]; rfl
  have allDone : ∀ (ls : Array Bool) (a : Act) (W : World), ls.size = R.opsA.size → Region.ready .any R.opsA ls = [] → (∃ L1 L2 eX HX m, R.Inv (fun j => ls.getD j false = true) a W L1 L2 eX HX m) → Q .normal a W := by
    intro ls a W hs hr ⟨L1, L2, eX, HX, m, hI⟩
    have hdone : ∀ k i, i ≤ k → i < R.opsA.size → ls.getD i false = true := by
      intro k
      induction k with
      | zero =>
        intro i hi hlt
        obtain rfl : i = 0 := by omega
        have h0 : ¬ (0 ∈ Region.ready .any R.opsA ls) := by rw [hr]; simp
        rw [readyIff ls 0 hs] at h0
        cases hg : ls.getD 0 false with
        | true => rfl
        | false =>
          exfalso
          refine h0 ⟨hlt, by rw [← hg]; simp [Array.getD, hs, hlt], fun q hq j hj => ?_⟩
          have := edgesOk_lt R.hedge 0 q hq j hj
          omega
      | succ k ih =>
        intro i hi hlt
        by_cases hik : i ≤ k
        · exact ih i hik hlt
        · have h0 : ¬ (i ∈ Region.ready .any R.opsA ls) := by rw [hr]; simp
          rw [readyIff ls i hs] at h0
          cases hg : ls.getD i false with
          | true => rfl
          | false =>
            exfalso
            refine h0 ⟨hlt, by rw [← hg]; simp [Array.getD, hs, hlt], fun q hq j hj => ?_⟩
            have := edgesOk_lt R.hedge i q hq j hj
            exact ih j (by omega) (by omega)
    have hix : ∀ o ∈ R.L0, ls.getD o.ix false = true := fun o ho => by
      obtain ⟨q, hq, _⟩ := coper_inv (R.hco o ho)
      have hlt : o.ix < R.opsA.size := by have := (List.getElem?_eq_some_iff.1 hq).1; simpa using this
      exact hdone o.ix o.ix (Nat.le_refl _) hlt
    have hL2 : L2 = [] := by
      rcases hI.head with h | ⟨o, r, h, he⟩
      · exact h
      · exfalso
        have hoL : o ∈ R.L0 := by rw [hI.hL, h]; simp
        exact hI.l2 o (by rw [h]; simp) (by cases hpe : o.op with | r x => rw [hpe] at he; cases he | a x => rw [hpe] at he; cases he | e x => rfl) (hix o hoL)
    subst hL2
    have hrest := hI.hrest
    simp only [withEcho, runOps] at hrest
    injection hrest with hrest; injection hrest with he hH
    subst hH
    refine hQ a W m ⟨hI.size, hI.defers, fun x => ?_⟩ hI.post
    have hx := hI.env x
    by_cases hw : ∃ w ∈ R.L0, w.dst = some x
    · obtain ⟨w, hw1, hw2⟩ := hw
      rw [R.valS_in (S := fun j => ls.getD j false = true) hw1 hw2 (hix w hw1)] at hx; exact hx
    · rw [R.valS_out (S := fun j => ls.getD j false = true) (fun w h1 h2 _ => hw ⟨w, h1, h2⟩)] at hx
      have : Env.get R.eF x = Env.get R.e0 x := by
        refine runOps_keep R.hrun (fun p hp => ?_)
        obtain ⟨o, ho, hd⟩ := withEcho_mem _ _ _ hp
        rw [hd]; exact fun e => hw ⟨o, ho, e⟩
      rw [this]; exact hx
  intro fuel
  induction fuel with
  | zero =>
    intro ls a W hs hf hI
    have hnil : Region.ready .any R.opsA ls = [] := by
      apply List.eq_nil_iff_forall_not_mem.2
      intro i hi
      rw [readyIff ls i hs] at hi
      have : i ∈ (List.range R.opsA.size).filter fun j => !(ls.getD j true) := by rw [List.mem_filter]; exact ⟨List.mem_range.2 hi.1, by rw [hi.2.1]; rfl⟩
      rw [List.length_eq_zero_iff.1 hf] at this
      simp at this
    exact ⟨hnil, allDone ls a W hs hnil hI⟩
  | succ fuel ih =>
    intro ls a W hs hf hI
    refine ⟨fun hnil => allDone ls a W hs hnil hI, fun i hi => ?_⟩
    rw [readyIff ls i hs] at hi
    obtain ⟨hi1, hi2, hi3⟩ := hi
    obtain ⟨L1, L2, eX, HX, m, hI⟩ := hI
    have hno : ¬ (ls.getD i false = true) := by
      have : ls.getD i false = ls.getD i true := by simp [Array.getD, hs, hi1]
      rw [this, hi2]; simp
    refine R.step hI hi1 hno hi3 (fun a' W' L1' L2' eX' HX' m' hI' => ?_)
    refine ih (ls.setIfInBounds i true) a' W' (by simp [hs]) (by have := unlisted_len hi1 hs hi2; omega) ⟨L1', L2', eX', HX', m', ?_⟩
    have hSeq : (fun j => (ls.setIfInBounds i true).getD j false = true) = (fun j => ls.getD j false = true ∨ j = i) := by
      funext j
      apply propext
      simp only [Array.getD_eq_getD_getElem?, Array.getElem?_setIfInBounds]
      by_cases hj : i = j
      · subst hj; simp [hs, hi1]
      · simp only [if_neg hj]
        constructor
        · intro h; exact .inl h
        · rintro (h | h)
          · exact h
          · exact absurd h.symm hj
    rw [hSeq]
    exact hI'

theorem okRegion_inv {masks : List Nat} {ops : List Oper} {L : List AOper} (h : okRegion masks ops L = true) : edgesOk ops 0 = true ∧ nodupIx L = true ∧ (∀ i, i < ops.length → ∃ o ∈ L, o.ix = i) ∧
    (∀ o ∈ L, ∀ p ∈ L, o.ix ≠ p.ix → ∀ d, o.dst = some d → p.dst ≠ some d) ∧ (∀ o ∈ L, ∀ t ∈ usesOf ops o.ix, ∀ p ∈ L, p.ix = o.ix ∨ p.dst ≠ some t ∨ bef masks o.ix p.ix = true ∨ bef masks p.ix o.ix = true) ∧ ordOk masks ops.length L [] L = true := by
  unfold okRegion at h
  simp only [Bool.and_eq_true] at h
  obtain ⟨⟨⟨⟨⟨h1, h2⟩, h3⟩, h4⟩, h5⟩, h6⟩ := h
  refine ⟨h1, h2, ?_, ?_, ?_, h6⟩
  · intro i hi
    simp only [List.all_eq_true, List.mem_range, List.any_eq_true, beq_iff_eq] at h3
    exact h3 i hi
  · intro o ho p hp hne d hd
    unfold singleDst at h4
    simp only [List.all_eq_true, Bool.or_eq_true, beq_iff_eq] at h4
    rcases h4 o ho p hp with h | h
    · exact absurd h hne
    · rw [hd] at h; simpa using h
  · intro o ho t ht p hp
    simp only [List.all_eq_true] at h5
    have := h5 o ho
    unfold tmpsOk at this
    simp only [List.all_eq_true, Bool.or_eq_true, beq_iff_eq, bne_iff_ne, ne_eq] at this
    rcases this t ht p hp with ((h | h) | h) | h
    · exact .inl h
    · exact .inr (.inl h)
    · exact .inr (.inr (.inl h))
    · exact .inr (.inr (.inr h))

theorem RC.start {N : Nat} {cl : CallH} (R : RC P gl base N cl) {S : Nat → Prop} {a : Act} {seg L2 : List AOper} {e2 : Env} {H2 : AHeap} (hL : R.L0 = seg ++ L2) (hne : ∀ o ∈ seg, o.op.eff = false) (hhead : L2 = [] ∨ ∃ o r, L2 = o :: r ∧ o.op.eff = true)
    (hat : R.At seg e2 H2) (hrest : runOps cl (withEcho R.masks seg L2) e2 H2 = some (R.eF, R.HF)) (hS : ∀ j, ¬ S j) (hsz : a.tmps.size = N) (hdf : a.defers = R.ds) (henv : ∀ x, VR R.m0 (Env.get R.e0 x) (a.tmps.getD x undef)) :
    R.Inv S a R.W0 seg L2 e2 H2 R.m0 := by
  obtain ⟨sr2, sub2, next2⟩ := noeff_run R.masks seg [] _ _ _ _ hne R.hsr hat
  have inSeg : ∀ {A : List AOper} {p : AOper} {B : List AOper} {ep : Env} {Hp : AHeap}, R.L0 = A ++ p :: B → p ∈ seg → R.At A ep Hp →
      Hp.sub H2 ∧ (∃ v Hp', p.run cl ep Hp = some (Env.put ep p.dst v, Hp') ∧ Hp'.sub H2 ∧ R.H0.next ≤ Hp.next ∧ (∀ d, p.dst = some d → Env.get R.eF d = v)) := by
    intro A p B ep Hp hA hp hAt
    obtain ⟨s1, s2, hs⟩ := List.append_of_mem hp
    have hsp : R.L0 = s1 ++ p :: (s2 ++ L2) := by rw [hL, hs]; simp
    have hnn := R.hnd
    rw [hA] at hnn
    obtain ⟨rfl, rfl⟩ := split_uniq hnn (hA.symm.trans hsp)
    obtain ⟨v', Hp', hst, hat', hd'⟩ := R.stepAt hA hAt
    have hs' : starred R.masks A p = p := by unfold starred; rw [hne p hp]; rfl
    rw [hs'] at hst
    obtain ⟨srp, subp, nextp⟩ := noeff_run R.masks A [] _ _ _ _ (fun q hq => hne q (by rw [hs]; simp [hq])) R.hsr hAt
    have r2 : runOps cl (withEcho R.masks A (p :: s2)) ep Hp = some (e2, H2) := by
      have h1 := hat; have h2 := hAt
      unfold RC.At at h1 h2
      rw [hs, withEcho_append, runOps_append, h2] at h1
      simpa using h1
    obtain ⟨_, sub3, _⟩ := noeff_run R.masks (p :: s2) A _ _ _ _ (fun q hq => hne q (by rw [hs]; simp only [List.mem_append]; exact .inr hq)) srp r2
    refine ⟨sub3, v', Hp', hst, ?_, nextp, hd'⟩
    rw [withEcho_cons, hs', runOps, hst] at r2
    simp only at r2
    have srp' : SR P gl base R.m0 Hp' R.W0 := by
      have : runOps cl (withEcho R.masks A [p]) ep Hp = some (Env.put ep p.dst v', Hp') := by
        rw [withEcho_cons, hs', runOps, hst]; rfl
      exact (noeff_run R.masks [p] _ _ _ _ _ (fun q hq => by simp at hq; subst hq; exact hne _ hp) srp this).1
    exact (noeff_run R.masks s2 _ _ _ _ _ (fun q hq => hne q (by rw [hs]; simp [hq])) srp' r2).2.1
  have keep : ∀ b, b < R.H0.next → H2.get b = R.H0.get b := by
    intro b hb
    have key : ∀ (L E : List AOper) (e e' : Env) (H H' : AHeap), (∀ o ∈ L, o.op.eff = false) → runOps cl (withEcho R.masks E L) e H = some (e', H') → b < H.next → H'.get b = H.get b := by
      intro L
      induction L with
      | nil => intro E e e' H H' _ hr _; simp only [withEcho, runOps] at hr; injection hr with hr; injection hr with _ hr; rw [hr]
      | cons q L ih =>
        intro E e e' H H' hne' hr hb'
        rw [withEcho_cons, runOps] at hr
        split at hr
        · rename_i e1 Hq hq
          have hq' : starred R.masks E q = q := by unfold starred; rw [hne' q (by simp)]; rfl
          rw [hq'] at hq
          have k : Hq.get b = H.get b ∧ H.next ≤ Hq.next := by
            unfold AOper.run at hq
            split at hq
            · split at hq
              · split at hq
                · injection hq with hq; injection hq with _ hq; subst hq; exact ⟨rfl, Nat.le_refl _⟩
                · cases hq
              · split at hq
                · injection hq with hq; injection hq with _ hq; subst hq
                  exact ⟨by rw [AHeap.get_alloc, if_neg (by omega)], by rw [AHeap.next_alloc]; omega⟩
                · cases hq
              · rename_i hx; have := hne' q (by simp); rw [hx] at this; cases this
            · injection hq with hq; injection hq with _ hq; subst hq; exact ⟨rfl, Nat.le_refl _⟩
          rw [ih (E ++ [q]) e1 e' Hq H' (fun p hp => hne' p (by simp [hp])) hr (by omega)]
          exact k.1
        · cases hr
    exact key seg [] _ _ _ _ hne hat hb
  refine ⟨hL, hat, hrest, hhead, fun o ho he => ?_, fun o ho hl hs => hS _ hs, fun i q hq hi => absurd hi (hS i), ⟨Inj.le_refl _, sr2, BK.refl _ _, next2, fun b hb hm => ⟨hm, keep b hb⟩⟩, hsz, hdf, fun x => ?_, ?_, ?_⟩
  · rw [hne o ho] at he; cases he
  · rw [R.valS_out (fun w _ _ => hS _)]; exact henv x
  · intro A p B r eo Ho hA hp _ hop hpu hAt hw
    obtain ⟨hsub, v', Hp', hrun, _, _, hd⟩ := inSeg hA hp hAt
    unfold AOper.run at hrun
    rw [if_pos hw, hop] at hrun
    simp only at hrun
    split at hrun
    · rename_i w hrw
      injection hrun with hrun; injection hrun with h1 h2
      refine ⟨w, ROp.run_mono hsub hrw, fun d hdd => ?_⟩
      rw [hd d hdd]
      have := congrArg (fun e => Env.get e d) h1
      simp only [Env.get_put, if_pos hdd] at this
      exact this.symm
    · cases hrun
  · intro A p B x eo Ho hA hp _ hop hAt hw
    obtain ⟨hsub, v', Hp', hrun, hsub', hnx, hd⟩ := inSeg hA hp hAt
    unfold AOper.run at hrun
    rw [if_pos hw, hop] at hrun
    simp only at hrun
    split at hrun
    · rename_i obj k hrw
      injection hrun with hrun; injection hrun with h1 h2
      refine ⟨obj, k, hrw, hsub' _ _ (by rw [← h2, AHeap.get_alloc, if_pos rfl]), ?_, fun d hdd => ?_⟩
      · cases hm1 : R.m0 Ho.next with
        | none => rfl
        | some L => have := R.hsr.dom _ _ hm1; omega
      · rw [hd d hdd]
        have := congrArg (fun e => Env.get e d) h1
        simp only [Env.get_put, if_pos hdd] at this
        exact this.symm
    · cases hrun

theorem region_wp {ro : Option Nat} {ds : List Deferred} {N : Nat} {cl : CallH} (hmix : P.follows .mixedOrders = true) (hcl : CallSim P base gl cl) (hmono : NextMono cl) {id : Nat} {opsA : Array Oper} {draw : Bool} {L : List AOper} {m : Inj} {e eF : Env} {H HF : AHeap} {W : World} {a : Act} {Q : Exit → Act → World → Prop}
    (hL : cregion P gl N opsA draw = some L) (hr : runOps cl L e H = some (eF, HF)) (hgl : ∀ g ∈ gl, g < 999999 → m g = some ⟨g, 0, 0, 0⟩) (h : SR P gl base m H W) (her : ER ds m N e a)
    (hQ : ∀ a' W' m', ER ds m' N eF a' → Post P gl base m H W m' HF W' → Q .normal a' W') : (Code.region id opsA draw).wpIn (WF ro) 0 P Q a W := by
  unfold cregion at hL
  cases draw with
  | false =>
    simp only [Bool.false_eq_true, if_false] at hL
    apply wpIn_region
    have hlen : opsA.toList.length = opsA.size := Array.length_toList
    rw [← hlen]
    exact seq_wp hcl _ L m e H W a hL hr hgl h her hQ
  | true =>
    simp only [if_true] at hL
    split at hL
    · cases hL
    · split at hL
      · cases hL
      · rename_i L0 hL0
        split at hL
        · rename_i hok
          injection hL with hL
          subst hL
          obtain ⟨k1, k2, k3, k4, k5, k6⟩ := okRegion_inv hok
          have hW : SR P gl base m H { W with drawn := W.drawn + 1 } := h.heap rfl
          let R : RC P gl base N cl :=
            { opsA := opsA, L0 := L0, e0 := e, eF := eF, H0 := H, HF := HF, m0 := m, W0 := { W with drawn := W.drawn + 1 }, ds := ds, hcl := hcl, hmono := hmono, hgl := hgl, hco := copers_mem hL0, hedge := k1, hnd := k2,
              hall := fun i hi => k3 i (by simpa using hi), hdst := k4, htmps := k5, hord := by simpa using k6, hsr := hW, hrun := hr }
          refine wpIn_region_any hmix (region_any R (fun a' W' m' h1 h2 => hQ a' W' m' h1 ⟨h2.le, h2.sr, ⟨⟨h2.below.os, h2.below.tape, h2.below.output, h2.below.size, h2.below.block⟩, ⟨h2.below.kd.df, h2.below.kd.lp⟩⟩, h2.next, h2.rest⟩) opsA.size _ a _ (by simp [R]) (by
            have : ∀ j ∈ List.range opsA.size, (!((Array.replicate opsA.size false).getD j true)) = true := by
              intro j hj
              have := List.mem_range.1 hj
              simp [Array.getD, this]
            rw [List.filter_eq_self.2 this, List.length_range]) ?_)
          obtain ⟨seg, L2, hseg, hne, hhead⟩ := segSplit L0
          have hnoS : ∀ j, ¬ ((Array.replicate opsA.size false).getD j false = true) := by
            intro j; simp [Array.getD_eq_getD_getElem?, Array.getElem?_replicate]; split <;> rfl
          obtain ⟨e2, H2, hat2, hrest2⟩ := R.at_split (A := seg) (B := L2) hseg
          refine ⟨seg, L2, e2, H2, m, ?_⟩
          refine R.start hseg hne hhead hat2 hrest2 (fun j => hnoS j) (by simpa using her.size) her.defers (fun x => ?_)
          exact her.tmps x
        · cases hL

theorem loop_sim {ro : Option Nat} {n0 : Nat} {N : Nat} {c : Code} {f : Env → AHeap → Out} (hf : ∀ (e : Env) (H : AHeap) (x : AEx) (e' : Env) (H' : AHeap), f e H = some (x, e', H') → ∀ (ds : List Deferred) (m : Inj) (W : World) (a : Act) (Q : Exit → Act → World → Prop), CX ro n0 ds W → (∀ g ∈ gl, g < 999999 → m g = some ⟨g, 0, 0, 0⟩) → SR P gl base m H W → ER ds m N e a →
      (∀ a' W' m' ds', ER ds' m' N e' a' → CX ro n0 ds' W' → Post P gl base m H W m' H' W' → Q x.out a' W') → c.wpIn (WF ro) 0 P Q a W) :
    ∀ (k : Nat) (e : Env) (H : AHeap) (x : AEx) (e' : Env) (H' : AHeap), iter f k e H = some (x, e', H') → ∀ (ds : List Deferred) (m : Inj) (W : World) (a : Act) (Q : Exit → Act → World → Prop), CX ro n0 ds W → (∀ g ∈ gl, g < 999999 → m g = some ⟨g, 0, 0, 0⟩) → SR P gl base m H W → ER ds m N e a →
      (∀ a' W' m' ds', ER ds' m' N e' a' → CX ro n0 ds' W' → Post P gl base m H W m' H' W' → x ≠ .normal → Q x.out a' W') → Code.roundsIn (WF ro) 0 P c Q k a W
  | 0, e, H, x, e', H', h, _, _, _, _, _, _, _, _, _, _ => by cases h
  | k + 1, e, H, x, e', H', h, ds, m, W, a, Q, hcx, hgl, hsr, her, hQ => by
    rw [iter] at h
    rw [roundsIn_succ]
    split at h
    · rename_i e1 H1 h1
      refine hf _ _ _ _ _ h1 ds m W a _ hcx hgl hsr her (fun a' W' m' ds' k1 kx k2 => ?_)
      show Code.roundsIn (WF ro) 0 P c Q k a' W'
      exact loop_sim hf k e1 H1 x e' H' h ds' m' W' a' Q kx (gl_mono hgl k2.le) k2.sr k1 (fun a'' W'' m'' ds'' q1 qx q2 q3 => hQ a'' W'' m'' ds'' q1 qx (k2.trans q2) q3)
    · rename_i hne
      refine hf _ _ _ _ _ h ds m W a _ hcx hgl hsr her (fun a' W' m' ds' k1 kx k2 => ?_)
      have hx : x ≠ .normal := by intro hx; subst hx; exact hne _ _ h
      have := hQ a' W' m' ds' k1 kx k2 hx
      cases x with
      | normal => exact absurd rfl hx
      | exit id => exact this
      | ret => exact this

theorem code_sim {ro : Option Nat} {n0 : Nat} {N : Nat} {cl : CallH} {fuel : Nat} (hn0 : base ≤ n0) (hmix : P.follows .mixedOrders = true) (hcl : CallSim P base gl cl) (hmono : NextMono cl) : ∀ (c : Code) (ac : ACode), ccode P gl N c = some ac → ∀ (e : Env) (H : AHeap) (x : AEx) (e' : Env) (H' : AHeap), ac.run cl fuel e H = some (x, e', H') →
    ∀ (ds : List Deferred) (m : Inj) (W : World) (a : Act) (Q : Exit → Act → World → Prop), CX ro n0 ds W → (∀ g ∈ gl, g < 999999 → m g = some ⟨g, 0, 0, 0⟩) → SR P gl base m H W → ER ds m N e a → (∀ a' W' m' ds', ER ds' m' N e' a' → CX ro n0 ds' W' → Post P gl base m H W m' H' W' → Q x.out a' W') → c.wpIn (WF ro) 0 P Q a W := by
  intro c
  induction c with
  | skip =>
    intro ac hc e H x e' H' hr ds m W a Q hcx hgl h her hQ
    simp only [ccode, Option.some.injEq] at hc; subst hc
    simp only [ACode.run, Option.some.injEq, Prod.mk.injEq] at hr
    obtain ⟨rfl, rfl, rfl⟩ := hr
    exact wpIn_skip (hQ a W m ds her hcx (Post.refl h))
  | region id ops draw =>
    intro ac hc e H x e' H' hr ds m W a Q hcx hgl h her hQ
    simp only [ccode, Option.map_eq_some_iff] at hc
    obtain ⟨L, hL, rfl⟩ := hc
    simp only [ACode.run] at hr
    split at hr
    · rename_i e1 H1 h1
      simp only [Option.some.injEq, Prod.mk.injEq] at hr
      obtain ⟨rfl, rfl, rfl⟩ := hr
      exact region_wp hmix hcl hmono hL h1 hgl h her (fun a' W' m' k1 k2 => hQ a' W' m' ds k1 (hcx.post k2.below) k2)
    · cases hr
  | seq c1 c2 ih1 ih2 =>
    intro ac hc e H x e' H' hr ds m W a Q hcx hgl h her hQ
    simp only [ccode] at hc
    split at hc
    · rename_i x1 x2 h1 h2
      injection hc with hc; subst hc
      simp only [ACode.run] at hr
      apply wpIn_seq
      split at hr
      · rename_i e1 H1 hr1
        refine ih1 x1 h1 _ _ _ _ _ hr1 ds m W a _ hcx hgl h her (fun a' W' m' ds' k1 kx k2 => ?_)
        show c2.wpIn (WF ro) 0 P Q a' W'
        exact ih2 x2 h2 _ _ _ _ _ hr ds' m' W' a' Q kx (gl_mono hgl k2.le) k2.sr k1 (fun a'' W'' m'' ds'' q1 qx q2 => hQ a'' W'' m'' ds'' q1 qx (k2.trans q2))
      · rename_i hne
        refine ih1 x1 h1 _ _ _ _ _ hr ds m W a _ hcx hgl h her (fun a' W' m' ds' k1 kx k2 => ?_)
        have := hQ a' W' m' ds' k1 kx k2
        cases x with
        | normal => exact absurd hr (hne _ _)
        | exit id => exact this
        | ret => exact this
    · cases hc
  | cond X c1 c2 ih1 ih2 =>
    intro ac hc e H x e' H' hr ds m W a Q hcx hgl h her hQ
    simp only [ccode] at hc
    split at hc
    · rename_i z x1 x2 hz h1 h2
      injection hc with hc; subst hc
      simp only [ACode.run] at hr
      have hv := opR_of (a := a) (e := e) hgl (X := X) (fun t _ => her.tmps t) z hz
      split at hr
      · rename_i ht; rw [ht] at hv
        exact wpIn_cond_true (bool_inv hv) (ih1 x1 h1 _ _ _ _ _ hr ds m W a Q hcx hgl h her hQ)
      · rename_i ht; rw [ht] at hv
        exact wpIn_cond_false (bool_inv hv) (ih2 x2 h2 _ _ _ _ _ hr ds m W a Q hcx hgl h her hQ)
      · cases hr
    · cases hc
  | block id c ih =>
    intro ac hc e H x e' H' hr ds m W a Q hcx hgl h her hQ
    simp only [ccode, Option.map_eq_some_iff] at hc
    obtain ⟨x1, h1, rfl⟩ := hc
    simp only [ACode.run] at hr
    apply wpIn_block
    split at hr
    · rename_i id' e1 H1 hr1
      refine ih x1 h1 _ _ _ _ _ hr1 ds m W a _ hcx hgl h her (fun a' W' m' ds' k1 kx k2 => ?_)
      split at hr
      · rename_i he
        simp only [Option.some.injEq, Prod.mk.injEq] at hr
        obtain ⟨rfl, rfl, rfl⟩ := hr
        simp only [AEx.out, Exit.inBlock, he, if_true]
        exact hQ a' W' m' ds' k1 kx k2
      · rename_i he
        simp only [Option.some.injEq, Prod.mk.injEq] at hr
        obtain ⟨rfl, rfl, rfl⟩ := hr
        simp only [AEx.out, Exit.inBlock, he, if_false]
        exact hQ a' W' m' ds' k1 kx k2
    · rename_i hne
      refine ih x1 h1 _ _ _ _ _ hr ds m W a _ hcx hgl h her (fun a' W' m' ds' k1 kx k2 => ?_)
      have := hQ a' W' m' ds' k1 kx k2
      cases x with
      | normal => exact this
      | exit id => exact absurd hr (hne _ _ _)
      | ret => exact this
  | loop c ih =>
    intro ac hc e H x e' H' hr ds m W a Q hcx hgl h her hQ
    simp only [ccode, Option.map_eq_some_iff] at hc
    obtain ⟨x1, h1, rfl⟩ := hc
    simp only [ACode.run] at hr
    exact wpIn_loop_rounds fuel (loop_sim (fun e H x e' H' h ds m W a Q hx hgl hs he hq => ih x1 h1 e H x e' H' h ds m W a Q hx hgl hs he hq) fuel _ _ _ _ _ hr ds m W a Q hcx hgl h her (fun a' W' m' ds' k1 kx k2 _ => hQ a' W' m' ds' k1 kx k2))
  | rangeFunc f ps as b iha ihb =>
    intro ac hc e H x e' H' hr ds m W a Q hcx hgl h her hQ
    simp only [ccode] at hc
    split at hc
    · rename_i z x1 x2 hz h1 h2
      split at hc
      · rename_i hps
        injection hc with hc; subst hc
        exact range_sim hn0 hcl hz (by simpa using hps) h1 h2 hr hcx hgl h her hQ
      · injection hc with hc; subst hc; cases hr
    · injection hc with hc; subst hc; cases hr
  | exit id =>
    intro ac hc e H x e' H' hr ds m W a Q hcx hgl h her hQ
    simp only [ccode, Option.some.injEq] at hc; subst hc
    simp only [ACode.run, Option.some.injEq, Prod.mk.injEq] at hr
    obtain ⟨rfl, rfl, rfl⟩ := hr
    exact wpIn_exit (hQ a W m ds her hcx (Post.refl h))
  | scope b =>
    intro ac hc e H x e' H' hr ds m W a Q hcx hgl h her hQ
    simp only [ccode, Option.some.injEq] at hc; subst hc; cases hr
  | label l =>
    intro ac hc e H x e' H' hr ds m W a Q hcx hgl h her hQ
    simp only [ccode, Option.some.injEq] at hc; subst hc; cases hr
  | goto l =>
    intro ac hc e H x e' H' hr ds m W a Q hcx hgl h her hQ
    simp only [ccode, Option.some.injEq] at hc; subst hc; cases hr
  | ret =>
    intro ac hc e H x e' H' hr ds m W a Q hcx hgl h her hQ
    simp only [ccode, Option.some.injEq] at hc; subst hc
    simp only [ACode.run, Option.some.injEq, Prod.mk.injEq] at hr
    obtain ⟨rfl, rfl, rfl⟩ := hr
    exact wpIn_ret (hQ a W m ds her hcx (Post.refl h))
  | refuse w =>
    intro ac hc e H x e' H' hr ds m W a Q hcx hgl h her hQ
    simp only [ccode, Option.some.injEq] at hc; subst hc; cases hr
end Go.Proofs.YtdkpmlhbofgfdaaGreatDoor.AM
