/-
  Regions whose order Go leaves open: one step of a drawn order.
-/
import Derived.Test.YtcfjjeipdacbcaaDoorAmDraw
set_option linter.unusedSimpArgs false
set_option linter.unusedVariables false
namespace Go.Proofs.YtcfjjeipdacbcaaDoor.AM
open Go Go.RowKit

theorem segSplit : ∀ L : List AOper, ∃ A B, L = A ++ B ∧ (∀ o ∈ A, o.op.eff = false) ∧ (B = [] ∨ ∃ o r, B = o :: r ∧ o.op.eff = true)
  | [] => ⟨[], [], rfl, fun o h => by simp at h, .inl rfl⟩
  | o :: L => by
    cases he : o.op.eff with
    | true => exact ⟨[], o :: L, rfl, fun o h => by simp at h, .inr ⟨o, L, rfl, he⟩⟩
    | false =>
      obtain ⟨A, B, h1, h2, h3⟩ := segSplit L
      refine ⟨o :: A, B, by rw [h1]; rfl, fun p hp => ?_, h3⟩
      rcases List.mem_cons.1 hp with rfl | hp
      · exact he
      · exact h2 p hp
theorem sub_alloc {H : AHeap} (hf : ∀ b, H.next ≤ b → H.get b = none) (o : AObj) : H.sub (H.alloc o) := by
  intro b x hb
  rw [AHeap.get_alloc]
  by_cases h : b = H.next
  · subst h; rw [hf _ (Nat.le_refl _)] at hb; cases hb
  · rw [if_neg h]; exact hb
theorem noeff_run {P : Program} {gl : List Nat} {base : Nat} {m : Inj} {W : World} {cl : CallH} (masks : List Nat) : ∀ (L E : List AOper) (e e' : Env) (H H' : AHeap), (∀ o ∈ L, o.op.eff = false) → SR P gl base m H W → runOps cl (withEcho masks E L) e H = some (e', H') →
    SR P gl base m H' W ∧ H.sub H' ∧ H.next ≤ H'.next
  | [], E, e, e', H, H', _, h, hr => by
    simp only [withEcho, runOps] at hr; injection hr with hr; injection hr with h1 h2; subst h2; exact ⟨h, fun _ _ h => h, Nat.le_refl _⟩
  | o :: L, E, e, e', H, H', hne, h, hr => by
    rw [withEcho_cons, runOps] at hr
    split at hr
    · rename_i e1 H1 h1
      have ho := hne o (by simp)
      have hs : starred masks E o = o := by unfold starred; rw [ho]; rfl
      rw [hs] at h1
      have key : SR P gl base m H1 W ∧ H.sub H1 ∧ H.next ≤ H1.next := by
        unfold AOper.run at h1
        split at h1
        · split at h1
          · split at h1
            · injection h1 with h1; injection h1 with h2 h3; subst h3; exact ⟨h, fun _ _ h => h, Nat.le_refl _⟩
            · cases h1
          · split at h1
            · rename_i obj k hx
              injection h1 with h1; injection h1 with h2 h3; subst h3
              exact ⟨h.ext obj, sub_alloc h.fresh obj, by rw [AHeap.next_alloc]; omega⟩
            · cases h1
          · rename_i hx; rw [hx] at ho; cases ho
        · injection h1 with h1; injection h1 with h2 h3; subst h3; exact ⟨h, fun _ _ h => h, Nat.le_refl _⟩
      obtain ⟨k1, k2, k3⟩ := key
      obtain ⟨k4, k5, k6⟩ := noeff_run masks L (E ++ [o]) e1 e' H1 H' (fun p hp => hne p (by simp [hp])) k1 hr
      exact ⟨k4, fun b o hb => k5 b o (k2 b o hb), Nat.le_trans k3 k6⟩
    · cases hr

namespace RC
variable {P : Program} {gl : List Nat} {base N : Nat} {cl : CallH} (R : RC P gl base N cl)
/-- the machine's own step at a place -/
theorem stepAt {A : List AOper} {o : AOper} {B : List AOper} (h : R.L0 = A ++ o :: B) {e : Env} {H : AHeap} (ha : R.At A e H) :
    ∃ v H', (starred R.masks A o).run cl e H = some (Env.put e o.dst v, H') ∧ R.At (A ++ [o]) (Env.put e o.dst v) H' ∧ ∀ d, o.dst = some d → Env.get R.eF d = v := by
  obtain ⟨e', H', h1, h2⟩ := R.at_split h
  obtain ⟨rfl, rfl⟩ := R.at_uniq ha h1
  rw [withEcho_cons, runOps] at h2
  split at h2
  · rename_i e1 H1 h3
    obtain ⟨v, hv⟩ := AOper.run_keep h3
    rw [starred_dst] at hv
    subst hv
    refine ⟨v, H1, h3, ?_, fun d hd => ?_⟩
    · unfold At
      rw [withEcho_append, runOps_append, ha]
      simp only [List.nil_append, withEcho_cons, runOps, h3]
      rfl
    · have hk := runOps_keep (x := d) h2 (fun p hp => by
        obtain ⟨q, hq, hdq⟩ := withEcho_mem _ _ _ hp
        rw [hdq]
        have hn := R.hnd; rw [h] at hn
        refine R.hdst o (by rw [h]; simp) q (by rw [h]; simp [hq]) (fun e => (nodup_split hn).2.1 q hq e.symm) d hd)
      rw [hk, Env.get_put, if_pos hd]
  · cases h2
theorem at_next {A : List AOper} {o : AOper} {B : List AOper} (h : R.L0 = A ++ o :: B) {e : Env} {H : AHeap} (ha : R.At A e H) {C : List AOper} {p : AOper} {D : List AOper} (h' : R.L0 = C ++ p :: D) {e' : Env} {H' : AHeap} (hc : R.At C e' H') (hlt : A.length < C.length) :
    ∃ H1 e1, R.At (A ++ [o]) e1 H1 ∧ H1.next ≤ H'.next := by
  obtain ⟨v, H1, h1, h2, _⟩ := R.stepAt h ha
  refine ⟨H1, _, h2, ?_⟩
  have hpre : ∃ T, C = (A ++ [o]) ++ T := by
    have e1 : (A ++ [o]) ++ B = C ++ p :: D := by rw [← h', h]; simp
    have := List.append_eq_append_iff.1 e1
    rcases this with ⟨T, h3, _⟩ | ⟨T, h3, h4⟩
    · exact ⟨T, h3⟩
    · have : (A ++ [o]).length = C.length + T.length := by rw [h3]; simp
      simp only [List.length_append, List.length_cons, List.length_nil] at this
      have hT : T = [] := List.length_eq_zero_iff.1 (by omega)
      subst hT
      exact ⟨[], by rw [h3]; simp⟩
  obtain ⟨T, rfl⟩ := hpre
  unfold At at hc h2
  rw [withEcho_append, runOps_append, h2] at hc
  exact runOps_next R.hmono hc
/-- two places, two blocks -/
theorem alloc_ne {A : List AOper} {o : AOper} {B : List AOper} (h : R.L0 = A ++ o :: B) {e : Env} {H : AHeap} (ha : R.At A e H) {x : LOp} (hx : o.op = .a x) (hw : want e o.guard = true)
    {C : List AOper} {p : AOper} {D : List AOper} (h' : R.L0 = C ++ p :: D) {e' : Env} {H' : AHeap} (hc : R.At C e' H') {y : LOp} (hy : p.op = .a y) (hw' : want e' p.guard = true) (hne : o.ix ≠ p.ix) : H.next ≠ H'.next := by
  have grows : ∀ {A : List AOper} {o : AOper} {B : List AOper} (h : R.L0 = A ++ o :: B) {e : Env} {H : AHeap} (ha : R.At A e H) {x : LOp} (hx : o.op = .a x) (hw : want e o.guard = true) {e1 : Env} {H1 : AHeap}, R.At (A ++ [o]) e1 H1 → H.next < H1.next := by
    intro A o B h e H ha x hx hw e1 H1 h1
    obtain ⟨v, H2, h2, h3, _⟩ := R.stepAt h ha
    obtain ⟨_, rfl⟩ := R.at_uniq h1 h3
    have hs : starred R.masks A o = o := by unfold starred; rw [hx]; rfl
    rw [hs] at h2
    unfold AOper.run at h2
    rw [if_pos hw, hx] at h2
    simp only at h2
    split at h2
    · injection h2 with h2; injection h2 with _ h2; rw [← h2, AHeap.next_alloc]; omega
    · cases h2
  rcases Nat.lt_trichotomy A.length C.length with hlt | heq | hlt
  · obtain ⟨H1, e1, h1, h2⟩ := R.at_next h ha h' hc hlt
    have := grows h ha hx hw h1
    omega
  · exfalso
    have := List.append_inj (h.symm.trans h') heq
    injection this.2 with h3 _
    exact hne (by rw [h3])
  · obtain ⟨H1, e1, h1, h2⟩ := R.at_next h' hc h ha hlt
    have := grows h' hc hy hw' h1
    omega
theorem at_next_ge {A : List AOper} {e : Env} {H : AHeap} (ha : R.At A e H) : R.H0.next ≤ H.next := runOps_next R.hmono ha

theorem valS_add {S : Nat → Prop} {A : List AOper} {o : AOper} {B : List AOper} (h : R.L0 = A ++ o :: B) (x : Nat) : R.valS (fun j => S j ∨ j = o.ix) x = if o.dst = some x then Env.get R.eF x else R.valS S x := by
  have hoL : o ∈ R.L0 := by rw [h]; simp
  split
  · rename_i hd; exact R.valS_in hoL hd (.inr rfl)
  · rename_i hd
    by_cases hw : ∃ w ∈ R.L0, w.dst = some x ∧ S w.ix
    · obtain ⟨w, hw1, hw2, hw3⟩ := hw
      rw [R.valS_in hw1 hw2 hw3]
      exact R.valS_in (S := fun j => S j ∨ j = o.ix) hw1 hw2 (.inl hw3)
    · rw [R.valS_out (fun w h1 h2 h3 => hw ⟨w, h1, h2, h3⟩), R.valS_out (fun w h1 h2 h3 => ?_)]
      rcases h3 with h3 | h3
      · exact hw ⟨w, h1, h2, h3⟩
      · exact hd (by rw [← nodup_inj R.hnd h1 hoL h3]; exact h2)
theorem env_add {S : Nat → Prop} {a : Act} {m m' : Inj} (hm : m.le m') (hsz : a.tmps.size = N) (henv : ∀ x, VR m (R.valS S x) (a.tmps.getD x undef)) {A : List AOper} {o : AOper} {B : List AOper} (h : R.L0 = A ++ o :: B) {v : AV} {c : Value} (hv : VR m' v c)
    (hd : ∀ d, o.dst = some d → Env.get R.eF d = v ∧ d < N) : ∀ x, VR m' (R.valS (fun j => S j ∨ j = o.ix) x) ((a.put o.dst c).tmps.getD x undef) := by
  intro x
  rw [R.valS_add h, put_getD]
  by_cases hx : o.dst = some x
  · obtain ⟨h1, h2⟩ := hd x hx
    rw [if_pos hx, if_pos ⟨hx, by omega⟩, h1]; exact hv
  · rw [if_neg hx, if_neg (fun k => hx k.1)]; exact (henv x).mono hm

/-- Behind a call or a store: what may go from then on. -/
theorem advance {S : Nat → Prop} {a1 : Act} {W W1 : World} {L1 : List AOper} {o : AOper} {L2 : List AOper} {eX : Env} {HX H1 : AHeap} {m m1 : Inj} {v : AV} {a : Act} (hI : R.Inv S a W L1 (o :: L2) eX HX m)
    (hstar : (starred R.masks L1 o).run cl eX HX = some (Env.put eX o.dst v, H1)) (hP : Post P gl base m HX W m1 H1 W1) (hclos : Closed R.opsA.toList (fun j => S j ∨ j = o.ix)) (heff : o.op.eff = true)
    (hsz : a1.tmps.size = N) (hdf : a1.defers = R.ds) (henv : ∀ x, VR m1 (R.valS (fun j => S j ∨ j = o.ix) x) (a1.tmps.getD x undef))
    (hreads : ∀ A p B r eo Ho, R.L0 = A ++ p :: B → p ∈ L1 → ¬ S p.ix → p.op = .r r → r.pure = false → R.At A eo Ho → want eo p.guard = true → ∃ v, r.run H1 eo = some v ∧ ∀ d, p.dst = some d → Env.get R.eF d = v) :
    ∃ L1' L2' eX' HX', R.Inv (fun j => S j ∨ j = o.ix) a1 W1 L1' L2' eX' HX' m1 := by
  obtain ⟨seg, L2', hseg, hne, hhead⟩ := segSplit L2
  have hL : R.L0 = L1 ++ o :: L2 := hI.hL
  have hL' : R.L0 = (L1 ++ o :: seg) ++ L2' := by rw [hL, hseg]; simp
  have hat1 : R.At (L1 ++ [o]) (Env.put eX o.dst v) H1 := by
    unfold At
    have := hI.hat
    unfold At at this
    rw [withEcho_append, runOps_append, this]
    simp only [List.nil_append, withEcho_cons, runOps, hstar]
    rfl
  obtain ⟨e2, H2, hat2, hrest2⟩ := R.at_split hL'
  have hsegrun : runOps cl (withEcho R.masks (L1 ++ [o]) seg) (Env.put eX o.dst v) H1 = some (e2, H2) := by
    have h1 := hat2
    have h2 := hat1
    unfold At at h1 h2
    rw [show L1 ++ o :: seg = (L1 ++ [o]) ++ seg by simp, withEcho_append, runOps_append, h2] at h1
    simpa using h1
  obtain ⟨sr2, sub2, next2⟩ := noeff_run R.masks seg (L1 ++ [o]) _ _ _ _ hne hP.sr hsegrun
  have hn := R.hnd
  rw [hL] at hn
  obtain ⟨hn1, hn2, _⟩ := nodup_split hn
  -- what stands in the new piece
  have inSeg : ∀ {A : List AOper} {p : AOper} {B : List AOper} {ep : Env} {Hp : AHeap}, R.L0 = A ++ p :: B → p ∈ seg → R.At A ep Hp →
      Hp.sub H2 ∧ (∃ v Hp', p.run cl ep Hp = some (Env.put ep p.dst v, Hp') ∧ Hp'.sub H2 ∧ H1.next ≤ Hp.next ∧ (∀ d, p.dst = some d → Env.get R.eF d = v)) := by
    intro A p B ep Hp hA hp hAt
    obtain ⟨s1, s2, hs⟩ := List.append_of_mem hp
    have hsp : R.L0 = (L1 ++ o :: s1) ++ p :: (s2 ++ L2') := by rw [hL', hs]; simp
    have hnn := R.hnd
    rw [hA] at hnn
    obtain ⟨rfl, rfl⟩ := split_uniq hnn (hA.symm.trans hsp)
    obtain ⟨v', Hp', hst, hat', hd'⟩ := R.stepAt hA hAt
    have hs' : starred R.masks (L1 ++ o :: s1) p = p := by unfold starred; rw [hne p hp]; rfl
    rw [hs'] at hst
    have r1 : runOps cl (withEcho R.masks (L1 ++ [o]) s1) (Env.put eX o.dst v) H1 = some (ep, Hp) := by
      have h1 := hAt; have h2 := hat1
      unfold At at h1 h2
      rw [show L1 ++ o :: s1 = (L1 ++ [o]) ++ s1 by simp, withEcho_append, runOps_append, h2] at h1
      simpa using h1
    obtain ⟨srp, subp, nextp⟩ := noeff_run R.masks s1 (L1 ++ [o]) _ _ _ _ (fun q hq => hne q (by rw [hs]; simp [hq])) hP.sr r1
    have r2 : runOps cl (withEcho R.masks (L1 ++ o :: s1) (p :: s2)) ep Hp = some (e2, H2) := by
      have h1 := hat2; have h2 := hAt
      unfold At at h1 h2
      rw [hs, show L1 ++ o :: (s1 ++ p :: s2) = (L1 ++ o :: s1) ++ (p :: s2) by simp, withEcho_append, runOps_append, h2] at h1
      simpa using h1
    obtain ⟨_, sub3, _⟩ := noeff_run R.masks (p :: s2) (L1 ++ o :: s1) _ _ _ _ (fun q hq => hne q (by rw [hs]; simp only [List.mem_append]; exact .inr hq)) srp r2
    refine ⟨sub3, v', Hp', hst, ?_, nextp, hd'⟩
    rw [withEcho_cons, hs', runOps, hst] at r2
    simp only at r2
    have srp' : SR P gl base m1 Hp' W1 := by
      have : runOps cl (withEcho R.masks (L1 ++ o :: s1) [p]) ep Hp = some (Env.put ep p.dst v', Hp') := by
        rw [withEcho_cons, hs', runOps, hst]; rfl
      exact (noeff_run R.masks [p] _ _ _ _ _ (fun q hq => by simp at hq; subst hq; exact hne _ hp) srp this).1
    exact (noeff_run R.masks s2 _ _ _ _ _ (fun q hq => hne q (by rw [hs]; simp [hq])) srp' r2).2.1
  refine ⟨L1 ++ o :: seg, L2', e2, H2, ⟨hL', hat2, hrest2, hhead, fun q hq he => ?_, fun q hq hl hS => ?_, hclos, ⟨Inj.le_trans hI.post.le hP.le, sr2, hI.post.below.trans hP.below, by have := hI.post.next; have := hP.next; omega, fun b hb hmb => ?_⟩, hsz, hdf, henv, ?_, ?_⟩⟩
  · simp only [List.mem_append, List.mem_cons] at hq
    rcases hq with hq | rfl | hq
    · exact .inl (hI.effs q hq he)
    · exact .inr rfl
    · rw [hne q hq] at he; cases he
  · have hqr : q ∈ L2 := by rw [hseg]; simp [hq]
    rcases hS with hS | hS
    · exact hI.l2 q (by simp [hqr]) hl hS
    · exact hn2 q hqr hS
  · obtain ⟨h1, h2⟩ := hI.post.rest b hb hmb
    obtain ⟨h3, h4⟩ := hP.rest b (Nat.lt_of_lt_of_le hb hI.post.next) h1
    refine ⟨h3, ?_⟩
    -- below the first block nothing is made
    have hlt : b < H1.next := by have := hI.post.next; have := hP.next; omega
    have keep : ∀ (L E : List AOper) (e e' : Env) (H H' : AHeap), (∀ o ∈ L, o.op.eff = false) → runOps cl (withEcho R.masks E L) e H = some (e', H') → b < H.next → H'.get b = H.get b := by
      intro L
      induction L with
      | nil => intro E e e' H H' _ hr _; simp only [withEcho, runOps] at hr; injection hr with hr; injection hr with _ hr; rw [hr]
      | cons q L ih =>
        intro E e e' H H' hne' hr hb'
        rw [withEcho_cons, runOps] at hr
        split at hr
        · rename_i e1 Hq hq
          have hq' : starred R.masks E q = q := by unfold starred; rw [hne' q (by simp)]; rfl
          rw [hq'] at hq
          have k : Hq.get b = H.get b ∧ H.next ≤ Hq.next := by
            unfold AOper.run at hq
            split at hq
            · split at hq
              · split at hq
                · injection hq with hq; injection hq with _ hq; subst hq; exact ⟨rfl, Nat.le_refl _⟩
                · cases hq
              · split at hq
                · injection hq with hq; injection hq with _ hq; subst hq
                  exact ⟨by rw [AHeap.get_alloc, if_neg (by omega)], by rw [AHeap.next_alloc]; omega⟩
                · cases hq
              · rename_i hx; have := hne' q (by simp); rw [hx] at this; cases this
            · injection hq with hq; injection hq with _ hq; subst hq; exact ⟨rfl, Nat.le_refl _⟩
          rw [ih (E ++ [q]) e1 e' Hq H' (fun p hp => hne' p (by simp [hp])) hr (by omega)]
          exact k.1
        · cases hr
    rw [keep seg (L1 ++ [o]) _ _ _ _ hne hsegrun hlt, h4, h2]
  · intro A p B r eo Ho hA hp hS hop hpu hAt hw
    simp only [List.mem_append, List.mem_cons] at hp
    have hS' : ¬ S p.ix := fun h => hS (.inl h)
    rcases hp with hp | rfl | hp
    · obtain ⟨v', h1, h2⟩ := hreads A p B r eo Ho hA hp hS' hop hpu hAt hw
      exact ⟨v', ROp.run_mono sub2 h1, h2⟩
    · exact absurd (.inr rfl) hS
    · obtain ⟨hsub, v', Hp', hrun, _, _, hd⟩ := inSeg hA hp hAt
      unfold AOper.run at hrun
      rw [if_pos hw, hop] at hrun
      simp only at hrun
      split at hrun
      · rename_i w hrw
        injection hrun with hrun; injection hrun with h1 h2
        refine ⟨w, ROp.run_mono hsub hrw, fun d hdd => ?_⟩
        rw [hd d hdd]
        have := congrArg (fun e => Env.get e d) h1
        simp only [Env.get_put, if_pos hdd] at this
        exact this.symm
      · cases hrun
  · intro A p B x eo Ho hA hp hS hop hAt hw
    simp only [List.mem_append, List.mem_cons] at hp
    have hS' : ¬ S p.ix := fun h => hS (.inl h)
    rcases hp with hp | rfl | hp
    · obtain ⟨obj, k, h1, h2, h3, h4⟩ := hI.allocs A p B x eo Ho hA hp hS' hop hAt hw
      have hlt : Ho.next < HX.next := by
        apply Nat.lt_of_not_le; intro hle
        rw [(hI.post.sr.fresh _ hle)] at h2; cases h2
      obtain ⟨h5, h6⟩ := hP.rest _ hlt h3
      exact ⟨obj, k, h1, sub2 _ _ (by rw [h6]; exact h2), h5, h4⟩
    · rw [hop] at heff; cases heff
    · obtain ⟨hsub, v', Hp', hrun, hsub', hnx, hd⟩ := inSeg hA hp hAt
      unfold AOper.run at hrun
      rw [if_pos hw, hop] at hrun
      simp only at hrun
      split at hrun
      · rename_i obj k hrw
        injection hrun with hrun; injection hrun with h1 h2
        refine ⟨obj, k, hrw, hsub' _ _ (by rw [← h2, AHeap.get_alloc, if_pos rfl]), ?_, fun d hdd => ?_⟩
        · cases hm1 : m1 Ho.next with
          | none => rfl
          | some L => have := hP.sr.dom _ _ hm1; omega
        · rw [hd d hdd]
          have := congrArg (fun e => Env.get e d) h1
          simp only [Env.get_put, if_pos hdd] at this
          exact this.symm
      · cases hrun
end RC
end Go.Proofs.YtcfjjeipdacbcaaDoor.AM
