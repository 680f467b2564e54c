/-
  Regions whose order Go leaves open: each operation that may go next.
-/
import Derived.Test.YtcfjjeipdacbcaaDoorAmDraw2
set_option linter.unusedSimpArgs false
set_option linter.unusedVariables false
namespace Go.Proofs.YtcfjjeipdacbcaaDoor.AM
open Go Go.RowKit

theorem want_congr {e e' : Env} {g : Option (Nat × Bool)} (h : ∀ t b, g = some (t, b) → Env.get e t = Env.get e' t) : want e g = want e' g := by
  cases g with
  | none => rfl
  | some p => obtain ⟨t, b⟩ := p; simp only [want, h t b rfl]
theorem echo_mem {H : AHeap} {e : Env} : ∀ {l : List Echo}, echoOk H e l = true → ∀ x ∈ l, want e x.guard = true → ∃ v, x.op.run H e = some v ∧ ∀ d, x.dst = some d → Env.get e d = v
  | [], _, x, hx, _ => by simp at hx
  | y :: l, h, x, hx, hw => by
    simp only [echoOk, Bool.and_eq_true] at h
    rcases List.mem_cons.1 hx with rfl | hx
    · have h1 := h.1
      rw [if_pos hw] at h1
      split at h1
      · rename_i v hv
        refine ⟨v, hv, fun d hd => ?_⟩
        rw [hd] at h1
        exact (AV.same_eq h1).symm
      · cases h1
    · exact echo_mem h.2 x hx hw

namespace RC
variable {P : Program} {gl : List Nat} {base N : Nat} {cl : CallH} (R : RC P gl base N cl)

set_option maxHeartbeats 1000000 in
theorem step {ro : Option Nat} {S : Nat → Prop} {a : Act} {W : World} {L1 L2 : List AOper} {eX : Env} {HX : AHeap} {m : Inj} (hI : R.Inv S a W L1 L2 eX HX m) {i : Nat} (hi : i < R.opsA.size) (hno : ¬ S i)
    (hready : ∀ q, R.opsA.toList[i]? = some q → ∀ j ∈ edges q, S j) {K : Act → World → Prop} {Q : Exit → Act → World → Prop}
    (hK : ∀ a' W' L1' L2' eX' HX' m', R.Inv (fun j => S j ∨ j = i) a' W' L1' L2' eX' HX' m' → K a' W') : wpOpIn (WF ro) 0 P R.opsA Q i K a W := by
  obtain ⟨o, hoL, rfl⟩ := R.hall i hi
  obtain ⟨A, B, hA⟩ := List.append_of_mem hoL
  obtain ⟨eo, Ho, hat, _⟩ := R.at_split hA
  obtain ⟨v, Ho', hst, hat', hdv⟩ := R.stepAt hA hat
  obtain ⟨q, hq, hop, hgd, hix, hdst, hecho, hN⟩ := coper_inv (R.hco o hoL)
  have hq' : R.opsA[o.ix]? = some q := by simpa using hq
  have hclos : Closed R.opsA.toList (fun j => S j ∨ j = o.ix) := by
    intro j p hp hj k hk
    rcases hj with hj | rfl
    · exact .inl (hI.clos j p hp hj k hk)
    · exact .inl (hready p hp k hk)
  have hgl : ∀ g ∈ gl, m g = some ⟨g, 0, 0, 0⟩ := gl_mono R.hgl hI.post.le
  have hopn : ∀ t ∈ usesOf R.opsA.toList o.ix, VR m (Env.get eo t) (a.tmps.getD t undef) := fun t ht => by
    rw [← R.opnd hI.clos hA hno hready hat ht]; exact hI.env t
  have huse : usesOf R.opsA.toList o.ix = opTmps q ++ (match o.guard with | some (t, _) => [t] | none => []) := by
    unfold usesOf; rw [hq]
    simp only [hgd]
    cases o.guard with
    | none => rfl
    | some p => obtain ⟨t, b⟩ := p; rfl
  have htr : TR m eo a (opTmps q) := fun t ht => hopn t (by rw [huse]; simp [ht])
  have hw := want_sim (e := eo) (a := a) (m := m) hgd (fun t b hg => hopn t (by rw [huse, hg]; simp))
  have hn := R.hnd
  have hnA := hn
  rw [hA] at hnA
  obtain ⟨hn1, hn2, _⟩ := nodup_split hnA
  have hdN : ∀ d, o.dst = some d → d < N := fun d hd => hN d (by rw [← hdst]; exact hd)
  -- which piece it stands in
  have side : o ∈ L1 ∨ (∃ r, L2 = o :: r) ∨ (o ∈ L2 ∧ o.op.loud = false) := by
    have : o ∈ L1 ++ L2 := by rw [← hI.hL]; exact hoL
    rcases List.mem_append.1 this with h1 | h1
    · exact .inl h1
    · rcases hI.head with h2 | ⟨p, r, h2, h3⟩
      · rw [h2] at h1; simp at h1
      · by_cases hpo : p = o
        · subst hpo; exact .inr (.inl ⟨r, h2⟩)
        · refine .inr (.inr ⟨h1, ?_⟩)
          cases hl : o.op.loud with
          | false => rfl
          | true =>
            exfalso
            rw [h2] at h1
            have hor : o ∈ r := by rcases List.mem_cons.1 h1 with h | h; exact absurd h.symm hpo; exact h
            obtain ⟨s1, s2, hs⟩ := List.append_of_mem hor
            have hsp : R.L0 = (L1 ++ p :: s1) ++ o :: s2 := by rw [hI.hL, h2, hs]; simp
            have hb := (R.ordAt hsp).loud hl p (by simp) h3
            have hSp : S p.ix := by
              rcases bef_sound hclos hb (.inr rfl) with h | h
              · exact h
              · exfalso
                have hpL : p ∈ R.L0 := by rw [hI.hL, h2]; simp
                exact hpo (nodup_inj hn hpL hoL h)
            exact hI.l2 p (by rw [h2]; simp) (by cases hpe : p.op with | r x => rw [hpe] at h3; cases h3 | a x => rw [hpe] at h3; cases h3 | e x => rfl) hSp
  -- the state goes on with the same pieces
  have stay : ∀ (a' : Act) (W' : World) (m' : Inj), (o ∈ L1 ∨ (o ∈ L2 ∧ o.op.loud = false)) → m.le m' → SR P gl base m' HX W' → BK base W W' → (∀ b, b < R.H0.next → m b = none → m' b = none) → a'.tmps.size = N → a'.defers = R.ds → (∀ x, VR m' (R.valS (fun j => S j ∨ j = o.ix) x) (a'.tmps.getD x undef)) →
      (∀ A p B x eo Ho, R.L0 = A ++ p :: B → p ∈ L1 → ¬ (S p.ix ∨ p.ix = o.ix) → p.op = .a x → R.At A eo Ho → want eo p.guard = true → m Ho.next = none → m' Ho.next = none) → K a' W' := by
    intro a' W' m' hs hPle hPsr hPbel hPrest h1 h2 h3 h4
    refine hK a' W' L1 L2 eX HX m' ⟨hI.hL, hI.hat, hI.hrest, hI.head, fun p hp he => .inl (hI.effs p hp he), fun p hp hl hS => ?_, hclos, ⟨Inj.le_trans hI.post.le hPle, hPsr, hI.post.below.trans hPbel, hI.post.next, fun b hb hm => ?_⟩, h1, h2, h3, ?_, ?_⟩
    · rcases hS with hS | hS
      · exact hI.l2 p hp hl hS
      · have hpL : p ∈ R.L0 := by rw [hI.hL]; simp [hp]
        have := nodup_inj hn hpL hoL hS
        subst this
        rcases hs with hs | ⟨_, hs⟩
        · obtain ⟨C, D, hC⟩ := List.append_of_mem hs
          have h5 := hn
          rw [hI.hL, hC] at h5
          have h6 : nodupIx (C ++ p :: (D ++ L2)) = true := by simpa using h5
          exact (nodup_split h6).2.1 p (by simp [hp]) rfl
        · rw [hs] at hl; cases hl
    · obtain ⟨k1, k2⟩ := hI.post.rest b hb hm
      exact ⟨hPrest b hb k1, k2⟩
    · intro A p B r eo Ho hA hp hS hop hpu hAt hw
      exact hI.reads A p B r eo Ho hA hp (fun h => hS (.inl h)) hop hpu hAt hw
    · intro A p B x eo Ho hA hp hS hop hAt hw
      obtain ⟨obj, k, g1, g2, g3, g4⟩ := hI.allocs A p B x eo Ho hA hp (fun h => hS (.inl h)) hop hAt hw
      exact ⟨obj, k, g1, g2, h4 A p B x eo Ho hA hp hS hop hAt hw g3, g4⟩
  unfold wpOpIn
  rw [hq']
  simp only
  by_cases hwant : Region.wanted q (yielded R.opsA a.tmps) = true
  · rw [if_pos hwant]
    have hweo : want eo o.guard = true := by rw [hw]; exact hwant
    cases hoc : o.op with
    | r r =>
      have hs : starred R.masks A o = o := by unfold starred; rw [hoc]; rfl
      rw [hs] at hst
      unfold AOper.run at hst
      rw [if_pos hweo, hoc] at hst
      simp only at hst
      split at hst
      · rename_i v' hv'
        injection hst with hst; injection hst with hst1 hst2
        have hvv : ∀ d, o.dst = some d → v = v' := fun d hd => by
          have := congrArg (fun e => Env.get e d) hst1
          simp only [Env.get_put, if_pos hd] at this
          exact this.symm
        have hc : cop P gl q.op = some (.r r) := by
          rw [hoc] at hop
          cases hq2 : cop P gl q.op with
          | none => rw [hq2] at hop; cases hop
          | some y => rw [hq2] at hop; simp only [Option.getD_some] at hop; rw [hop]
        have hval : ∃ v'', r.run HX eo = some v'' ∧ ∀ d, o.dst = some d → Env.get R.eF d = v'' := by
          by_cases hpu : r.pure = true
          · exact ⟨v', by rw [← ROp.run_pure (H := Ho) hpu]; exact hv', fun d hd => by rw [hdv d hd, hvv d hd]⟩
          · have hpu : r.pure = false := by simpa using hpu
            rcases side with h1 | ⟨r', h1⟩ | ⟨_, h1⟩
            · exact hI.reads A o B r eo Ho hA h1 hno hoc hpu hat hweo
            · exfalso
              rcases hI.head with h2 | ⟨p, r2, h2, h3⟩
              · rw [h2] at h1; cases h1
              · rw [h2] at h1; injection h1 with h1 _; rw [h1, hoc] at h3; cases h3
            · rw [hoc] at h1; simp only [AOp.loud, Bool.not_eq_false'] at h1; rw [h1] at hpu; cases hpu
        obtain ⟨v'', hr1, hr2⟩ := hval
        obtain ⟨c, h1, h2⟩ := rsim hI.post.sr hc (opRs (e := eo) hgl htr) hr1
        have hside : o ∈ L1 ∨ (o ∈ L2 ∧ o.op.loud = false) := by
          rcases side with h3 | ⟨r', h3⟩ | h3
          · exact .inl h3
          · exfalso
            rcases hI.head with h4 | ⟨p, r2, h4, h5⟩
            · rw [h4] at h3; cases h3
            · rw [h4] at h3; injection h3 with h3 _; rw [h3, hoc] at h5; cases h5
          · exact .inr h3
        refine upon_value h1 (cop_nodefer hc) (stay _ _ m hside (Inj.le_refl m) hI.post.sr (BK.refl _ _) (fun _ _ h => h) (by rw [put_size]; exact hI.size) (by rw [put_defers]; exact hI.defers) ?_ (fun _ _ _ _ _ _ _ _ _ _ _ _ h => h))
        rw [← hdst]
        exact R.env_add (Inj.le_refl m) hI.size hI.env hA h2 (fun d hd => ⟨hr2 d hd, hdN d hd⟩)
      · cases hst
    | a x =>
      have hc : cop P gl q.op = some (.a x) := by
        rw [hoc] at hop
        cases hq2 : cop P gl q.op with
        | none => rw [hq2] at hop; cases hop
        | some y => rw [hq2] at hop; simp only [Option.getD_some] at hop; rw [hop]
      have h1 : o ∈ L1 := by
        rcases side with h3 | ⟨r', h3⟩ | ⟨_, h3⟩
        · exact h3
        · exfalso
          rcases hI.head with h4 | ⟨p, r2, h4, h5⟩
          · rw [h4] at h3; cases h3
          · rw [h4] at h3; injection h3 with h3 _; rw [h3, hoc] at h5; cases h5
        · rw [hoc] at h3; cases h3
      obtain ⟨obj, k, g1, g2, g3, g4⟩ := hI.allocs A o B x eo Ho hA h1 hno hoc hat hweo
      obtain ⟨c, W', L, r1, r2, r3, r4⟩ := asim hI.post.sr (b := Ho.next) hc (opRs (e := eo) hgl htr) g1 g2 g3
      have hle := Inj.le_upd (L := L) g3
      have hge := R.at_next_ge hat
      refine upon_value r1 (cop_nodefer hc) (stay _ _ (m.upd Ho.next L) (.inl h1) hle r2 r4 (fun b hb hm => ?_) (by rw [put_size]; exact hI.size) (by rw [put_defers]; exact hI.defers) ?_ ?_)
      · unfold Inj.upd; rw [if_neg (by omega)]; exact hm
      · rw [← hdst]
        exact R.env_add hle hI.size hI.env hA r3 (fun d hd => ⟨g4 d hd, hdN d hd⟩)
      · intro A' p B' x' eo' Ho' hA' hp hS hop' hAt' hw' hm'
        have hne : o.ix ≠ p.ix := fun e => hS (.inr e.symm)
        have := R.alloc_ne hA hat hoc hweo hA' hAt' hop' hw' hne
        unfold Inj.upd; rw [if_neg (fun e => this e.symm)]; exact hm'
    | e x =>
      have hL2 : ∃ r, L2 = o :: r := by
        rcases side with h3 | h3 | ⟨_, h3⟩
        · exact absurd (hI.effs o h3 (by rw [hoc]; rfl)) hno
        · exact h3
        · rw [hoc] at h3; cases h3
      obtain ⟨r, rfl⟩ := hL2
      obtain ⟨rfl, rfl⟩ := split_uniq hnA (hA.symm.trans hI.hL)
      obtain ⟨rfl, rfl⟩ := R.at_uniq hat hI.hat
      have hst' := hst
      unfold AOper.run at hst
      rw [starred_guard, starred_op, starred_dst, if_pos hweo, hoc] at hst
      simp only at hst
      split at hst
      · rename_i v' H2 hx
        split at hst
        · rename_i hec
          injection hst with hst; injection hst with hst1 hst2
          subst hst2
          have hvv : ∀ d, o.dst = some d → v = v' := fun d hd => by
            have := congrArg (fun e => Env.get e d) hst1
            simp only [Env.get_put, if_pos hd] at this
            exact this.symm
          rw [hoc] at hop
          have hecho2 : (starred R.masks A o).echo = echoOf R.masks A o := by unfold starred; rw [hoc]; rfl
          rw [hecho2] at hec
          refine eff_wp R.hcl hgl hI.post.sr hop htr hx (fun c W' m' h1 h2 => ?_)
          have henv2 := R.env_add (S := S) (a := a) h1.le hI.size hI.env hA h2 (fun d hd => ⟨by rw [hdv d hd, hvv d hd], hdN d hd⟩)
          obtain ⟨L1', L2', eX', HX', hI'⟩ := R.advance (a1 := a.put q.dst c) (W1 := W') (H1 := H2) (v := v) hI hst' h1 hclos (by rw [hoc]; rfl) (by rw [put_size]; exact hI.size) (by rw [put_defers]; exact hI.defers) (by rw [← hdst]; exact henv2) (by
            intro A' p B' r' eo' Ho' hA' hp hS hop' hpu hAt' hw'
            obtain ⟨v2, q1, q2⟩ := hI.reads A' p B' r' eo' Ho' hA' hp hS hop' hpu hAt' hw'
            -- the look behind the call
            have hpL : p ∈ R.L0 := by rw [hA']; simp
            have hnb : bef R.masks o.ix p.ix = false := by
              cases hb : bef R.masks o.ix p.ix with
              | false => rfl
              | true =>
                exfalso
                rcases bef_sound hclos hb (.inr rfl) with h | h
                · exact hS h
                · exact hn1 p hp h
            have hstr := ((R.ordAt hA).reads (by rw [hoc]; rfl) p hp r' hop' hpu).resolve_left (by rw [hnb]; simp)
            unfold strictOk at hstr
            simp only [List.all_eq_true, List.mem_append, Bool.or_eq_true, bne_iff_ne, ne_eq, Bool.and_eq_true] at hstr
            have same : ∀ t, (t ∈ r'.tmps ∨ t ∈ (match p.guard with | some (t, _) => [t] | none => [] : List Nat)) → Env.get eo' t = Env.get eo t := by
              intro t ht
              by_cases hwr : ∃ w ∈ R.L0, w.dst = some t
              · obtain ⟨w, hw1, hw2⟩ := hwr
                rcases hstr t ht w hw1 with h | ⟨h3, h4⟩
                · exact absurd hw2 h
                · have hwA' := R.before_mem hA' hw1 h4
                  rw [R.env_in hA' hAt' hwA' hw2]
                  -- it stands ahead of the call, too
                  have hwA : w ∈ A := by
                    obtain ⟨C, D, hC⟩ := List.append_of_mem hp
                    have hspp : R.L0 = C ++ p :: (D ++ o :: B) := by rw [hA, hC]; simp
                    have := R.before_mem hspp hw1 h4
                    rw [hC]; simp [this]
                  exact (R.env_in hA hat hwA hw2).symm
              · rw [R.env_out hAt' (fun w hwA hd => hwr ⟨w, by rw [hA']; simp [hwA], hd⟩), R.env_out hat (fun w hwA hd => hwr ⟨w, by rw [hA]; simp [hwA], hd⟩)]
            have hmem : ({ dst := p.dst, guard := p.guard, op := r' } : Echo) ∈ echoOf R.masks A o := by
              unfold echoOf
              rw [List.mem_filterMap]
              refine ⟨p, hp, ?_⟩
              rw [hop']
              have : (R.masks.getD o.ix 0).testBit p.ix = false := hnb
              simp only [hpu, Bool.not_false, this, Bool.and_self, if_true]
            have hwe : want eo p.guard = true := by
              rw [← hw']
              exact want_congr (fun t b hg => (same t (.inr (by rw [hg]; simp))).symm)
            obtain ⟨v3, q3, q4⟩ := echo_mem hec _ hmem hwe
            refine ⟨v3, by rw [ROp.run_congr (fun t ht => same t (.inl ht))]; exact q3, fun d hd => ?_⟩
            rw [← q4 d hd]
            exact (R.env_in hA hat hp hd).symm)
          exact hK _ _ _ _ _ _ _ hI'
        · cases hst
      · cases hst
  · rw [if_neg hwant]
    refine ⟨fun _ _ => trivial, ?_⟩
    have hweo : want eo o.guard = false := by rw [hw]; simpa using hwant
    have hund : ∀ d, o.dst = some d → Env.get R.eF d = .undef := fun d hd => by
      rw [hdv d hd]
      unfold AOper.run at hst
      rw [starred_guard, starred_dst, if_neg (by rw [hweo]; simp)] at hst
      injection hst with hst; injection hst with hst1 hst2
      have := congrArg (fun e => Env.get e d) hst1
      simp only [Env.get_put, if_pos hd] at this
      exact this.symm
    have henv2 := R.env_add (S := S) (a := a) (Inj.le_refl m) hI.size hI.env hA (VR.undef m) (fun d hd => ⟨hund d hd, hdN d hd⟩)
    rcases side with h3 | ⟨r, rfl⟩ | h3
    · refine stay _ _ m (.inl h3) (Inj.le_refl m) hI.post.sr (BK.refl _ _) (fun _ _ h => h) (by rw [put_size]; exact hI.size) (by rw [put_defers]; exact hI.defers) (by rw [← hdst]; exact henv2) (fun _ _ _ _ _ _ _ _ _ _ _ _ h => h)
    · obtain ⟨rfl, rfl⟩ := split_uniq hnA (hA.symm.trans hI.hL)
      obtain ⟨rfl, rfl⟩ := R.at_uniq hat hI.hat
      have heff : o.op.eff = true := by
        rcases hI.head with h4 | ⟨p, r2, h4, h5⟩
        · cases h4
        · injection h4 with h4 _; rw [h4]; exact h5
      have hst' := hst
      unfold AOper.run at hst
      rw [starred_guard, starred_dst, if_neg (by rw [hweo]; simp)] at hst
      injection hst with hst; injection hst with hst1 hst2
      subst hst2
      obtain ⟨L1', L2', eX', HX', hI'⟩ := R.advance (a1 := a.put q.dst undef) (W1 := W) (H1 := Ho) (v := v) hI hst' (Post.refl hI.post.sr) hclos heff (by rw [put_size]; exact hI.size) (by rw [put_defers]; exact hI.defers) (by rw [← hdst]; exact henv2)
        (fun A' p B' r' eo' Ho' hA' hp hS hop' hpu hAt' hw' => hI.reads A' p B' r' eo' Ho' hA' hp hS hop' hpu hAt' hw')
      exact hK _ _ _ _ _ _ _ hI'
    · refine stay _ _ m (.inr h3) (Inj.le_refl m) hI.post.sr (BK.refl _ _) (fun _ _ h => h) (by rw [put_size]; exact hI.size) (by rw [put_defers]; exact hI.defers) (by rw [← hdst]; exact henv2) (fun _ _ _ _ _ _ _ _ _ _ _ _ h => h)
end RC
end Go.Proofs.YtcfjjeipdacbcaaDoor.AM
