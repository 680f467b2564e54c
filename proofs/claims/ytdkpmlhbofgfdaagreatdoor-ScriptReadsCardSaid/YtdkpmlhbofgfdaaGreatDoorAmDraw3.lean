/-
  Regions whose order Go leaves open: whatever order is drawn, what the abstract machine says.
  Regions whose order Go leaves open: one step of a drawn order.
  Regions whose order Go leaves open: each operation that may go next.
-/
import Derived.Test.YtdkpmlhbofgfdaaGreatDoorAmReg
set_option linter.unusedSimpArgs false
set_option linter.unusedVariables false
namespace Go.Proofs.YtdkpmlhbofgfdaaGreatDoor.AM
open Go Go.RowKit

/-- A region and its run by the abstract machine. -/
structure RC (P : Program) (gl : List Nat) (base N : Nat) (cl : CallH) where
  opsA : Array Oper
  L0 : List AOper
  e0 : Env
  eF : Env
  H0 : AHeap
  HF : AHeap
  m0 : Inj
  W0 : World
  ds : List Deferred
  hcl : CallSim P base gl cl
  hmono : NextMono cl
  hgl : ∀ g ∈ gl, g < 999999 → m0 g = some ⟨g, 0, 0, 0⟩
  hco : ∀ o ∈ L0, coper P gl N opsA.toList o.ix = some o
  hedge : edgesOk opsA.toList 0 = true
  hnd : nodupIx L0 = true
  hall : ∀ i, i < opsA.size → ∃ o ∈ L0, o.ix = i
  hdst : ∀ o ∈ L0, ∀ p ∈ L0, o.ix ≠ p.ix → ∀ d, o.dst = some d → p.dst ≠ some d
  htmps : ∀ o ∈ L0, ∀ t ∈ usesOf opsA.toList o.ix, ∀ p ∈ L0, p.ix = o.ix ∨ p.dst ≠ some t ∨ bef (closGo opsA.toList []) o.ix p.ix = true ∨ bef (closGo opsA.toList []) p.ix o.ix = true
  hord : ordOk (closGo opsA.toList []) opsA.size L0 [] L0 = true
  hsr : SR P gl base m0 H0 W0
  hrun : runOps cl (withEcho (closGo opsA.toList []) [] L0) e0 H0 = some (eF, HF)

namespace RC
variable {P : Program} {gl : List Nat} {base N : Nat} {cl : CallH} (R : RC P gl base N cl)
abbrev masks : List Nat := closGo R.opsA.toList []
/-- the run ahead of a place -/
def At (M : List AOper) (e : Env) (H : AHeap) : Prop := runOps cl (withEcho R.masks [] M) R.e0 R.H0 = some (e, H)
theorem at_split {A B : List AOper} (h : R.L0 = A ++ B) : ∃ e H, R.At A e H ∧ runOps cl (withEcho R.masks A B) e H = some (R.eF, R.HF) := by
  have h1 := R.hrun
  rw [h, withEcho_append, runOps_append] at h1
  split at h1
  · rename_i e H h2; exact ⟨e, H, h2, by simpa using h1⟩
  · cases h1
theorem at_uniq {M : List AOper} {e e' : Env} {H H' : AHeap} (h : R.At M e H) (k : R.At M e' H') : e = e' ∧ H = H' := by
  unfold At at h k; rw [h] at k; injection k with k; injection k with k1 k2; exact ⟨k1, k2⟩
theorem mem_dst {A : List AOper} {o : AOper} {B : List AOper} (h : R.L0 = A ++ o :: B) {x : Nat} {w : AOper} (hw : w ∈ A) (hx : w.dst = some x) : ∀ q ∈ o :: B, q.dst ≠ some x := by
  intro q hq
  have hn := R.hnd
  rw [h] at hn
  have hwL : w ∈ R.L0 := by rw [h]; simp [hw]
  have hqL : q ∈ R.L0 := by rw [h]; simp only [List.mem_append]; exact .inr hq
  refine R.hdst w hwL q hqL ?_ x hx
  intro he
  obtain ⟨C, D, rfl⟩ := List.append_of_mem hw
  have h2 : nodupIx (C ++ w :: (D ++ o :: B)) = true := by simpa using hn
  obtain ⟨_, h3, _⟩ := nodup_split h2
  exact h3 q (by simp only [List.mem_append]; exact .inr hq) he.symm
theorem env_in {A : List AOper} {o : AOper} {B : List AOper} (h : R.L0 = A ++ o :: B) {e : Env} {H : AHeap} (ha : R.At A e H) {x : Nat} {w : AOper} (hw : w ∈ A) (hx : w.dst = some x) : Env.get e x = Env.get R.eF x := by
  obtain ⟨e', H', h1, h2⟩ := R.at_split h
  obtain ⟨rfl, rfl⟩ := R.at_uniq ha h1
  refine (runOps_keep h2 (fun p hp => ?_)).symm
  obtain ⟨q, hq, hd⟩ := withEcho_mem _ _ _ hp
  rw [hd]
  exact R.mem_dst h hw hx q hq
theorem env_out {A : List AOper} {e : Env} {H : AHeap} (ha : R.At A e H) {x : Nat} (hx : ∀ w ∈ A, w.dst ≠ some x) : Env.get e x = Env.get R.e0 x := by
  refine runOps_keep ha (fun p hp => ?_)
  obtain ⟨q, hq, hd⟩ := withEcho_mem _ _ _ hp
  rw [hd]; exact hx q hq
theorem ordAt {A : List AOper} {o : AOper} {B : List AOper} (h : R.L0 = A ++ o :: B) : OrdAt R.masks R.opsA.size R.L0 A o := by
  have := ordOk_at (A := A) (o := o) (B := B) R.hord h
  simpa using this
theorem before_mem {A : List AOper} {o : AOper} {B : List AOper} (h : R.L0 = A ++ o :: B) {p : AOper} (hp : p ∈ R.L0) (hb : bef R.masks o.ix p.ix = true) : p ∈ A := by
  obtain ⟨_, ho, _⟩ := coper_inv (R.hco p hp)
  have hlt : p.ix < R.opsA.size := by have := (List.getElem?_eq_some_iff.1 ho).1; simpa using this
  obtain ⟨q, hq, he⟩ := (R.ordAt h).before p.ix hlt hb
  have : q = p := nodup_inj R.hnd (by rw [h]; simp [hq]) hp he
  rw [← this]; exact hq

open Classical in
/-- what a slot holds when so much has been done -/
noncomputable def valS (S : Nat → Prop) (x : Nat) : AV := if ∃ w ∈ R.L0, w.dst = some x ∧ S w.ix then Env.get R.eF x else Env.get R.e0 x
theorem valS_in {S : Nat → Prop} {x : Nat} {w : AOper} (hw : w ∈ R.L0) (hx : w.dst = some x) (hs : S w.ix) : R.valS S x = Env.get R.eF x := by unfold valS; rw [if_pos ⟨w, hw, hx, hs⟩]
theorem valS_out {S : Nat → Prop} {x : Nat} (h : ∀ w ∈ R.L0, w.dst = some x → ¬ S w.ix) : R.valS S x = Env.get R.e0 x := by unfold valS; rw [if_neg]; rintro ⟨w, hw, hx, hs⟩; exact h w hw hx hs

/-- An operation that may go now looks at what the machine's own run looked at. -/
theorem opnd {S : Nat → Prop} (hS : Closed R.opsA.toList S) {A : List AOper} {o : AOper} {B : List AOper} (h : R.L0 = A ++ o :: B) (hno : ¬ S o.ix) (hready : ∀ q, R.opsA.toList[o.ix]? = some q → ∀ j ∈ edges q, S j)
    {e : Env} {H : AHeap} (ha : R.At A e H) {t : Nat} (ht : t ∈ usesOf R.opsA.toList o.ix) : R.valS S t = Env.get e t := by
  have hoL : o ∈ R.L0 := by rw [h]; simp
  have hS' : Closed R.opsA.toList (fun i => S i ∨ i = o.ix) := by
    intro i q hq hi j hj
    rcases hi with hi | rfl
    · exact .inl (hS i q hq hi j hj)
    · exact .inl (hready q hq j hj)
  by_cases hw : ∃ w ∈ R.L0, w.dst = some t
  · obtain ⟨w, hwL, hwd⟩ := hw
    have uniq : ∀ w' ∈ R.L0, w'.dst = some t → w' = w := fun w' hw' hd' => by
      by_cases he : w'.ix = w.ix
      · exact nodup_inj R.hnd hw' hwL he
      · exact absurd hwd (R.hdst w' hw' w hwL he t hd')
    rcases R.htmps o hoL t ht w hwL with h1 | h1 | h1 | h1
    · have hwo : w = o := nodup_inj R.hnd hwL hoL h1
      subst hwo
      rw [R.valS_out (fun w' hw' hd' => by rw [uniq w' hw' hd']; exact hno)]
      refine (R.env_out ha (fun q hq hd => ?_)).symm
      have := uniq q (by rw [h]; simp [hq]) hd
      subst this
      have hn := R.hnd; rw [h] at hn
      exact (nodup_split hn).1 q hq rfl
    · exact absurd hwd h1
    · have hSw : S w.ix := by
        rcases bef_sound hS' h1 (.inr rfl) with h2 | h2
        · exact h2
        · exfalso
          have hwo : w = o := nodup_inj R.hnd hwL hoL h2
          have := R.before_mem h hwL h1
          subst hwo
          have hn := R.hnd; rw [h] at hn
          exact (nodup_split hn).1 w this rfl
      rw [R.valS_in hwL hwd hSw]
      exact (R.env_in h ha (R.before_mem h hwL h1) hwd).symm
    · have hSw : ¬ S w.ix := fun hs => hno (bef_sound hS h1 hs)
      rw [R.valS_out (fun w' hw' hd' => by rw [uniq w' hw' hd']; exact hSw)]
      refine (R.env_out ha (fun q hq hd => ?_)).symm
      have hqw := uniq q (by rw [h]; simp [hq]) hd
      subst hqw
      obtain ⟨C, D, hCD⟩ := List.append_of_mem hq
      have hsp : R.L0 = C ++ q :: (D ++ o :: B) := by rw [h, hCD]; simp
      have hoC := R.before_mem hsp hoL h1
      have hn := R.hnd; rw [h, hCD] at hn
      have hn' : nodupIx ((C ++ q :: D) ++ o :: B) = true := hn
      exact (nodup_split hn').1 o (by simp [hoC]) rfl
  · rw [R.valS_out (fun w hwA hd => absurd ⟨w, hwA, hd⟩ hw), R.env_out ha (fun w hwA hd => hw ⟨w, by rw [h]; simp [hwA], hd⟩)]

/-- How far a drawn order has come. -/
structure Inv (S : Nat → Prop) (a : Act) (W : World) (L1 L2 : List AOper) (eX : Env) (HX : AHeap) (m : Inj) : Prop where
  hL : R.L0 = L1 ++ L2
  hat : R.At L1 eX HX
  hrest : runOps cl (withEcho R.masks L1 L2) eX HX = some (R.eF, R.HF)
  head : L2 = [] ∨ ∃ o r, L2 = o :: r ∧ o.op.eff = true
  effs : ∀ o ∈ L1, o.op.eff = true → S o.ix
  l2 : ∀ o ∈ L2, o.op.loud = true → ¬ S o.ix
  clos : Closed R.opsA.toList S
  post : Post P gl base R.m0 R.H0 R.W0 m HX W
  size : a.tmps.size = N
  defers : a.defers = R.ds
  env : ∀ x, VR m (R.valS S x) (a.tmps.getD x undef)
  reads : ∀ A o B r eo Ho, R.L0 = A ++ o :: B → o ∈ L1 → ¬ S o.ix → o.op = .r r → r.pure = false → R.At A eo Ho → want eo o.guard = true → ∃ v, r.run HX eo = some v ∧ ∀ d, o.dst = some d → Env.get R.eF d = v
  allocs : ∀ A o B x eo Ho, R.L0 = A ++ o :: B → o ∈ L1 → ¬ S o.ix → o.op = .a x → R.At A eo Ho → want eo o.guard = true → ∃ obj k, x.run eo = some (obj, k) ∧ HX.get Ho.next = some obj ∧ m Ho.next = none ∧ ∀ d, o.dst = some d → Env.get R.eF d = k.val Ho.next
end RC
end Go.Proofs.YtdkpmlhbofgfdaaGreatDoor.AM
namespace Go.Proofs.YtdkpmlhbofgfdaaGreatDoor.AM
open Go Go.RowKit

theorem segSplit : ∀ L : List AOper, ∃ A B, L = A ++ B ∧ (∀ o ∈ A, o.op.eff = false) ∧ (B = [] ∨ ∃ o r, B = o :: r ∧ o.op.eff = true)
  | [] => ⟨[], [], rfl, fun o h => by simp at h, .inl rfl⟩
  | o :: L => by
    cases he : o.op.eff with
    | true => exact ⟨[], o :: L, rfl, fun o h => by simp at h, .inr ⟨o, L, rfl, he⟩⟩
    | false =>
      obtain ⟨A, B, h1, h2, h3⟩ := segSplit L
      refine ⟨o :: A, B, by rw [h1]; rfl, fun p hp => ?_, h3⟩
      rcases List.mem_cons.1 hp with rfl | hp
      · exact he
      · exact h2 p hp
theorem sub_alloc {H : AHeap} (hf : ∀ b, H.next ≤ b → H.get b = none) (o : AObj) : H.sub (H.alloc o) := by
  intro b x hb
  rw [AHeap.get_alloc]
  by_cases h : b = H.next
  · subst h; rw [hf _ (Nat.le_refl _)] at hb; cases hb
  · rw [if_neg h]; exact hb
theorem noeff_run {P : Program} {gl : List Nat} {base : Nat} {m : Inj} {W : World} {cl : CallH} (masks : List Nat) : ∀ (L E : List AOper) (e e' : Env) (H H' : AHeap), (∀ o ∈ L, o.op.eff = false) → SR P gl base m H W → runOps cl (withEcho masks E L) e H = some (e', H') →
    SR P gl base m H' W ∧ H.sub H' ∧ H.next ≤ H'.next
  | [], E, e, e', H, H', _, h, hr => by
    simp only [withEcho, runOps] at hr; injection hr with hr; injection hr with h1 h2; subst h2; exact ⟨h, fun _ _ h => h, Nat.le_refl _⟩
  | o :: L, E, e, e', H, H', hne, h, hr => by
    rw [withEcho_cons, runOps] at hr
    split at hr
    · rename_i e1 H1 h1
      have ho := hne o (by simp)
      have hs : starred masks E o = o := by unfold starred; rw [ho]; rfl
      rw [hs] at h1
      have key : SR P gl base m H1 W ∧ H.sub H1 ∧ H.next ≤ H1.next := by
        unfold AOper.run at h1
        split at h1
        · split at h1
          · split at h1
            · injection h1 with h1; injection h1 with h2 h3; subst h3; exact ⟨h, fun _ _ h => h, Nat.le_refl _⟩
            · cases h1
          · split at h1
            · rename_i obj k hx
              injection h1 with h1; injection h1 with h2 h3; subst h3
              exact ⟨h.ext obj, sub_alloc h.fresh obj, by rw [AHeap.next_alloc]; omega⟩
            · cases h1
          · rename_i hx; rw [hx] at ho; cases ho
        · injection h1 with h1; injection h1 with h2 h3; subst h3; exact ⟨h, fun _ _ h => h, Nat.le_refl _⟩
      obtain ⟨k1, k2, k3⟩ := key
      obtain ⟨k4, k5, k6⟩ := noeff_run masks L (E ++ [o]) e1 e' H1 H' (fun p hp => hne p (by simp [hp])) k1 hr
      exact ⟨k4, fun b o hb => k5 b o (k2 b o hb), Nat.le_trans k3 k6⟩
    · cases hr

namespace RC
variable {P : Program} {gl : List Nat} {base N : Nat} {cl : CallH} (R : RC P gl base N cl)
/-- the machine's own step at a place -/
theorem stepAt {A : List AOper} {o : AOper} {B : List AOper} (h : R.L0 = A ++ o :: B) {e : Env} {H : AHeap} (ha : R.At A e H) :
    ∃ v H', (starred R.masks A o).run cl e H = some (Env.put e o.dst v, H') ∧ R.At (A ++ [o]) (Env.put e o.dst v) H' ∧ ∀ d, o.dst = some d → Env.get R.eF d = v := by
  obtain ⟨e', H', h1, h2⟩ := R.at_split h
  obtain ⟨rfl, rfl⟩ := R.at_uniq ha h1
  rw [withEcho_cons, runOps] at h2
  split at h2
  · rename_i e1 H1 h3
    obtain ⟨v, hv⟩ := AOper.run_keep h3
    rw [starred_dst] at hv
    subst hv
    refine ⟨v, H1, h3, ?_, fun d hd => ?_⟩
    · unfold At
      rw [withEcho_append, runOps_append, ha]
      simp only [List.nil_append, withEcho_cons, runOps, h3]
      rfl
    · have hk := runOps_keep (x := d) h2 (fun p hp => by
        obtain ⟨q, hq, hdq⟩ := withEcho_mem _ _ _ hp
        rw [hdq]
        have hn := R.hnd; rw [h] at hn
        refine R.hdst o (by rw [h]; simp) q (by rw [h]; simp [hq]) (fun e => (nodup_split hn).2.1 q hq e.symm) d hd)
      rw [hk, Env.get_put, if_pos hd]
  · cases h2
theorem at_next {A : List AOper} {o : AOper} {B : List AOper} (h : R.L0 = A ++ o :: B) {e : Env} {H : AHeap} (ha : R.At A e H) {C : List AOper} {p : AOper} {D : List AOper} (h' : R.L0 = C ++ p :: D) {e' : Env} {H' : AHeap} (hc : R.At C e' H') (hlt : A.length < C.length) :
    ∃ H1 e1, R.At (A ++ [o]) e1 H1 ∧ H1.next ≤ H'.next := by
  obtain ⟨v, H1, h1, h2, _⟩ := R.stepAt h ha
  refine ⟨H1, _, h2, ?_⟩
  have hpre : ∃ T, C = (A ++ [o]) ++ T := by
    have e1 : (A ++ [o]) ++ B = C ++ p :: D := by rw [← h', h]; simp
    have := List.append_eq_append_iff.1 e1
    rcases this with ⟨T, h3, _⟩ | ⟨T, h3, h4⟩
    · exact ⟨T, h3⟩
    · have : (A ++ [o]).length = C.length + T.length := by rw [h3]; simp
      simp only [List.length_append, List.length_cons, List.length_nil] at this
      have hT : T = [] := List.length_eq_zero_iff.1 (by omega)
      subst hT
      exact ⟨[], by rw [h3]; simp⟩
  obtain ⟨T, rfl⟩ := hpre
  unfold At at hc h2
  rw [withEcho_append, runOps_append, h2] at hc
  exact runOps_next R.hmono hc
/-- two places, two blocks -/
theorem alloc_ne {A : List AOper} {o : AOper} {B : List AOper} (h : R.L0 = A ++ o :: B) {e : Env} {H : AHeap} (ha : R.At A e H) {x : LOp} (hx : o.op = .a x) (hw : want e o.guard = true)
    {C : List AOper} {p : AOper} {D : List AOper} (h' : R.L0 = C ++ p :: D) {e' : Env} {H' : AHeap} (hc : R.At C e' H') {y : LOp} (hy : p.op = .a y) (hw' : want e' p.guard = true) (hne : o.ix ≠ p.ix) : H.next ≠ H'.next := by
  have grows : ∀ {A : List AOper} {o : AOper} {B : List AOper} (h : R.L0 = A ++ o :: B) {e : Env} {H : AHeap} (ha : R.At A e H) {x : LOp} (hx : o.op = .a x) (hw : want e o.guard = true) {e1 : Env} {H1 : AHeap}, R.At (A ++ [o]) e1 H1 → H.next < H1.next := by
    intro A o B h e H ha x hx hw e1 H1 h1
    obtain ⟨v, H2, h2, h3, _⟩ := R.stepAt h ha
    obtain ⟨_, rfl⟩ := R.at_uniq h1 h3
    have hs : starred R.masks A o = o := by unfold starred; rw [hx]; rfl
    rw [hs] at h2
    unfold AOper.run at h2
    rw [if_pos hw, hx] at h2
    simp only at h2
    split at h2
    · injection h2 with h2; injection h2 with _ h2; rw [← h2, AHeap.next_alloc]; omega
    · cases h2
  rcases Nat.lt_trichotomy A.length C.length with hlt | heq | hlt
  · obtain ⟨H1, e1, h1, h2⟩ := R.at_next h ha h' hc hlt
    have := grows h ha hx hw h1
    omega
  · exfalso
    have := List.append_inj (h.symm.trans h') heq
    injection this.2 with h3 _
    exact hne (by rw [h3])
  · obtain ⟨H1, e1, h1, h2⟩ := R.at_next h' hc h ha hlt
    have := grows h' hc hy hw' h1
    omega
theorem at_next_ge {A : List AOper} {e : Env} {H : AHeap} (ha : R.At A e H) : R.H0.next ≤ H.next := runOps_next R.hmono ha

theorem valS_add {S : Nat → Prop} {A : List AOper} {o : AOper} {B : List AOper} (h : R.L0 = A ++ o :: B) (x : Nat) : R.valS (fun j => S j ∨ j = o.ix) x = if o.dst = some x then Env.get R.eF x else R.valS S x := by
  have hoL : o ∈ R.L0 := by rw [h]; simp
  split
  · rename_i hd; exact R.valS_in hoL hd (.inr rfl)
  · rename_i hd
    by_cases hw : ∃ w ∈ R.L0, w.dst = some x ∧ S w.ix
    · obtain ⟨w, hw1, hw2, hw3⟩ := hw
      rw [R.valS_in hw1 hw2 hw3]
      exact R.valS_in (S := fun j => S j ∨ j = o.ix) hw1 hw2 (.inl hw3)
    · rw [R.valS_out (fun w h1 h2 h3 => hw ⟨w, h1, h2, h3⟩), R.valS_out (fun w h1 h2 h3 => ?_)]
      rcases h3 with h3 | h3
      · exact hw ⟨w, h1, h2, h3⟩
      · exact hd (by rw [← nodup_inj R.hnd h1 hoL h3]; exact h2)
theorem env_add {S : Nat → Prop} {a : Act} {m m' : Inj} (hm : m.le m') (hsz : a.tmps.size = N) (henv : ∀ x, VR m (R.valS S x) (a.tmps.getD x undef)) {A : List AOper} {o : AOper} {B : List AOper} (h : R.L0 = A ++ o :: B) {v : AV} {c : Value} (hv : VR m' v c)
    (hd : ∀ d, o.dst = some d → Env.get R.eF d = v ∧ d < N) : ∀ x, VR m' (R.valS (fun j => S j ∨ j = o.ix) x) ((a.put o.dst c).tmps.getD x undef) := by
  intro x
  rw [R.valS_add h, put_getD]
  by_cases hx : o.dst = some x
  · obtain ⟨h1, h2⟩ := hd x hx
    rw [if_pos hx, if_pos ⟨hx, by omega⟩, h1]; exact hv
  · rw [if_neg hx, if_neg (fun k => hx k.1)]; exact (henv x).mono hm

/-- Behind a call or a store: what may go from then on. -/
theorem advance {S : Nat → Prop} {a1 : Act} {W W1 : World} {L1 : List AOper} {o : AOper} {L2 : List AOper} {eX : Env} {HX H1 : AHeap} {m m1 : Inj} {v : AV} {a : Act} (hI : R.Inv S a W L1 (o :: L2) eX HX m)
    (hstar : (starred R.masks L1 o).run cl eX HX = some (Env.put eX o.dst v, H1)) (hP : Post P gl base m HX W m1 H1 W1) (hclos : Closed R.opsA.toList (fun j => S j ∨ j = o.ix)) (heff : o.op.eff = true)
    (hsz : a1.tmps.size = N) (hdf : a1.defers = R.ds) (henv : ∀ x, VR m1 (R.valS (fun j => S j ∨ j = o.ix) x) (a1.tmps.getD x undef))
    (hreads : ∀ A p B r eo Ho, R.L0 = A ++ p :: B → p ∈ L1 → ¬ S p.ix → p.op = .r r → r.pure = false → R.At A eo Ho → want eo p.guard = true → ∃ v, r.run H1 eo = some v ∧ ∀ d, p.dst = some d → Env.get R.eF d = v) :
    ∃ L1' L2' eX' HX', R.Inv (fun j => S j ∨ j = o.ix) a1 W1 L1' L2' eX' HX' m1 := by
  obtain ⟨seg, L2', hseg, hne, hhead⟩ := segSplit L2
  have hL : R.L0 = L1 ++ o :: L2 := hI.hL
  have hL' : R.L0 = (L1 ++ o :: seg) ++ L2' := by rw [hL, hseg]; simp
  have hat1 : R.At (L1 ++ [o]) (Env.put eX o.dst v) H1 := by
    unfold At
    have := hI.hat
    unfold At at this
    rw [withEcho_append, runOps_append, this]
    simp only [List.nil_append, withEcho_cons, runOps, hstar]
    rfl
  obtain ⟨e2, H2, hat2, hrest2⟩ := R.at_split hL'
  have hsegrun : runOps cl (withEcho R.masks (L1 ++ [o]) seg) (Env.put eX o.dst v) H1 = some (e2, H2) := by
    have h1 := hat2
    have h2 := hat1
    unfold At at h1 h2
    rw [show L1 ++ o :: seg = (L1 ++ [o]) ++ seg by simp, withEcho_append, runOps_append, h2] at h1
    simpa using h1
  obtain ⟨sr2, sub2, next2⟩ := noeff_run R.masks seg (L1 ++ [o]) _ _ _ _ hne hP.sr hsegrun
  have hn := R.hnd
  rw [hL] at hn
  obtain ⟨hn1, hn2, _⟩ := nodup_split hn
  -- what stands in the new piece
  have inSeg : ∀ {A : List AOper} {p : AOper} {B : List AOper} {ep : Env} {Hp : AHeap}, R.L0 = A ++ p :: B → p ∈ seg → R.At A ep Hp →
      Hp.sub H2 ∧ (∃ v Hp', p.run cl ep Hp = some (Env.put ep p.dst v, Hp') ∧ Hp'.sub H2 ∧ H1.next ≤ Hp.next ∧ (∀ d, p.dst = some d → Env.get R.eF d = v)) := by
    intro A p B ep Hp hA hp hAt
    obtain ⟨s1, s2, hs⟩ := List.append_of_mem hp
    have hsp : R.L0 = (L1 ++ o :: s1) ++ p :: (s2 ++ L2') := by rw [hL', hs]; simp
    have hnn := R.hnd
    rw [hA] at hnn
    obtain ⟨rfl, rfl⟩ := split_uniq hnn (hA.symm.trans hsp)
    obtain ⟨v', Hp', hst, hat', hd'⟩ := R.stepAt hA hAt
    have hs' : starred R.masks (L1 ++ o :: s1) p = p := by unfold starred; rw [hne p hp]; rfl
    rw [hs'] at hst
    have r1 : runOps cl (withEcho R.masks (L1 ++ [o]) s1) (Env.put eX o.dst v) H1 = some (ep, Hp) := by
      have h1 := hAt; have h2 := hat1
      unfold At at h1 h2
      rw [show L1 ++ o :: s1 = (L1 ++ [o]) ++ s1 by simp, withEcho_append, runOps_append, h2] at h1
      simpa using h1
    obtain ⟨srp, subp, nextp⟩ := noeff_run R.masks s1 (L1 ++ [o]) _ _ _ _ (fun q hq => hne q (by rw [hs]; simp [hq])) hP.sr r1
    have r2 : runOps cl (withEcho R.masks (L1 ++ o :: s1) (p :: s2)) ep Hp = some (e2, H2) := by
      have h1 := hat2; have h2 := hAt
      unfold At at h1 h2
      rw [hs, show L1 ++ o :: (s1 ++ p :: s2) = (L1 ++ o :: s1) ++ (p :: s2) by simp, withEcho_append, runOps_append, h2] at h1
      simpa using h1
    obtain ⟨_, sub3, _⟩ := noeff_run R.masks (p :: s2) (L1 ++ o :: s1) _ _ _ _ (fun q hq => hne q (by rw [hs]; simp only [List.mem_append]; exact .inr hq)) srp r2
    refine ⟨sub3, v', Hp', hst, ?_, nextp, hd'⟩
    rw [withEcho_cons, hs', runOps, hst] at r2
    simp only at r2
    have srp' : SR P gl base m1 Hp' W1 := by
      have : runOps cl (withEcho R.masks (L1 ++ o :: s1) [p]) ep Hp = some (Env.put ep p.dst v', Hp') := by
        rw [withEcho_cons, hs', runOps, hst]; rfl
      exact (noeff_run R.masks [p] _ _ _ _ _ (fun q hq => by simp at hq; subst hq; exact hne _ hp) srp this).1
    exact (noeff_run R.masks s2 _ _ _ _ _ (fun q hq => hne q (by rw [hs]; simp [hq])) srp' r2).2.1
  refine ⟨L1 ++ o :: seg, L2', e2, H2, ⟨hL', hat2, hrest2, hhead, fun q hq he => ?_, fun q hq hl hS => ?_, hclos, ⟨Inj.le_trans hI.post.le hP.le, sr2, hI.post.below.trans hP.below, by have := hI.post.next; have := hP.next; omega, fun b hb hmb => ?_⟩, hsz, hdf, henv, ?_, ?_⟩⟩
  · simp only [List.mem_append, List.mem_cons] at hq
    rcases hq with hq | rfl | hq
    · exact .inl (hI.effs q hq he)
    · exact .inr rfl
    · rw [hne q hq] at he; cases he
  · have hqr : q ∈ L2 := by rw [hseg]; simp [hq]
    rcases hS with hS | hS
    · exact hI.l2 q (by simp [hqr]) hl hS
    · exact hn2 q hqr hS
  · obtain ⟨h1, h2⟩ := hI.post.rest b hb hmb
    obtain ⟨h3, h4⟩ := hP.rest b (Nat.lt_of_lt_of_le hb hI.post.next) h1
    refine ⟨h3, ?_⟩
    -- below the first block nothing is made
    have hlt : b < H1.next := by have := hI.post.next; have := hP.next; omega
    have keep : ∀ (L E : List AOper) (e e' : Env) (H H' : AHeap), (∀ o ∈ L, o.op.eff = false) → runOps cl (withEcho R.masks E L) e H = some (e', H') → b < H.next → H'.get b = H.get b := by
      intro L
      induction L with
      | nil => intro E e e' H H' _ hr _; simp only [withEcho, runOps] at hr; injection hr with hr; injection hr with _ hr; rw [hr]
      | cons q L ih =>
        intro E e e' H H' hne' hr hb'
        rw [withEcho_cons, runOps] at hr
        split at hr
        · rename_i e1 Hq hq
          have hq' : starred R.masks E q = q := by unfold starred; rw [hne' q (by simp)]; rfl
          rw [hq'] at hq
          have k : Hq.get b = H.get b ∧ H.next ≤ Hq.next := by
            unfold AOper.run at hq
            split at hq
            · split at hq
              · split at hq
                · injection hq with hq; injection hq with _ hq; subst hq; exact ⟨rfl, Nat.le_refl _⟩
                · cases hq
              · split at hq
                · injection hq with hq; injection hq with _ hq; subst hq
                  exact ⟨by rw [AHeap.get_alloc, if_neg (by omega)], by rw [AHeap.next_alloc]; omega⟩
                · cases hq
              · rename_i hx; have := hne' q (by simp); rw [hx] at this; cases this
            · injection hq with hq; injection hq with _ hq; subst hq; exact ⟨rfl, Nat.le_refl _⟩
          rw [ih (E ++ [q]) e1 e' Hq H' (fun p hp => hne' p (by simp [hp])) hr (by omega)]
          exact k.1
        · cases hr
    rw [keep seg (L1 ++ [o]) _ _ _ _ hne hsegrun hlt, h4, h2]
  · intro A p B r eo Ho hA hp hS hop hpu hAt hw
    simp only [List.mem_append, List.mem_cons] at hp
    have hS' : ¬ S p.ix := fun h => hS (.inl h)
    rcases hp with hp | rfl | hp
    · obtain ⟨v', h1, h2⟩ := hreads A p B r eo Ho hA hp hS' hop hpu hAt hw
      exact ⟨v', ROp.run_mono sub2 h1, h2⟩
    · exact absurd (.inr rfl) hS
    · obtain ⟨hsub, v', Hp', hrun, _, _, hd⟩ := inSeg hA hp hAt
      unfold AOper.run at hrun
      rw [if_pos hw, hop] at hrun
      simp only at hrun
      split at hrun
      · rename_i w hrw
        injection hrun with hrun; injection hrun with h1 h2
        refine ⟨w, ROp.run_mono hsub hrw, fun d hdd => ?_⟩
        rw [hd d hdd]
        have := congrArg (fun e => Env.get e d) h1
        simp only [Env.get_put, if_pos hdd] at this
        exact this.symm
      · cases hrun
  · intro A p B x eo Ho hA hp hS hop hAt hw
    simp only [List.mem_append, List.mem_cons] at hp
    have hS' : ¬ S p.ix := fun h => hS (.inl h)
    rcases hp with hp | rfl | hp
    · obtain ⟨obj, k, h1, h2, h3, h4⟩ := hI.allocs A p B x eo Ho hA hp hS' hop hAt hw
      have hlt : Ho.next < HX.next := by
        apply Nat.lt_of_not_le; intro hle
        rw [(hI.post.sr.fresh _ hle)] at h2; cases h2
      obtain ⟨h5, h6⟩ := hP.rest _ hlt h3
      exact ⟨obj, k, h1, sub2 _ _ (by rw [h6]; exact h2), h5, h4⟩
    · rw [hop] at heff; cases heff
    · obtain ⟨hsub, v', Hp', hrun, hsub', hnx, hd⟩ := inSeg hA hp hAt
      unfold AOper.run at hrun
      rw [if_pos hw, hop] at hrun
      simp only at hrun
      split at hrun
      · rename_i obj k hrw
        injection hrun with hrun; injection hrun with h1 h2
        refine ⟨obj, k, hrw, hsub' _ _ (by rw [← h2, AHeap.get_alloc, if_pos rfl]), ?_, fun d hdd => ?_⟩
        · cases hm1 : m1 Ho.next with
          | none => rfl
          | some L => have := hP.sr.dom _ _ hm1; omega
        · rw [hd d hdd]
          have := congrArg (fun e => Env.get e d) h1
          simp only [Env.get_put, if_pos hdd] at this
          exact this.symm
      · cases hrun
end RC
end Go.Proofs.YtdkpmlhbofgfdaaGreatDoor.AM
namespace Go.Proofs.YtdkpmlhbofgfdaaGreatDoor.AM
open Go Go.RowKit

theorem want_congr {e e' : Env} {g : Option (Nat × Bool)} (h : ∀ t b, g = some (t, b) → Env.get e t = Env.get e' t) : want e g = want e' g := by
  cases g with
  | none => rfl
  | some p => obtain ⟨t, b⟩ := p; simp only [want, h t b rfl]
theorem echo_mem {H : AHeap} {e : Env} : ∀ {l : List Echo}, echoOk H e l = true → ∀ x ∈ l, want e x.guard = true → ∃ v, x.op.run H e = some v ∧ ∀ d, x.dst = some d → Env.get e d = v
  | [], _, x, hx, _ => by simp at hx
  | y :: l, h, x, hx, hw => by
    simp only [echoOk, Bool.and_eq_true] at h
    rcases List.mem_cons.1 hx with rfl | hx
    · have h1 := h.1
      rw [if_pos hw] at h1
      split at h1
      · rename_i v hv
        refine ⟨v, hv, fun d hd => ?_⟩
        rw [hd] at h1
        exact (AV.same_eq h1).symm
      · cases h1
    · exact echo_mem h.2 x hx hw

namespace RC
variable {P : Program} {gl : List Nat} {base N : Nat} {cl : CallH} (R : RC P gl base N cl)

set_option maxHeartbeats 1000000 in
theorem step {ro : Option Nat} {S : Nat → Prop} {a : Act} {W : World} {L1 L2 : List AOper} {eX : Env} {HX : AHeap} {m : Inj} (hI : R.Inv S a W L1 L2 eX HX m) {i : Nat} (hi : i < R.opsA.size) (hno : ¬ S i)
    (hready : ∀ q, R.opsA.toList[i]? = some q → ∀ j ∈ edges q, S j) {K : Act → World → Prop} {Q : Exit → Act → World → Prop}
    (hK : ∀ a' W' L1' L2' eX' HX' m', R.Inv (fun j => S j ∨ j = i) a' W' L1' L2' eX' HX' m' → K a' W') : wpOpIn (WF ro) 0 P R.opsA Q i K a W := by
  obtain ⟨o, hoL, rfl⟩ := R.hall i hi
  obtain ⟨A, B, hA⟩ := List.append_of_mem hoL
  obtain ⟨eo, Ho, hat, _⟩ := R.at_split hA
  obtain ⟨v, Ho', hst, hat', hdv⟩ := R.stepAt hA hat
  obtain ⟨q, hq, hop, hgd, hix, hdst, hecho, hN⟩ := coper_inv (R.hco o hoL)
  have hq' : R.opsA[o.ix]? = some q := by simpa using hq
  have hclos : Closed R.opsA.toList (fun j => S j ∨ j = o.ix) := by
    intro j p hp hj k hk
    rcases hj with hj | rfl
    · exact .inl (hI.clos j p hp hj k hk)
    · exact .inl (hready p hp k hk)
  have hgl : ∀ g ∈ gl, g < 999999 → m g = some ⟨g, 0, 0, 0⟩ := gl_mono R.hgl hI.post.le
  have hopn : ∀ t ∈ usesOf R.opsA.toList o.ix, VR m (Env.get eo t) (a.tmps.getD t undef) := fun t ht => by
    rw [← R.opnd hI.clos hA hno hready hat ht]; exact hI.env t
  have huse : usesOf R.opsA.toList o.ix = opTmps q ++ (match o.guard with | some (t, _) => [t] | none => []) := by
    unfold usesOf; rw [hq]
    simp only [hgd]
    cases o.guard with
    | none => rfl
    | some p => obtain ⟨t, b⟩ := p; rfl
  have htr : TR m eo a (opTmps q) := fun t ht => hopn t (by rw [huse]; simp [ht])
  have hw := want_sim (e := eo) (a := a) (m := m) hgd (fun t b hg => hopn t (by rw [huse, hg]; simp))
  have hn := R.hnd
  have hnA := hn
  rw [hA] at hnA
  obtain ⟨hn1, hn2, _⟩ := nodup_split hnA
  have hdN : ∀ d, o.dst = some d → d < N := fun d hd => hN d (by rw [← hdst]; exact hd)
  -- which piece it stands in
  have side : o ∈ L1 ∨ (∃ r, L2 = o :: r) ∨ (o ∈ L2 ∧ o.op.loud = false) := by
    have : o ∈ L1 ++ L2 := by rw [← hI.hL]; exact hoL
    rcases List.mem_append.1 this with h1 | h1
    · exact .inl h1
    · rcases hI.head with h2 | ⟨p, r, h2, h3⟩
      · rw [h2] at h1; simp at h1
      · by_cases hpo : p = o
        · subst hpo; exact .inr (.inl ⟨r, h2⟩)
        · refine .inr (.inr ⟨h1, ?_⟩)
          cases hl : o.op.loud with
          | false => rfl
          | true =>
            exfalso
            rw [h2] at h1
            have hor : o ∈ r := by rcases List.mem_cons.1 h1 with h | h; exact absurd h.symm hpo; exact h
            obtain ⟨s1, s2, hs⟩ := List.append_of_mem hor
            have hsp : R.L0 = (L1 ++ p :: s1) ++ o :: s2 := by rw [hI.hL, h2, hs]; simp
            have hb := (R.ordAt hsp).loud hl p (by simp) h3
            have hSp : S p.ix := by
              rcases bef_sound hclos hb (.inr rfl) with h | h
              · exact h
              · exfalso
                have hpL : p ∈ R.L0 := by rw [hI.hL, h2]; simp
                exact hpo (nodup_inj hn hpL hoL h)
            exact hI.l2 p (by rw [h2]; simp) (by cases hpe : p.op with | r x => rw [hpe] at h3; cases h3 | a x => rw [hpe] at h3; cases h3 | e x => rfl) hSp
  -- the state goes on with the same pieces
  have stay : ∀ (a' : Act) (W' : World) (m' : Inj), (o ∈ L1 ∨ (o ∈ L2 ∧ o.op.loud = false)) → m.le m' → SR P gl base m' HX W' → BK base W W' → (∀ b, b < R.H0.next → m b = none → m' b = none) → a'.tmps.size = N → a'.defers = R.ds → (∀ x, VR m' (R.valS (fun j => S j ∨ j = o.ix) x) (a'.tmps.getD x undef)) →
      (∀ A p B x eo Ho, R.L0 = A ++ p :: B → p ∈ L1 → ¬ (S p.ix ∨ p.ix = o.ix) → p.op = .a x → R.At A eo Ho → want eo p.guard = true → m Ho.next = none → m' Ho.next = none) → K a' W' := by
    intro a' W' m' hs hPle hPsr hPbel hPrest h1 h2 h3 h4
    refine hK a' W' L1 L2 eX HX m' ⟨hI.hL, hI.hat, hI.hrest, hI.head, fun p hp he => .inl (hI.effs p hp he), fun p hp hl hS => ?_, hclos, ⟨Inj.le_trans hI.post.le hPle, hPsr, hI.post.below.trans hPbel, hI.post.next, fun b hb hm => ?_⟩, h1, h2, h3, ?_, ?_⟩
    · rcases hS with hS | hS
      · exact hI.l2 p hp hl hS
      · have hpL : p ∈ R.L0 := by rw [hI.hL]; simp [hp]
        have := nodup_inj hn hpL hoL hS
        subst this
        rcases hs with hs | ⟨_, hs⟩
        · obtain ⟨C, D, hC⟩ := List.append_of_mem hs
          have h5 := hn
          rw [hI.hL, hC] at h5
          have h6 : nodupIx (C ++ p :: (D ++ L2)) = true := by simpa using h5
          exact (nodup_split h6).2.1 p (by simp [hp]) rfl
        · rw [hs] at hl; cases hl
    · obtain ⟨k1, k2⟩ := hI.post.rest b hb hm
      exact ⟨hPrest b hb k1, k2⟩
    · intro A p B r eo Ho hA hp hS hop hpu hAt hw
      exact hI.reads A p B r eo Ho hA hp (fun h => hS (.inl h)) hop hpu hAt hw
    · intro A p B x eo Ho hA hp hS hop hAt hw
      obtain ⟨obj, k, g1, g2, g3, g4⟩ := hI.allocs A p B x eo Ho hA hp (fun h => hS (.inl h)) hop hAt hw
      exact ⟨obj, k, g1, g2, h4 A p B x eo Ho hA hp hS hop hAt hw g3, g4⟩
  unfold wpOpIn
  rw [hq']
  simp only
  by_cases hwant : Region.wanted q (yielded R.opsA a.tmps) = true
  · rw [if_pos hwant]
    have hweo : want eo o.guard = true := by rw [hw]; exact hwant
    cases hoc : o.op with
    | r r =>
      have hs : starred R.masks A o = o := by unfold starred; rw [hoc]; rfl
      rw [hs] at hst
      unfold AOper.run at hst
      rw [if_pos hweo, hoc] at hst
      simp only at hst
      split at hst
      · rename_i v' hv'
        injection hst with hst; injection hst with hst1 hst2
        have hvv : ∀ d, o.dst = some d → v = v' := fun d hd => by
          have := congrArg (fun e => Env.get e d) hst1
          simp only [Env.get_put, if_pos hd] at this
          exact this.symm
        have hc : cop P gl q.op = some (.r r) := by
          rw [hoc] at hop
          cases hq2 : cop P gl q.op with
          | none => rw [hq2] at hop; cases hop
          | some y => rw [hq2] at hop; simp only [Option.getD_some] at hop; rw [hop]
        have hval : ∃ v'', r.run HX eo = some v'' ∧ ∀ d, o.dst = some d → Env.get R.eF d = v'' := by
          by_cases hpu : r.pure = true
          · exact ⟨v', by rw [← ROp.run_pure (H := Ho) hpu]; exact hv', fun d hd => by rw [hdv d hd, hvv d hd]⟩
          · have hpu : r.pure = false := by simpa using hpu
            rcases side with h1 | ⟨r', h1⟩ | ⟨_, h1⟩
            · exact hI.reads A o B r eo Ho hA h1 hno hoc hpu hat hweo
            · exfalso
              rcases hI.head with h2 | ⟨p, r2, h2, h3⟩
              · rw [h2] at h1; cases h1
              · rw [h2] at h1; injection h1 with h1 _; rw [h1, hoc] at h3; cases h3
            · rw [hoc] at h1; simp only [AOp.loud, Bool.not_eq_false'] at h1; rw [h1] at hpu; cases hpu
        obtain ⟨v'', hr1, hr2⟩ := hval
        obtain ⟨c, h1, h2⟩ := rsim hI.post.sr hc (opRs (e := eo) hgl htr) hr1
        have hside : o ∈ L1 ∨ (o ∈ L2 ∧ o.op.loud = false) := by
          rcases side with h3 | ⟨r', h3⟩ | h3
          · exact .inl h3
          · exfalso
            rcases hI.head with h4 | ⟨p, r2, h4, h5⟩
            · rw [h4] at h3; cases h3
            · rw [h4] at h3; injection h3 with h3 _; rw [h3, hoc] at h5; cases h5
          · exact .inr h3
        refine upon_value h1 (cop_nodefer hc) (stay _ _ m hside (Inj.le_refl m) hI.post.sr (BK.refl _ _) (fun _ _ h => h) (by rw [put_size]; exact hI.size) (by rw [put_defers]; exact hI.defers) ?_ (fun _ _ _ _ _ _ _ _ _ _ _ _ h => h))
        rw [← hdst]
        exact R.env_add (Inj.le_refl m) hI.size hI.env hA h2 (fun d hd => ⟨hr2 d hd, hdN d hd⟩)
      · cases hst
    | a x =>
      have hc : cop P gl q.op = some (.a x) := by
        rw [hoc] at hop
        cases hq2 : cop P gl q.op with
        | none => rw [hq2] at hop; cases hop
        | some y => rw [hq2] at hop; simp only [Option.getD_some] at hop; rw [hop]
      have h1 : o ∈ L1 := by
        rcases side with h3 | ⟨r', h3⟩ | ⟨_, h3⟩
        · exact h3
        · exfalso
          rcases hI.head with h4 | ⟨p, r2, h4, h5⟩
          · rw [h4] at h3; cases h3
          · rw [h4] at h3; injection h3 with h3 _; rw [h3, hoc] at h5; cases h5
        · rw [hoc] at h3; cases h3
      obtain ⟨obj, k, g1, g2, g3, g4⟩ := hI.allocs A o B x eo Ho hA h1 hno hoc hat hweo
      obtain ⟨c, W', L, r1, r2, r3, r4⟩ := asim hI.post.sr (b := Ho.next) hc (opRs (e := eo) hgl htr) g1 g2 g3
      have hle := Inj.le_upd (L := L) g3
      have hge := R.at_next_ge hat
      refine upon_value r1 (cop_nodefer hc) (stay _ _ (m.upd Ho.next L) (.inl h1) hle r2 r4 (fun b hb hm => ?_) (by rw [put_size]; exact hI.size) (by rw [put_defers]; exact hI.defers) ?_ ?_)
      · unfold Inj.upd; rw [if_neg (by omega)]; exact hm
      · rw [← hdst]
        exact R.env_add hle hI.size hI.env hA r3 (fun d hd => ⟨g4 d hd, hdN d hd⟩)
      · intro A' p B' x' eo' Ho' hA' hp hS hop' hAt' hw' hm'
        have hne : o.ix ≠ p.ix := fun e => hS (.inr e.symm)
        have := R.alloc_ne hA hat hoc hweo hA' hAt' hop' hw' hne
        unfold Inj.upd; rw [if_neg (fun e => this e.symm)]; exact hm'
    | e x =>
      have hL2 : ∃ r, L2 = o :: r := by
        rcases side with h3 | h3 | ⟨_, h3⟩
        · exact absurd (hI.effs o h3 (by rw [hoc]; rfl)) hno
        · exact h3
        · rw [hoc] at h3; cases h3
      obtain ⟨r, rfl⟩ := hL2
      obtain ⟨rfl, rfl⟩ := split_uniq hnA (hA.symm.trans hI.hL)
      obtain ⟨rfl, rfl⟩ := R.at_uniq hat hI.hat
      have hst' := hst
      unfold AOper.run at hst
      rw [starred_guard, starred_op, starred_dst, if_pos hweo, hoc] at hst
      simp only at hst
      split at hst
      · rename_i v' H2 hx
        split at hst
        · rename_i hec
          injection hst with hst; injection hst with hst1 hst2
          subst hst2
          have hvv : ∀ d, o.dst = some d → v = v' := fun d hd => by
            have := congrArg (fun e => Env.get e d) hst1
            simp only [Env.get_put, if_pos hd] at this
            exact this.symm
          rw [hoc] at hop
          have hecho2 : (starred R.masks A o).echo = echoOf R.masks A o := by unfold starred; rw [hoc]; rfl
          rw [hecho2] at hec
          refine eff_wp R.hcl hgl hI.post.sr hop htr hx (fun c W' m' h1 h2 => ?_)
          have henv2 := R.env_add (S := S) (a := a) h1.le hI.size hI.env hA h2 (fun d hd => ⟨by rw [hdv d hd, hvv d hd], hdN d hd⟩)
          obtain ⟨L1', L2', eX', HX', hI'⟩ := R.advance (a1 := a.put q.dst c) (W1 := W') (H1 := H2) (v := v) hI hst' h1 hclos (by rw [hoc]; rfl) (by rw [put_size]; exact hI.size) (by rw [put_defers]; exact hI.defers) (by rw [← hdst]; exact henv2) (by
            intro A' p B' r' eo' Ho' hA' hp hS hop' hpu hAt' hw'
            obtain ⟨v2, q1, q2⟩ := hI.reads A' p B' r' eo' Ho' hA' hp hS hop' hpu hAt' hw'
            -- the look behind the call
            have hpL : p ∈ R.L0 := by rw [hA']; simp
            have hnb : bef R.masks o.ix p.ix = false := by
              cases hb : bef R.masks o.ix p.ix with
              | false => rfl
              | true =>
                exfalso
                rcases bef_sound hclos hb (.inr rfl) with h | h
                · exact hS h
                · exact hn1 p hp h
            have hstr := ((R.ordAt hA).reads (by rw [hoc]; rfl) p hp r' hop' hpu).resolve_left (by rw [hnb]; simp)
            unfold strictOk at hstr
            simp only [List.all_eq_true, List.mem_append, Bool.or_eq_true, bne_iff_ne, ne_eq, Bool.and_eq_true] at hstr
            have same : ∀ t, (t ∈ r'.tmps ∨ t ∈ (match p.guard with | some (t, _) => [t] | none => [] : List Nat)) → Env.get eo' t = Env.get eo t := by
              intro t ht
              by_cases hwr : ∃ w ∈ R.L0, w.dst = some t
              · obtain ⟨w, hw1, hw2⟩ := hwr
                rcases hstr t ht w hw1 with h | ⟨h3, h4⟩
                · exact absurd hw2 h
                · have hwA' := R.before_mem hA' hw1 h4
                  rw [R.env_in hA' hAt' hwA' hw2]
                  -- it stands ahead of the call, too
                  have hwA : w ∈ A := by
                    obtain ⟨C, D, hC⟩ := List.append_of_mem hp
                    have hspp : R.L0 = C ++ p :: (D ++ o :: B) := by rw [hA, hC]; simp
                    have := R.before_mem hspp hw1 h4
                    rw [hC]; simp [this]
                  exact (R.env_in hA hat hwA hw2).symm
              · rw [R.env_out hAt' (fun w hwA hd => hwr ⟨w, by rw [hA']; simp [hwA], hd⟩), R.env_out hat (fun w hwA hd => hwr ⟨w, by rw [hA]; simp [hwA], hd⟩)]
            have hmem : ({ dst := p.dst, guard := p.guard, op := r' } : Echo) ∈ echoOf R.masks A o := by
              unfold echoOf
              rw [List.mem_filterMap]
              refine ⟨p, hp, ?_⟩
              rw [hop']
              have : (R.masks.getD o.ix 0).testBit p.ix = false := hnb
              simp only [hpu, Bool.not_false, this, Bool.and_self, if_true]
            have hwe : want eo p.guard = true := by
              rw [← hw']
              exact want_congr (fun t b hg => (same t (.inr (by rw [hg]; simp))).symm)
            obtain ⟨v3, q3, q4⟩ := echo_mem hec _ hmem hwe
            refine ⟨v3, by rw [ROp.run_congr (fun t ht => same t (.inl ht))]; exact q3, fun d hd => ?_⟩
            rw [← q4 d hd]
            exact (R.env_in hA hat hp hd).symm)
          exact hK _ _ _ _ _ _ _ hI'
        · cases hst
      · cases hst
  · rw [if_neg hwant]
    refine ⟨fun _ _ => trivial, ?_⟩
    have hweo : want eo o.guard = false := by rw [hw]; simpa using hwant
    have hund : ∀ d, o.dst = some d → Env.get R.eF d = .undef := fun d hd => by
      rw [hdv d hd]
      unfold AOper.run at hst
      rw [starred_guard, starred_dst, if_neg (by rw [hweo]; simp)] at hst
      injection hst with hst; injection hst with hst1 hst2
      have := congrArg (fun e => Env.get e d) hst1
      simp only [Env.get_put, if_pos hd] at this
      exact this.symm
    have henv2 := R.env_add (S := S) (a := a) (Inj.le_refl m) hI.size hI.env hA (VR.undef m) (fun d hd => ⟨hund d hd, hdN d hd⟩)
    rcases side with h3 | ⟨r, rfl⟩ | h3
    · refine stay _ _ m (.inl h3) (Inj.le_refl m) hI.post.sr (BK.refl _ _) (fun _ _ h => h) (by rw [put_size]; exact hI.size) (by rw [put_defers]; exact hI.defers) (by rw [← hdst]; exact henv2) (fun _ _ _ _ _ _ _ _ _ _ _ _ h => h)
    · obtain ⟨rfl, rfl⟩ := split_uniq hnA (hA.symm.trans hI.hL)
      obtain ⟨rfl, rfl⟩ := R.at_uniq hat hI.hat
      have heff : o.op.eff = true := by
        rcases hI.head with h4 | ⟨p, r2, h4, h5⟩
        · cases h4
        · injection h4 with h4 _; rw [h4]; exact h5
      have hst' := hst
      unfold AOper.run at hst
      rw [starred_guard, starred_dst, if_neg (by rw [hweo]; simp)] at hst
      injection hst with hst; injection hst with hst1 hst2
      subst hst2
      obtain ⟨L1', L2', eX', HX', hI'⟩ := R.advance (a1 := a.put q.dst undef) (W1 := W) (H1 := Ho) (v := v) hI hst' (Post.refl hI.post.sr) hclos heff (by rw [put_size]; exact hI.size) (by rw [put_defers]; exact hI.defers) (by rw [← hdst]; exact henv2)
        (fun A' p B' r' eo' Ho' hA' hp hS hop' hpu hAt' hw' => hI.reads A' p B' r' eo' Ho' hA' hp hS hop' hpu hAt' hw')
      exact hK _ _ _ _ _ _ _ hI'
    · refine stay _ _ m (.inr h3) (Inj.le_refl m) hI.post.sr (BK.refl _ _) (fun _ _ h => h) (by rw [put_size]; exact hI.size) (by rw [put_defers]; exact hI.defers) (by rw [← hdst]; exact henv2) (fun _ _ _ _ _ _ _ _ _ _ _ _ h => h)
end RC
end Go.Proofs.YtdkpmlhbofgfdaaGreatDoor.AM
