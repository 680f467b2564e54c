/-
  Regions whose order Go leaves open: whatever order is drawn, what the abstract machine says.
-/
import Derived.Test.YtcfjjeipdacbcaaDoorAmReg
set_option linter.unusedSimpArgs false
set_option linter.unusedVariables false
namespace Go.Proofs.YtcfjjeipdacbcaaDoor.AM
open Go Go.RowKit

/-- A region and its run by the abstract machine. -/
structure RC (P : Program) (gl : List Nat) (base N : Nat) (cl : CallH) where
  opsA : Array Oper
  L0 : List AOper
  e0 : Env
  eF : Env
  H0 : AHeap
  HF : AHeap
  m0 : Inj
  W0 : World
  ds : List Deferred
  hcl : CallSim P base gl cl
  hmono : NextMono cl
  hgl : ∀ g ∈ gl, m0 g = some ⟨g, 0, 0, 0⟩
  hco : ∀ o ∈ L0, coper P gl N opsA.toList o.ix = some o
  hedge : edgesOk opsA.toList 0 = true
  hnd : nodupIx L0 = true
  hall : ∀ i, i < opsA.size → ∃ o ∈ L0, o.ix = i
  hdst : ∀ o ∈ L0, ∀ p ∈ L0, o.ix ≠ p.ix → ∀ d, o.dst = some d → p.dst ≠ some d
  htmps : ∀ o ∈ L0, ∀ t ∈ usesOf opsA.toList o.ix, ∀ p ∈ L0, p.ix = o.ix ∨ p.dst ≠ some t ∨ bef (closGo opsA.toList []) o.ix p.ix = true ∨ bef (closGo opsA.toList []) p.ix o.ix = true
  hord : ordOk (closGo opsA.toList []) opsA.size L0 [] L0 = true
  hsr : SR P gl base m0 H0 W0
  hrun : runOps cl (withEcho (closGo opsA.toList []) [] L0) e0 H0 = some (eF, HF)

namespace RC
variable {P : Program} {gl : List Nat} {base N : Nat} {cl : CallH} (R : RC P gl base N cl)
abbrev masks : List Nat := closGo R.opsA.toList []
/-- the run ahead of a place -/
def At (M : List AOper) (e : Env) (H : AHeap) : Prop := runOps cl (withEcho R.masks [] M) R.e0 R.H0 = some (e, H)
theorem at_split {A B : List AOper} (h : R.L0 = A ++ B) : ∃ e H, R.At A e H ∧ runOps cl (withEcho R.masks A B) e H = some (R.eF, R.HF) := by
  have h1 := R.hrun
  rw [h, withEcho_append, runOps_append] at h1
  split at h1
  · rename_i e H h2; exact ⟨e, H, h2, by simpa using h1⟩
  · cases h1
theorem at_uniq {M : List AOper} {e e' : Env} {H H' : AHeap} (h : R.At M e H) (k : R.At M e' H') : e = e' ∧ H = H' := by
  unfold At at h k; rw [h] at k; injection k with k; injection k with k1 k2; exact ⟨k1, k2⟩
theorem mem_dst {A : List AOper} {o : AOper} {B : List AOper} (h : R.L0 = A ++ o :: B) {x : Nat} {w : AOper} (hw : w ∈ A) (hx : w.dst = some x) : ∀ q ∈ o :: B, q.dst ≠ some x := by
  intro q hq
  have hn := R.hnd
  rw [h] at hn
  have hwL : w ∈ R.L0 := by rw [h]; simp [hw]
  have hqL : q ∈ R.L0 := by rw [h]; simp only [List.mem_append]; exact .inr hq
  refine R.hdst w hwL q hqL ?_ x hx
  intro he
  obtain ⟨C, D, rfl⟩ := List.append_of_mem hw
  have h2 : nodupIx (C ++ w :: (D ++ o :: B)) = true := by simpa using hn
  obtain ⟨_, h3, _⟩ := nodup_split h2
  exact h3 q (by simp only [List.mem_append]; exact .inr hq) he.symm
theorem env_in {A : List AOper} {o : AOper} {B : List AOper} (h : R.L0 = A ++ o :: B) {e : Env} {H : AHeap} (ha : R.At A e H) {x : Nat} {w : AOper} (hw : w ∈ A) (hx : w.dst = some x) : Env.get e x = Env.get R.eF x := by
  obtain ⟨e', H', h1, h2⟩ := R.at_split h
  obtain ⟨rfl, rfl⟩ := R.at_uniq ha h1
  refine (runOps_keep h2 (fun p hp => ?_)).symm
  obtain ⟨q, hq, hd⟩ := withEcho_mem _ _ _ hp
  rw [hd]
  exact R.mem_dst h hw hx q hq
theorem env_out {A : List AOper} {e : Env} {H : AHeap} (ha : R.At A e H) {x : Nat} (hx : ∀ w ∈ A, w.dst ≠ some x) : Env.get e x = Env.get R.e0 x := by
  refine runOps_keep ha (fun p hp => ?_)
  obtain ⟨q, hq, hd⟩ := withEcho_mem _ _ _ hp
  rw [hd]; exact hx q hq
theorem ordAt {A : List AOper} {o : AOper} {B : List AOper} (h : R.L0 = A ++ o :: B) : OrdAt R.masks R.opsA.size R.L0 A o := by
  have := ordOk_at (A := A) (o := o) (B := B) R.hord h
  simpa using this
theorem before_mem {A : List AOper} {o : AOper} {B : List AOper} (h : R.L0 = A ++ o :: B) {p : AOper} (hp : p ∈ R.L0) (hb : bef R.masks o.ix p.ix = true) : p ∈ A := by
  obtain ⟨_, ho, _⟩ := coper_inv (R.hco p hp)
  have hlt : p.ix < R.opsA.size := by have := (List.getElem?_eq_some_iff.1 ho).1; simpa using this
  obtain ⟨q, hq, he⟩ := (R.ordAt h).before p.ix hlt hb
  have : q = p := nodup_inj R.hnd (by rw [h]; simp [hq]) hp he
  rw [← this]; exact hq

open Classical in
/-- what a slot holds when so much has been done -/
noncomputable def valS (S : Nat → Prop) (x : Nat) : AV := if ∃ w ∈ R.L0, w.dst = some x ∧ S w.ix then Env.get R.eF x else Env.get R.e0 x
theorem valS_in {S : Nat → Prop} {x : Nat} {w : AOper} (hw : w ∈ R.L0) (hx : w.dst = some x) (hs : S w.ix) : R.valS S x = Env.get R.eF x := by unfold valS; rw [if_pos ⟨w, hw, hx, hs⟩]
theorem valS_out {S : Nat → Prop} {x : Nat} (h : ∀ w ∈ R.L0, w.dst = some x → ¬ S w.ix) : R.valS S x = Env.get R.e0 x := by unfold valS; rw [if_neg]; rintro ⟨w, hw, hx, hs⟩; exact h w hw hx hs

/-- An operation that may go now looks at what the machine's own run looked at. -/
theorem opnd {S : Nat → Prop} (hS : Closed R.opsA.toList S) {A : List AOper} {o : AOper} {B : List AOper} (h : R.L0 = A ++ o :: B) (hno : ¬ S o.ix) (hready : ∀ q, R.opsA.toList[o.ix]? = some q → ∀ j ∈ edges q, S j)
    {e : Env} {H : AHeap} (ha : R.At A e H) {t : Nat} (ht : t ∈ usesOf R.opsA.toList o.ix) : R.valS S t = Env.get e t := by
  have hoL : o ∈ R.L0 := by rw [h]; simp
  have hS' : Closed R.opsA.toList (fun i => S i ∨ i = o.ix) := by
    intro i q hq hi j hj
    rcases hi with hi | rfl
    · exact .inl (hS i q hq hi j hj)
    · exact .inl (hready q hq j hj)
  by_cases hw : ∃ w ∈ R.L0, w.dst = some t
  · obtain ⟨w, hwL, hwd⟩ := hw
    have uniq : ∀ w' ∈ R.L0, w'.dst = some t → w' = w := fun w' hw' hd' => by
      by_cases he : w'.ix = w.ix
      · exact nodup_inj R.hnd hw' hwL he
      · exact absurd hwd (R.hdst w' hw' w hwL he t hd')
    rcases R.htmps o hoL t ht w hwL with h1 | h1 | h1 | h1
    · have hwo : w = o := nodup_inj R.hnd hwL hoL h1
      subst hwo
      rw [R.valS_out (fun w' hw' hd' => by rw [uniq w' hw' hd']; exact hno)]
      refine (R.env_out ha (fun q hq hd => ?_)).symm
      have := uniq q (by rw [h]; simp [hq]) hd
      subst this
      have hn := R.hnd; rw [h] at hn
      exact (nodup_split hn).1 q hq rfl
    · exact absurd hwd h1
    · have hSw : S w.ix := by
        rcases bef_sound hS' h1 (.inr rfl) with h2 | h2
        · exact h2
        · exfalso
          have hwo : w = o := nodup_inj R.hnd hwL hoL h2
          have := R.before_mem h hwL h1
          subst hwo
          have hn := R.hnd; rw [h] at hn
          exact (nodup_split hn).1 w this rfl
      rw [R.valS_in hwL hwd hSw]
      exact (R.env_in h ha (R.before_mem h hwL h1) hwd).symm
    · have hSw : ¬ S w.ix := fun hs => hno (bef_sound hS h1 hs)
      rw [R.valS_out (fun w' hw' hd' => by rw [uniq w' hw' hd']; exact hSw)]
      refine (R.env_out ha (fun q hq hd => ?_)).symm
      have hqw := uniq q (by rw [h]; simp [hq]) hd
      subst hqw
      obtain ⟨C, D, hCD⟩ := List.append_of_mem hq
      have hsp : R.L0 = C ++ q :: (D ++ o :: B) := by rw [h, hCD]; simp
      have hoC := R.before_mem hsp hoL h1
      have hn := R.hnd; rw [h, hCD] at hn
      have hn' : nodupIx ((C ++ q :: D) ++ o :: B) = true := hn
      exact (nodup_split hn').1 o (by simp [hoC]) rfl
  · rw [R.valS_out (fun w hwA hd => absurd ⟨w, hwA, hd⟩ hw), R.env_out ha (fun w hwA hd => hw ⟨w, by rw [h]; simp [hwA], hd⟩)]

/-- How far a drawn order has come. -/
structure Inv (S : Nat → Prop) (a : Act) (W : World) (L1 L2 : List AOper) (eX : Env) (HX : AHeap) (m : Inj) : Prop where
  hL : R.L0 = L1 ++ L2
  hat : R.At L1 eX HX
  hrest : runOps cl (withEcho R.masks L1 L2) eX HX = some (R.eF, R.HF)
  head : L2 = [] ∨ ∃ o r, L2 = o :: r ∧ o.op.eff = true
  effs : ∀ o ∈ L1, o.op.eff = true → S o.ix
  l2 : ∀ o ∈ L2, o.op.loud = true → ¬ S o.ix
  clos : Closed R.opsA.toList S
  post : Post P gl base R.m0 R.H0 R.W0 m HX W
  size : a.tmps.size = N
  defers : a.defers = R.ds
  env : ∀ x, VR m (R.valS S x) (a.tmps.getD x undef)
  reads : ∀ A o B r eo Ho, R.L0 = A ++ o :: B → o ∈ L1 → ¬ S o.ix → o.op = .r r → r.pure = false → R.At A eo Ho → want eo o.guard = true → ∃ v, r.run HX eo = some v ∧ ∀ d, o.dst = some d → Env.get R.eF d = v
  allocs : ∀ A o B x eo Ho, R.L0 = A ++ o :: B → o ∈ L1 → ¬ S o.ix → o.op = .a x → R.At A eo Ho → want eo o.guard = true → ∃ obj k, x.run eo = some (obj, k) ∧ HX.get Ho.next = some obj ∧ m Ho.next = none ∧ ∀ d, o.dst = some d → Env.get R.eF d = k.val Ho.next
end RC
end Go.Proofs.YtcfjjeipdacbcaaDoor.AM
