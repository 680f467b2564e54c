/-
  A law's row, out of the abstract machine's run.
-/
import Derived.Test.YtdkpmlhbofgfdaaGreatDoorAmIn
import Derived.Carry
import Derived.ChangeSame
import Derived.ProofKit
import Derived.OpenShut
set_option linter.unusedSimpArgs false
set_option linter.unusedVariables false
namespace Go.Proofs.YtdkpmlhbofgfdaaGreatDoor.AM
open Go Go.RowKit Go.ChangeShapes Go.WideShapes Go.ChangeAt

/-- arguments of types: each its datum and its value -/
def ArgsR (P : Program) (H : AHeap) : List TypeId → List Dt → List AV → Prop
  | [], [], [] => True
  | t :: ts, d :: ds, v :: vs => WT P d t ∧ Rd H d v.cells ∧ (match d with | .agg _ => ∃ cs, v = .agg cs | _ => v.one = true) ∧ ArgsR P H ts ds vs
  | _, _, _ => False
theorem ArgsR.mono {P : Program} {H H' : AHeap} (h : H.sub H') : ∀ {ts : List TypeId} {ds : List Dt} {vs : List AV}, ArgsR P H ts ds vs → ArgsR P H' ts ds vs
  | [], [], [], _ => trivial
  | t :: ts, d :: ds, v :: vs, hh => ⟨hh.1, Rd.mono h d hh.2.1, hh.2.2.1, ArgsR.mono h hh.2.2.2⟩

section
variable {Hh : Type} {enc : TypeId × Value → Hh} {P : Program} {W : World} {gl : List Nat}
theorem arg_in {t : TypeId} {v : Value} {d : DataW Hh} {ps : List MemPlace} {base : Nat} {r : Reach} (hg : goodT P 9 t = true) (hok : Value.okWide P W r base t v) (h : DataW.Trod enc P W 0 (fun _ => true) true t v d ps) (m : Inj) (H : AHeap) (hs : SR P gl W.heap.size m H W) :
    ∃ m' H' av dt, Ext m H m' H' ∧ SR P gl W.heap.size m' H' W ∧ VR m' av v ∧ WT P dt t ∧ Rd H' dt av.cells ∧ (match dt with | .agg _ => ∃ cs, av = .agg cs | _ => av.one = true) := by
  obtain ⟨fuel, hf⟩ := h
  obtain ⟨hin, hlen⟩ := trod_in fuel t _ _ hf 9 hg
  obtain ⟨m', H', avs, dt, e1, s1, l1, r1, w1⟩ := hin m H hs
  have single : ∀ {x : AV}, avs = [x] → x.one = true → (∀ cs, v ≠ .agg cs) → VR m' x v ∧ x.cells = avs := by
    intro x hx ho hv
    subst hx
    have hc : v.cells = #[v] := by cases v <;> first | rfl | exact absurd rfl (hv _)
    rw [hc] at l1
    obtain ⟨c, z, hz, h1, _⟩ := l1.cons_inv
    simp only [List.cons.injEq] at hz
    rw [hz.1]
    refine ⟨h1, ?_⟩
    cases x <;> first | rfl | (simp [AV.one] at ho)
  have notAgg : (∀ fs, P.underlying t ≠ some (.struct fs)) → (∀ k e, P.underlying t ≠ some (.array k e)) → ∀ cs, v ≠ .agg cs := by
    intro h1 h2 cs hv
    subst hv
    unfold goodT at hg
    split at hg
    · rename_i hu; obtain ⟨_, h3⟩ := okWide_bool hu hok; cases h3
    · rename_i hu; obtain ⟨_, h3⟩ := okWide_int hu hok; cases h3
    · rename_i hu; obtain ⟨_, h3⟩ := okWide_string hu hok; cases h3
    · rename_i hu; obtain ⟨_, _, _, h3⟩ := okWide_slice hu hok; cases h3
    · rename_i fs hu; exact h1 _ hu
    · cases hg
  cases dt with
  | bool b =>
    have hu : P.underlying t = some .bool := w1
    obtain ⟨k1, k2⟩ := single r1 rfl (notAgg (by rw [hu]; simp) (by rw [hu]; simp))
    exact ⟨m', H', _, .bool b, e1, s1, k1, w1, by rw [k2]; exact r1, rfl⟩
  | int k z =>
    have hu : P.underlying t = some (.int k) := w1.1
    obtain ⟨k1, k2⟩ := single r1 rfl (notAgg (by rw [hu]; simp) (by rw [hu]; simp))
    exact ⟨m', H', _, .int k z, e1, s1, k1, w1, by rw [k2]; exact r1, rfl⟩
  | str s =>
    have hu : P.underlying t = some .string := w1.1
    obtain ⟨k1, k2⟩ := single r1 rfl (notAgg (by rw [hu]; simp) (by rw [hu]; simp))
    exact ⟨m', H', _, .str s, e1, s1, k1, w1, by rw [k2]; exact r1, rfl⟩
  | nils =>
    obtain ⟨el, hu⟩ : ∃ e, P.underlying t = some (.slice e) := w1
    obtain ⟨k1, k2⟩ := single r1 rfl (notAgg (by rw [hu]; simp) (by rw [hu]; simp))
    exact ⟨m', H', _, .nils, e1, s1, k1, ⟨el, hu⟩, by rw [k2]; exact r1, rfl⟩
  | slc es cap =>
    obtain ⟨el, hu, hrest⟩ := w1
    have r1' := r1
    obtain ⟨b, B, hb, _⟩ := r1
    obtain ⟨k1, k2⟩ := single hb rfl (notAgg (by rw [hu]; simp) (by rw [hu]; simp))
    exact ⟨m', H', _, .slc es cap, e1, s1, k1, ⟨el, hu, hrest⟩, by rw [k2]; exact r1', rfl⟩
  | agg parts =>
    obtain ⟨fs, hu, hrest⟩ := w1
    obtain ⟨cs, rfl, _⟩ := okWide_struct hu hok
    exact ⟨m', H', .agg avs, .agg parts, e1, s1, VR.agg' l1, ⟨fs, hu, hrest⟩, r1, avs, rfl⟩
theorem args_in {base : Nat} {r : Reach} : ∀ {ts : List TypeId} {vs : List Value} {ds : List (DataW Hh)} {ps : List MemPlace}, (∀ t ∈ ts, goodT P 9 t = true) → (∀ (j : Nat) t v, ts[j]? = some t → vs[j]? = some v → Value.okWide P W r base t v) →
    DataW.TrodAll enc P W 0 (fun _ => true) true ts vs ds ps → ∀ (m : Inj) (H : AHeap), SR P gl W.heap.size m H W → ∃ m' H' avs dts, Ext m H m' H' ∧ SR P gl W.heap.size m' H' W ∧ LR m' avs vs ∧ ArgsR P H' ts dts avs
  | [], vs, ds, ps, _, _, h, m, H, hs => by
    obtain ⟨rfl, _, _⟩ := trodAll_nil h
    exact ⟨m, H, [], [], Ext.refl m H, hs, LR.nil m, trivial⟩
  | t :: ts, vs, ds, ps, hg, hok, h, m, H, hs => by
    obtain ⟨v, vs', d, ds', p, q, rfl, rfl, rfl, h0, h1⟩ := trodAll_cons h
    obtain ⟨m1, H1, av, dt, e1, s1, v1, w1, r1, a1⟩ := arg_in (hg t (by simp)) (hok 0 t v rfl rfl) h0 m H hs
    obtain ⟨m2, H2, avs, dts, e2, s2, l2, r2⟩ := args_in (fun t ht => hg t (by simp [ht])) (fun j t v h1 h2 => hok (j + 1) t v (by simpa using h1) (by simpa using h2)) h1 m1 H1 s1
    exact ⟨m2, H2, av :: avs, dt :: dts, e1.trans e2, s2, LR.cons (v1.mono e2.le) l2, w1, Rd.mono e2.sub dt r1, a1, r2⟩
theorem all_stays (hl : laidOutB P = true) {W' : World} (hb : Below W.heap.size W W') {sp : Nat → Bool} : ∀ {ts : List TypeId} {vs : List Value} {ds : List (DataW Hh)} {ps : List MemPlace}, (∀ t ∈ ts, P.readableRec t = true ∧ t < P.types.size) →
    DataW.TrodAll enc P W 0 (fun _ => true) true ts vs ds ps → (∀ p ∈ ps, p.block < W.heap.size) → (∀ p ∈ ps, sp p.block = true) → DataW.TrodAll enc P W' 0 sp true ts vs ds ps
  | [], vs, ds, ps, _, h, _, _ => by obtain ⟨rfl, rfl, rfl⟩ := trodAll_nil h; exact trodAll_mk0
  | t :: ts, vs, ds, ps, hr, h, hlt, hsp => by
    obtain ⟨v, vs', d, ds', p, q, rfl, rfl, rfl, h0, h1⟩ := trodAll_cons h
    exact trodAll_cons_mk (WideElems.Trod_stays hl (hr t (by simp)).1 (hr t (by simp)).2 h0 (fun x hx => hb.same (hlt x (by simp [hx]))) (fun x hx => hsp x (by simp [hx])))
      (all_stays hl hb (fun t ht => hr t (by simp [ht])) h1 (fun x hx => hlt x (by simp [hx])) (fun x hx => hsp x (by simp [hx])))

/-- does a run return true? -/
def isTrue : Option (AV × AHeap) → Bool
  | some (.bool true, _) => true
  | _ => false
theorem isTrue_some {r : Option (AV × AHeap)} (h : isTrue r = true) : ∃ H', r = some (.bool true, H') := by
  unfold isTrue at h
  split at h
  · exact ⟨_, rfl⟩
  · cases h
/-- one call that is known -/
def sameArgs : List AV → List AV → Bool
  | [], [] => true
  | x :: xs, y :: ys => AV.same1 x y && sameArgs xs ys
  | _, _ => false
theorem same1_eq {x y : AV} (h : AV.same1 x y = true) : x = y := by
  cases x <;> cases y <;> simp_all [AV.same1]
theorem sameArgs_eq : ∀ {x y : List AV}, sameArgs x y = true → x = y
  | [], [], _ => rfl
  | x :: xs, y :: ys, h => by
    simp only [sameArgs, Bool.and_eq_true] at h
    rw [same1_eq h.1, sameArgs_eq h.2]
  | [], _ :: _, h => by cases h
  | _ :: _, [], h => by cases h
def one (f : FuncId) (args : List AV) (v : AV) (g : FuncId) (args' : List AV) : Option AV := bif Nat.beq g f && sameArgs args' args then some v else none
theorem one_ok {P : Program} {T : List Tb} {f : FuncId} {args : List AV} {v : AV} (h : OrcOK P T f args v) : ∀ g args' v', one f args v g args' = some v' → OrcOK P T g args' v' := by
  intro g args' v' hh
  unfold one at hh
  cases hc : Nat.beq g f && sameArgs args' args with
  | false => rw [hc] at hh; cases hh
  | true =>
    rw [hc] at hh
    simp only [Bool.and_eq_true] at hc
    rw [Nat.eq_of_beq_eq_true hc.1, sameArgs_eq hc.2]
    simp only [cond_true, Option.some.injEq] at hh
    exact hh ▸ h
end
end Go.Proofs.YtdkpmlhbofgfdaaGreatDoor.AM
