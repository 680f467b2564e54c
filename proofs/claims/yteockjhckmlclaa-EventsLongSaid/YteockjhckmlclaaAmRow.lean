/-
  A law's row, out of the abstract machine's run.
-/
import Derived.Test.YteockjhckmlclaaAmIn
import Derived.Carry
import Derived.ChangeSame
import Derived.ProofKit
import Derived.OpenShut
set_option linter.unusedSimpArgs false
set_option linter.unusedVariables false
namespace Go.Proofs.Yteockjhckmlclaa.AM
open Go Go.RowKit Go.ChangeShapes Go.WideShapes Go.ChangeAt

/-- arguments of types: each its datum and its value -/
def ArgsR (P : Program) (H : AHeap) : List TypeId → List Dt → List AV → Prop
  | [], [], [] => True
  | t :: ts, d :: ds, v :: vs => WT P d t ∧ Rd H d v.cells ∧ (match d with | .agg _ => ∃ cs, v = .agg cs | _ => v.one = true) ∧ ArgsR P H ts ds vs
  | _, _, _ => False
theorem ArgsR.mono {P : Program} {H H' : AHeap} (h : H.sub H') : ∀ {ts : List TypeId} {ds : List Dt} {vs : List AV}, ArgsR P H ts ds vs → ArgsR P H' ts ds vs
  | [], [], [], _ => trivial
  | t :: ts, d :: ds, v :: vs, hh => ⟨hh.1, Rd.mono h d hh.2.1, hh.2.2.1, ArgsR.mono h hh.2.2.2⟩

section
variable {Hh : Type} {enc : TypeId × Value → Hh} {P : Program} {W : World} {gl : List Nat}
theorem arg_in {t : TypeId} {v : Value} {d : DataW Hh} {ps : List MemPlace} {base : Nat} {r : Reach} (hg : goodT P 9 t = true) (hok : Value.okWide P W r base t v) (h : DataW.Trod enc P W 0 (fun _ => true) true t v d ps) (m : Inj) (H : AHeap) (hs : SR P gl W.heap.size m H W) :
    ∃ m' H' av dt, Ext m H m' H' ∧ SR P gl W.heap.size m' H' W ∧ VR m' av v ∧ WT P dt t ∧ Rd H' dt av.cells ∧ (match dt with | .agg _ => ∃ cs, av = .agg cs | _ => av.one = true) := by
  obtain ⟨fuel, hf⟩ := h
  obtain ⟨hin, hlen⟩ := trod_in fuel t _ _ hf 9 hg
  obtain ⟨m', H', avs, dt, e1, s1, l1, r1, w1⟩ := hin m H hs
  have single : ∀ {x : AV}, avs = [x] → x.one = true → (∀ cs, v ≠ .agg cs) → VR m' x v ∧ x.cells = avs := by
    intro x hx ho hv
    subst hx
    have hc : v.cells = #[v] := by cases v <;> first | rfl | exact absurd rfl (hv _)
    rw [hc] at l1
    obtain ⟨c, z, hz, h1, _⟩ := l1.cons_inv
    simp only [List.cons.injEq] at hz
    rw [hz.1]
    refine ⟨h1, ?_⟩
    cases x <;> first | rfl | (simp [AV.one] at ho)
  have notAgg : (∀ fs, P.underlying t ≠ some (.struct fs)) → (∀ k e, P.underlying t ≠ some (.array k e)) → ∀ cs, v ≠ .agg cs := by
    intro h1 h2 cs hv
    subst hv
    unfold goodT at hg
    split at hg
    · rename_i hu; obtain ⟨_, h3⟩ := okWide_bool hu hok; cases h3
    · rename_i hu; obtain ⟨_, h3⟩ := okWide_int hu hok; cases h3
    · rename_i hu; obtain ⟨_, h3⟩ := okWide_string hu hok; cases h3
    · rename_i hu; obtain ⟨_, _, _, h3⟩ := okWide_slice hu hok; cases h3
    · rename_i fs hu; exact h1 _ hu
    · cases hg
  cases dt with
  | bool b =>
    have hu : P.underlying t = some .bool := w1
    obtain ⟨k1, k2⟩ := single r1 rfl (notAgg (by rw [hu]; simp) (by rw [hu]; simp))
    exact ⟨m', H', _, .bool b, e1, s1, k1, w1, by rw [k2]; exact r1, rfl⟩
  | int k z =>
    have hu : P.underlying t = some (.int k) := w1.1
    obtain ⟨k1, k2⟩ := single r1 rfl (notAgg (by rw [hu]; simp) (by rw [hu]; simp))
    exact ⟨m', H', _, .int k z, e1, s1, k1, w1, by rw [k2]; exact r1, rfl⟩
  | str s =>
    have hu : P.underlying t = some .string := w1.1
    obtain ⟨k1, k2⟩ := single r1 rfl (notAgg (by rw [hu]; simp) (by rw [hu]; simp))
    exact ⟨m', H', _, .str s, e1, s1, k1, w1, by rw [k2]; exact r1, rfl⟩
  | nils =>
    obtain ⟨el, hu⟩ : ∃ e, P.underlying t = some (.slice e) := w1
    obtain ⟨k1, k2⟩ := single r1 rfl (notAgg (by rw [hu]; simp) (by rw [hu]; simp))
    exact ⟨m', H', _, .nils, e1, s1, k1, ⟨el, hu⟩, by rw [k2]; exact r1, rfl⟩
  | slc es cap =>
    obtain ⟨el, hu, hrest⟩ := w1
    have r1' := r1
    obtain ⟨b, B, hb, _⟩ := r1
    obtain ⟨k1, k2⟩ := single hb rfl (notAgg (by rw [hu]; simp) (by rw [hu]; simp))
    exact ⟨m', H', _, .slc es cap, e1, s1, k1, ⟨el, hu, hrest⟩, by rw [k2]; exact r1', rfl⟩
  | agg parts =>
    obtain ⟨fs, hu, hrest⟩ := w1
    obtain ⟨cs, rfl, _⟩ := okWide_struct hu hok
    exact ⟨m', H', .agg avs, .agg parts, e1, s1, VR.agg' l1, ⟨fs, hu, hrest⟩, r1, avs, rfl⟩
theorem args_in {base : Nat} {r : Reach} : ∀ {ts : List TypeId} {vs : List Value} {ds : List (DataW Hh)} {ps : List MemPlace}, (∀ t ∈ ts, goodT P 9 t = true) → (∀ (j : Nat) t v, ts[j]? = some t → vs[j]? = some v → Value.okWide P W r base t v) →
    DataW.TrodAll enc P W 0 (fun _ => true) true ts vs ds ps → ∀ (m : Inj) (H : AHeap), SR P gl W.heap.size m H W → ∃ m' H' avs dts, Ext m H m' H' ∧ SR P gl W.heap.size m' H' W ∧ LR m' avs vs ∧ ArgsR P H' ts dts avs
  | [], vs, ds, ps, _, _, h, m, H, hs => by
    obtain ⟨rfl, _, _⟩ := trodAll_nil h
    exact ⟨m, H, [], [], Ext.refl m H, hs, LR.nil m, trivial⟩
  | t :: ts, vs, ds, ps, hg, hok, h, m, H, hs => by
    obtain ⟨v, vs', d, ds', p, q, rfl, rfl, rfl, h0, h1⟩ := trodAll_cons h
    obtain ⟨m1, H1, av, dt, e1, s1, v1, w1, r1, a1⟩ := arg_in (hg t (by simp)) (hok 0 t v rfl rfl) h0 m H hs
    obtain ⟨m2, H2, avs, dts, e2, s2, l2, r2⟩ := args_in (fun t ht => hg t (by simp [ht])) (fun j t v h1 h2 => hok (j + 1) t v (by simpa using h1) (by simpa using h2)) h1 m1 H1 s1
    exact ⟨m2, H2, av :: avs, dt :: dts, e1.trans e2, s2, LR.cons (v1.mono e2.le) l2, w1, Rd.mono e2.sub dt r1, a1, r2⟩
theorem all_stays (hl : laidOutB P = true) {W' : World} (hb : Below W.heap.size W W') {sp : Nat → Bool} : ∀ {ts : List TypeId} {vs : List Value} {ds : List (DataW Hh)} {ps : List MemPlace}, (∀ t ∈ ts, P.readableRec t = true ∧ t < P.types.size) →
    DataW.TrodAll enc P W 0 (fun _ => true) true ts vs ds ps → (∀ p ∈ ps, p.block < W.heap.size) → (∀ p ∈ ps, sp p.block = true) → DataW.TrodAll enc P W' 0 sp true ts vs ds ps
  | [], vs, ds, ps, _, h, _, _ => by obtain ⟨rfl, rfl, rfl⟩ := trodAll_nil h; exact trodAll_mk0
  | t :: ts, vs, ds, ps, hr, h, hlt, hsp => by
    obtain ⟨v, vs', d, ds', p, q, rfl, rfl, rfl, h0, h1⟩ := trodAll_cons h
    exact trodAll_cons_mk (WideElems.Trod_stays hl (hr t (by simp)).1 (hr t (by simp)).2 h0 (fun x hx => hb.same (hlt x (by simp [hx]))) (fun x hx => hsp x (by simp [hx])))
      (all_stays hl hb (fun t ht => hr t (by simp [ht])) h1 (fun x hx => hlt x (by simp [hx])) (fun x hx => hsp x (by simp [hx])))

/-- what a law's run by the abstract machine gives of the model's call -/
theorem law_calls {Q : Prog} (hmix : P.follows .mixedOrders = true) (hQ : ProgOK P [] Q) (hl : laidOutB P = true) {f : FuncId} {fn : Func} {s : ChangeSpec} {tb : TypeId} (hpar : ∀ t ∈ fn.params.toList, goodT P 9 t = true ∧ P.readableRec t = true ∧ t < P.types.size)
    (hres : fn.resultTypes = #[tb]) (htb : P.underlying tb = some .bool) (hvars : s.vars = []) (hfn : ∀ ds : List (DataW Hh), ds.length = fn.params.size → s.fn Hh ds = { results := [.lit (.bool true)], args := ds })
    (run : ∀ (dts : List Dt) (avs : List AV) (H : AHeap), ArgsR P H fn.params.toList dts avs → (∀ b, H.next ≤ b → H.get b = none) → ∃ n H', callF Q n (.fn f) avs H = some (.bool true, H'))
    {base : Nat} {args : Array Value} {ds gs : List (DataW Hh)} {before : List MemPlace} {apart fresh handsOn again : Bool}
    (hval : ∀ (j : Nat) t v, fn.params[j]? = some t → args[j]? = some v → Value.okWide P W .any base t v) (hW : DataW.Whole enc P fn.params.toList s.vars apart W args.toList ds gs before) :
    Calls P f args W fun q W' => ∃ v, q = .returned v ∧ s.post enc P fn apart fresh handsOn again W args v W' := by
  have hW' := hW
  obtain ⟨p, q, hA, hV, rfl, hfz, hnd⟩ := hW
  have hvv := hV
  rw [hvars] at hvv
  obtain ⟨rfl, rfl⟩ := trodVars_none hvv
  have sr0 : SR P [] W.heap.size noInj ⟨0, .nil⟩ W :=
    { le := Nat.le_refl _, dom := fun b L h => (by cases h), fresh := fun b _ => rfl, es := fun b L B h => (by cases h), cell := fun b L B h => (by cases h), ro := fun b L B h => (by cases h), rw := fun b L B h => (by cases h), mp := fun b L es h => (by cases h), lp := fun b L R h => (by cases h), inj := fun b b' L L' h => (by cases h) }
  obtain ⟨m', H', avs, dts, e1, s1, l1, r1⟩ := args_in (fun t ht => (hpar t ht).1) (fun j t v h1 h2 => hval j t v (by simpa using h1) (by simpa using h2)) hA noInj ⟨0, .nil⟩ sr0
  obtain ⟨n, H2, hrun⟩ := run dts avs H' r1 s1.fresh
  have hcall := ((call_sim (base := W.heap.size) hmix hQ n).fn f avs H' _ H2 hrun m' W args s1 l1 (fun g hg => by simp at hg)).2
  refine hcall.mono fun x W2 hx => ?_
  obtain ⟨c, m2, rfl, hp, hv⟩ := hx
  rw [bool_inv hv]
  refine ⟨_, rfl, ?_⟩
  have hb := hp.below.toBelow
  have hlt : ∀ x ∈ p, x.block < W.heap.size := fun x hx => hW'.lt x (by simp [hx])
  have hlen : ds.length = fn.params.size := by
    have : ∀ {ts : List TypeId} {vs : List Value} {ds : List (DataW Hh)} {ps : List MemPlace}, DataW.TrodAll enc P W 0 (fun _ => true) true ts vs ds ps → ds.length = ts.length := by
      intro ts
      induction ts with
      | nil => intro vs ds ps h; obtain ⟨_, rfl, _⟩ := trodAll_nil h; rfl
      | cons t ts ih => intro vs ds ps h; obtain ⟨v, vs', d, ds', p, q, rfl, rfl, rfl, _, h1⟩ := trodAll_cons h; simp [ih h1]
    rw [this hA]; simp
  have hargs : ∀ sp : Nat → Bool, (∀ x ∈ p, sp x.block = true) → DataW.TrodAll enc P W2 0 sp true fn.params.toList args.toList ds p := fun sp hsp => all_stays hl hb (fun t ht => (hpar t ht).2) hA hlt hsp
  have hold : ∀ x ∈ p, (fun b => decide (b < W.heap.size)) x.block = true := fun x hx => by simpa using hlt x hx
  have hf := hfn (ds ++ []) (by simpa using hlen)
  have hresT : ∀ (b : Nat) (sp : Nat → Bool) (hd : Bool), DataW.TrodAll enc P W2 b sp hd fn.resultTypes.toList ((Value.bool true).resultList fn.resultTypes.size) (s.fn Hh (ds ++ [])).results [] := by
    intro b sp hd
    rw [hf, hres]
    exact trodAll_cons_mk (shut_bool htb true) trodAll_mk0
  have hvars' : ∀ sp : Nat → Bool, DataW.TrodVars enc P W2 sp s.vars (s.fn Hh (ds ++ [])).vars [] := by
    intro sp; rw [hvars, hf]; exact rfl
  try simp only [List.append_nil] at hW'
  try simp only [List.append_nil] at hfz
  refine ⟨ds, [], p, [], p, [], hW', hresT _ _ _, ?_, hvars' _, World.keptBut_mono (fun x hx => ⟨hx, ?_⟩) (hb.frame (· ∈ p)), fun _ => ?_⟩
  · rw [hf]; simpa using hargs _ hold
  · exact .inr (.inl hx)
  · have hall : DataW.TrodAll enc P W2 0 (fun _ => true) true (fn.resultTypes.toList ++ fn.params.toList) (Value.resultList fn.resultTypes.size (Value.bool true) ++ args.toList) ((s.fn Hh (ds ++ [])).results ++ ds) p := by
      have := trodAll_append (hargs _ (fun _ _ => rfl)) (hresT 0 (fun _ => true) true)
      simpa using this
    refine ⟨ok_one hres rfl (okWide_bool_mk htb _), (s.fn Hh (ds ++ [])).results ++ ds, (s.fn Hh (ds ++ [])).vars, p, ⟨p, [], hall, hvars' _, by simp, ?_, ?_⟩, ?_⟩
    · intro b off hx
      rw [hb.frozen (p := ⟨b, off, none⟩) (hlt _ hx)]
      exact hfz b off (by simpa using hx)
    · intro ha
      have := hnd ha
      simpa using this
    · intro x hx _
      exact hx
/-- does a run return true? -/
def isTrue : Option (AV × AHeap) → Bool
  | some (.bool true, _) => true
  | _ => false
theorem isTrue_some {r : Option (AV × AHeap)} (h : isTrue r = true) : ∃ H', r = some (.bool true, H') := by
  unfold isTrue at h
  split at h
  · exact ⟨_, rfl⟩
  · cases h
/-- one call that is known -/
def sameArgs : List AV → List AV → Bool
  | [], [] => true
  | x :: xs, y :: ys => AV.same1 x y && sameArgs xs ys
  | _, _ => false
theorem same1_eq {x y : AV} (h : AV.same1 x y = true) : x = y := by
  cases x <;> cases y <;> simp_all [AV.same1]
theorem sameArgs_eq : ∀ {x y : List AV}, sameArgs x y = true → x = y
  | [], [], _ => rfl
  | x :: xs, y :: ys, h => by
    simp only [sameArgs, Bool.and_eq_true] at h
    rw [same1_eq h.1, sameArgs_eq h.2]
  | [], _ :: _, h => by cases h
  | _ :: _, [], h => by cases h
def one (f : FuncId) (args : List AV) (v : AV) (g : FuncId) (args' : List AV) : Option AV := bif Nat.beq g f && sameArgs args' args then some v else none
theorem one_ok {P : Program} {f : FuncId} {args : List AV} {v : AV} (h : OrcOK P f args v) : ∀ g args' v', one f args v g args' = some v' → OrcOK P g args' v' := by
  intro g args' v' hh
  unfold one at hh
  cases hc : Nat.beq g f && sameArgs args' args with
  | false => rw [hc] at hh; cases hh
  | true =>
    rw [hc] at hh
    simp only [Bool.and_eq_true] at hc
    rw [Nat.eq_of_beq_eq_true hc.1, sameArgs_eq hc.2]
    simp only [cond_true, Option.some.injEq] at hh
    exact hh ▸ h
end
end Go.Proofs.Yteockjhckmlclaa.AM
