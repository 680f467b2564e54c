/-
  A law's row, out of the abstract machine's run, where tables of the program are known.
-/
import Derived.Test.YtdkpmlhbofgfdaaGreatDoorAmRow
set_option linter.unusedSimpArgs false
set_option linter.unusedVariables false
namespace Go.Proofs.YtdkpmlhbofgfdaaGreatDoor.AM
open Go Go.RowKit Go.ChangeShapes Go.WideShapes Go.ChangeAt
section
variable {Hh : Type} {enc : TypeId × Value → Hh} {P : Program} {W : World} {gl : List Nat}
/-- what a law's run by the abstract machine gives of the model's call -/
theorem law_callsG {Q : Prog} (hmix : P.follows .mixedOrders = true) (hQ : ProgOK P gl Q) (hl : laidOutB P = true) {f : FuncId} {fn : Func} {s : ChangeSpec} {tb : TypeId} (hpar : ∀ t ∈ fn.params.toList, goodT P 9 t = true ∧ P.readableRec t = true ∧ t < P.types.size)
    (hres : fn.resultTypes = #[tb]) (htb : P.underlying tb = some .bool) (hvars : s.vars = []) (hfn : ∀ ds : List (DataW Hh), ds.length = fn.params.size → s.fn Hh ds = { results := [.lit (.bool true)], args := ds })
    {m0 : Inj} {H0 : AHeap} (sr0 : SR P gl W.heap.size m0 H0 W) (hgl : ∀ g ∈ gl, g < 999999 → m0 g = some ⟨g, 0, 0, 0⟩)
    (run : ∀ (dts : List Dt) (avs : List AV) (H : AHeap), ArgsR P H fn.params.toList dts avs → (∀ b, H.next ≤ b → H.get b = none) → H0.sub H → H0.next ≤ H.next → ∃ n H', callF Q n (.fn f) avs H = some (.bool true, H'))
    {base : Nat} {args : Array Value} {ds gs : List (DataW Hh)} {before : List MemPlace} {apart fresh handsOn again : Bool}
    (hval : ∀ (j : Nat) t v, fn.params[j]? = some t → args[j]? = some v → Value.okWide P W .any base t v) (hW : DataW.Whole enc P fn.params.toList s.vars apart W args.toList ds gs before) :
    Calls P f args W fun q W' => ∃ v, q = .returned v ∧ s.post enc P fn apart fresh handsOn again W args v W' := by
  have hW' := hW
  obtain ⟨p, q, hA, hV, rfl, hfz, hnd⟩ := hW
  have hvv := hV
  rw [hvars] at hvv
  obtain ⟨rfl, rfl⟩ := trodVars_none hvv
  obtain ⟨m', H', avs, dts, e1, s1, l1, r1⟩ := args_in (fun t ht => (hpar t ht).1) (fun j t v h1 h2 => hval j t v (by simpa using h1) (by simpa using h2)) hA m0 H0 sr0
  obtain ⟨n, H2, hrun⟩ := run dts avs H' r1 s1.fresh e1.sub e1.next
  have hcall := ((call_sim (base := W.heap.size) hmix hQ n).fn f avs H' _ H2 hrun m' W args s1 l1 (fun g hg hlt => e1.le _ _ (hgl g hg hlt))).2
  refine hcall.mono fun x W2 hx => ?_
  obtain ⟨c, m2, rfl, hp, hv⟩ := hx
  rw [bool_inv hv]
  refine ⟨_, rfl, ?_⟩
  have hb := hp.below.toBelow
  have hlt : ∀ x ∈ p, x.block < W.heap.size := fun x hx => hW'.lt x (by simp [hx])
  have hlen : ds.length = fn.params.size := by
    have : ∀ {ts : List TypeId} {vs : List Value} {ds : List (DataW Hh)} {ps : List MemPlace}, DataW.TrodAll enc P W 0 (fun _ => true) true ts vs ds ps → ds.length = ts.length := by
      intro ts
      induction ts with
      | nil => intro vs ds ps h; obtain ⟨_, rfl, _⟩ := trodAll_nil h; rfl
      | cons t ts ih => intro vs ds ps h; obtain ⟨v, vs', d, ds', p, q, rfl, rfl, rfl, _, h1⟩ := trodAll_cons h; simp [ih h1]
    rw [this hA]; simp
  have hargs : ∀ sp : Nat → Bool, (∀ x ∈ p, sp x.block = true) → DataW.TrodAll enc P W2 0 sp true fn.params.toList args.toList ds p := fun sp hsp => all_stays hl hb (fun t ht => (hpar t ht).2) hA hlt hsp
  have hold : ∀ x ∈ p, (fun b => decide (b < W.heap.size)) x.block = true := fun x hx => by simpa using hlt x hx
  have hf := hfn (ds ++ []) (by simpa using hlen)
  have hresT : ∀ (b : Nat) (sp : Nat → Bool) (hd : Bool), DataW.TrodAll enc P W2 b sp hd fn.resultTypes.toList ((Value.bool true).resultList fn.resultTypes.size) (s.fn Hh (ds ++ [])).results [] := by
    intro b sp hd
    rw [hf, hres]
    exact trodAll_cons_mk (shut_bool htb true) trodAll_mk0
  have hvars' : ∀ sp : Nat → Bool, DataW.TrodVars enc P W2 sp s.vars (s.fn Hh (ds ++ [])).vars [] := by
    intro sp; rw [hvars, hf]; exact rfl
  try simp only [List.append_nil] at hW'
  try simp only [List.append_nil] at hfz
  refine ⟨ds, [], p, [], p, [], hW', hresT _ _ _, ?_, hvars' _, World.keptBut_mono (fun x hx => ⟨hx, ?_⟩) (hb.frame (· ∈ p)), fun _ => ?_⟩
  · rw [hf]; simpa using hargs _ hold
  · exact .inr (.inl hx)
  · have hall : DataW.TrodAll enc P W2 0 (fun _ => true) true (fn.resultTypes.toList ++ fn.params.toList) (Value.resultList fn.resultTypes.size (Value.bool true) ++ args.toList) ((s.fn Hh (ds ++ [])).results ++ ds) p := by
      have := trodAll_append (hargs _ (fun _ _ => rfl)) (hresT 0 (fun _ => true) true)
      simpa using this
    refine ⟨ok_one hres rfl (okWide_bool_mk htb _), (s.fn Hh (ds ++ [])).results ++ ds, (s.fn Hh (ds ++ [])).vars, p, ⟨p, [], hall, hvars' _, by simp, ?_, ?_⟩, ?_⟩
    · intro b off hx
      rw [hb.frozen (p := ⟨b, off, none⟩) (hlt _ hx)]
      exact hfz b off (by simpa using hx)
    · intro ha
      have := hnd ha
      simpa using this
    · intro x hx _
      exact hx
end
end Go.Proofs.YtdkpmlhbofgfdaaGreatDoor.AM
