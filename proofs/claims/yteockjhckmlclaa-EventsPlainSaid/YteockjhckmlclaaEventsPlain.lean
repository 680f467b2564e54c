/-
  'EventsPlain' is proved: the law returns true of every argument. No condition.
-/
import Derived.Test.YteockjhckmlclaaRows
import Derived.Test.YteockjhckmlclaaAmRowG
import Derived.Test.YteockjhckmlclaaRep
import Derived.Test.YteockjhckmlclaaAmArgs2
import Derived.Test.YteockjhckmlclaaTab
import Derived.Test.YteockjhckmlclaaEventsPlain0
import Derived.WalkKit
import Derived.ProofKit
set_option linter.unusedVariables false
namespace Go.Proofs.Yteockjhckmlclaa.eventsPlain
open Go Go.ChangeShapes Go.WideShapes Go.ChangeAt Go.RowKit AM

theorem own : ownKnob Try.prog.godebug = none := by kernel_rfl
theorem laidOut : laidOutB Try.prog = true := by kernel_rfl

set_option maxRecDepth 100000 in
set_option maxHeartbeats 4000000 in
theorem wakes : isTrue (Fast.call (QL [] tblL orcR) 200 (.fn 11) [] (tabH 0 [])) = true := by kernel_rfl
theorem tok0 : TOk 0 [] := ⟨by decide, by decide, by decide⟩
theorem tg : ∀ t ∈ ([] : List Tb), t.g ∈ [1999999] ∧ t.g < 999999 := fun t ht => by simp at ht
theorem hgT : ∀ g ∈ [1999999], g < 999999 → g ∈ ([] : List Tb).map (·.g) := by decide
theorem closed : OrcOK Try.prog [] 11 [] (.bool true) := by
  have r := wakes
  rw [Fast.call_eq] at r
  obtain ⟨H', h⟩ := isTrue_some r
  exact orc_of_run (N := 0) mix tok0 hgT (okL tg tblL_ok orcR_ok) rfl rfl h
noncomputable abbrev Q : Prog := Q1 [] [1999999] (one 11 [] (.bool true))
theorem no (f : FuncId) (h : Nat.beq f 11 = false) (a : List AV) : Q.orc f a = none := by
  show (bif Nat.beq f 11 && sameArgs a [] then some (AV.bool true) else none) = none
  rw [h]; rfl
theorem yes : Q.orc 11 [] = some (.bool true) := rfl
theorem evq : EvQ Q := ⟨fn14, fn16, fn19, fn22, fn27, fn28, fn29, fn30, fn31, fn32, fn33, fn40, fn41, fn48, fn49, fn50, fn51, fn52, fn53, fn54, fn55, fn56, fn57, fn58, fn59, fn68, fn69, fn70, fn74, fun f h a => no f (Bool.or_eq_false_iff.1 h).1 a⟩
theorem run (dts : List Dt) (avs : List AV) (H : AHeap) (h : ArgsR Try.prog H [9] dts avs) (hf : ∀ b, H.next ≤ b → H.get b = none) : ∃ n H', callF Q n (.fn 4) avs H = some (.bool true, H') := by
  obtain ⟨s, v1, d1, vs1, rfl, rfl, _, h2⟩ := arg_one (one_str Try.underlying9) h
  obtain rfl := args_none h2
  exact (law4 (Q := Q) evq fn4 fn13 fn15 yes rfl hf s).runs (fun v H' h => h)

set_option maxRecDepth 100000 in
theorem contract (H : Type) (enc : TypeId × Value → H) (W : World) (base : Nat) (args : Array Value) (ds gs : List (DataW H)) (before : List MemPlace)
    (hval : ∀ (j : Nat) t v, Try.f4.params[j]? = some t → args[j]? = some v → Value.okWide Try.prog W .any base t v)
    (hW : DataW.Whole enc Try.prog Try.f4.params.toList Rows.eventsPlainSpec.vars false W args.toList ds gs before) :
    Calls Try.prog 4 args W fun e W' => ∃ v, e = .returned v ∧ Rows.eventsPlainSpec.post enc Try.prog Try.f4 false true false false W args v W' :=
  law_callsG (Q := Q) mix (ok1 [] [1999999] tg (one_ok closed)) laidOut (tb := 4) (fun t ht => by
      rw [Try.params4] at ht
      simp only [List.mem_cons, List.not_mem_nil, or_false] at ht
      rcases ht with rfl <;> exact ⟨by kernel_rfl, by kernel_rfl, of_decide_eq_true (by kernel_rfl)⟩) (by kernel_rfl) Try.underlying4 rfl
    (fun ds hd => by rw [Try.params4] at hd; match ds, hd with | [_], _ => rfl)
    (sr_tabs tok0 (fun t ht => by simp at ht)) (tabI_glM (l := []) hgT)
    (fun dts avs H hA hfr _ _ => run dts avs H (by rw [Try.params4] at hA; exact hA) hfr) hval hW

set_option maxRecDepth 100000 in
theorem lifted (os : Os) (started : os.Started) (H : Type) (enc : TypeId × Value → H) :
    ReturnsInHanded {} Try.checked os 4 .any (Rows.eventsPlainSpec.pre6 enc Try.prog Try.f4 Rows.eventsPlainRow.domain false) (Rows.eventsPlainSpec.post enc Try.prog Try.f4 false true false false) := by
  refine returnsInHanded_of_change (C := Try.checked) own started (by kernel_rfl) Try.func4
    (ChangeSpec.witness6 (enc := enc) (C := Try.checked) false ⟨#[], #[.string "".toUTF8], []⟩ 8 (by kernel_rfl) (by kernel_rfl) (by kernel_rfl) (by kernel_rfl)) ?_
  intro W base args ds gs before hval hW _ _
  exact contract H enc W base args ds gs before hval hW

theorem proved : Rows.EventsPlainSaid :=
  OpenClaim.holds_of_wide 4 Try.f4 rfl rfl rfl rfl rfl rfl rfl ⟨rfl, rfl, rfl, rfl, rfl⟩ rfl rfl rfl rfl rfl (by kernel_rfl) Try.func4 (by kernel_rfl)
    (of_decide_eq_true (by kernel_rfl)) (by unfold Func.isWrapper; first | (rw [if_pos (by decide +kernel)]; kernel_rfl) | (rw [if_neg (by decide +kernel)]; exact ⟨rfl, rfl⟩))
    (fun os started H enc _ => lifted os started H enc)
end Go.Proofs.Yteockjhckmlclaa.eventsPlain
