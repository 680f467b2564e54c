/-
  'ParamsBounds' is proved: the law returns true of every argument. No condition.
-/
import Derived.Test.YtbokakhpdlkkkaaRows
import Derived.Test.YtbokakhpdlkkkaaAmRow
import Derived.Test.YtbokakhpdlkkkaaRep
import Derived.Test.YtbokakhpdlkkkaaAmArgs
import Derived.Test.YtbokakhpdlkkkaaParamsBounds0
import Derived.WalkKit
import Derived.ProofKit
set_option linter.unusedVariables false
namespace Go.Proofs.Ytbokakhpdlkkkaa.paramsBounds
open Go Go.ChangeShapes Go.WideShapes Go.ChangeAt Go.RowKit AM

theorem own : ownKnob Try.prog.godebug = none := by kernel_rfl
theorem laidOut : laidOutB Try.prog = true := by kernel_rfl

set_option maxRecDepth 100000 in
set_option maxHeartbeats 4000000 in
theorem wakes : isTrue (callF (Q1 [] orcR) 100 8 [] ⟨0, .nil⟩) = true := by kernel_rfl
theorem closed : OrcOK Try.prog 8 [] (.bool true) := by
  obtain ⟨H', h⟩ := isTrue_some wakes
  exact orc_of_run mix (ok1 [] orcR_ok) rfl rfl h
noncomputable abbrev Q : Prog := Q1 [] (one 8 [] (.bool true))
theorem no (f : FuncId) (h : Nat.beq f 8 = false) (a : List AV) : Q.orc f a = none := by
  show (bif Nat.beq f 8 && sameArgs a [] then some (AV.bool true) else none) = none
  rw [h]; rfl
theorem yes : Q.orc 8 [] = some (.bool true) := rfl
theorem run (dts : List Dt) (avs : List AV) (H : AHeap) (h : ArgsR Try.prog H [9, 9] dts avs) (hf : ∀ b, H.next ≤ b → H.get b = none) : ∃ n H', callF Q n 5 avs H = some (.bool true, H') := by
  obtain ⟨t, v, d1, vs1, rfl, rfl, ht, h1⟩ := arg_one (one_str Try.underlying9) h
  obtain ⟨t2, v2, d2, vs2, rfl, rfl, ht2, h2⟩ := arg_one (one_str Try.underlying9) h1
  obtain rfl := args_none h2
  exact (law5 (Q := Q) fn5 no yes fn9 fn10 fn11 fn14 fn17 fn18 hf ht ht2).runs (fun v H' h => h)

theorem contract (H : Type) (enc : TypeId × Value → H) (W : World) (base : Nat) (args : Array Value) (ds gs : List (DataW H)) (before : List MemPlace)
    (hval : ∀ (j : Nat) t v, Try.f5.params[j]? = some t → args[j]? = some v → Value.okWide Try.prog W .any base t v)
    (hW : DataW.Whole enc Try.prog Try.f5.params.toList Rows.paramsBoundsSpec.vars false W args.toList ds gs before) :
    Calls Try.prog 5 args W fun e W' => ∃ v, e = .returned v ∧ Rows.paramsBoundsSpec.post enc Try.prog Try.f5 false true false false W args v W' :=
  law_calls (Q := Q) mix (ok1 [] (one_ok closed)) laidOut (tb := 4) (fun t ht => by
      rw [Try.params5] at ht
      simp only [List.mem_cons, List.not_mem_nil, or_false] at ht
      rcases ht with rfl | rfl <;> exact ⟨by kernel_rfl, by kernel_rfl, of_decide_eq_true (by kernel_rfl)⟩) (by kernel_rfl) Try.underlying4 rfl
    (fun ds hd => by rw [Try.params5] at hd; match ds, hd with | [_, _], _ => rfl)
    (fun dts avs H hA hfr => run dts avs H (by rw [Try.params5] at hA; exact hA) hfr) hval hW

set_option maxRecDepth 100000 in
theorem lifted (os : Os) (started : os.Started) (H : Type) (enc : TypeId × Value → H) :
    ReturnsInHanded {} Try.checked os 5 .any (Rows.paramsBoundsSpec.pre6 enc Try.prog Try.f5 Rows.paramsBoundsRow.domain false) (Rows.paramsBoundsSpec.post enc Try.prog Try.f5 false true false false) := by
  refine returnsInHanded_of_change (C := Try.checked) own started (by kernel_rfl) Try.func5
    (ChangeSpec.witness6 (enc := enc) (C := Try.checked) false ⟨#[], #[.string ⟨#[]⟩, .string ⟨#[]⟩], []⟩ 8 (by kernel_rfl) (by kernel_rfl) (by kernel_rfl) (by kernel_rfl)) ?_
  intro W base args ds gs before hval hW _ _
  exact contract H enc W base args ds gs before hval hW

theorem proved : Rows.ParamsBoundsSaid :=
  OpenClaim.holds_of_wide 5 Try.f5 rfl rfl rfl rfl rfl rfl rfl ⟨rfl, rfl, rfl, rfl, rfl⟩ rfl rfl rfl rfl rfl (by kernel_rfl) Try.func5 (by kernel_rfl)
    (of_decide_eq_true (by kernel_rfl)) (by unfold Func.isWrapper; first | (rw [if_pos (by decide +kernel)]; kernel_rfl) | (rw [if_neg (by decide +kernel)]; exact ⟨rfl, rfl⟩))
    (fun os started H enc _ => lifted os started H enc)
end Go.Proofs.Ytbokakhpdlkkkaa.paramsBounds
