/-
  A closed statement is proved: its law, run by the abstract machine, returns true. No condition.
-/
import Derived.Test.YtbokakhpdlkkkaaRows
import Derived.Test.YtbokakhpdlkkkaaAmRow
import Derived.Test.YtbokakhpdlkkkaaRep
import Derived.WalkKit
import Derived.ProofKit
set_option linter.unusedVariables false
namespace Go.Proofs.Ytbokakhpdlkkkaa.paramsKnown
open Go Go.ChangeShapes Go.WideShapes Go.ChangeAt Go.RowKit AM

theorem own : ownKnob Try.prog.godebug = none := by kernel_rfl
theorem laidOut : laidOutB Try.prog = true := by kernel_rfl

set_option maxRecDepth 100000 in
set_option maxHeartbeats 4000000 in
theorem runs : isTrue (callF (Q1 [] orcR) 100 6 [] ⟨0, .nil⟩) = true := by kernel_rfl
theorem closed : OrcOK Try.prog 6 [] (.bool true) := by
  obtain ⟨H', h⟩ := isTrue_some runs
  exact orc_of_run mix (ok1 [] orcR_ok) rfl rfl h

theorem contract (H : Type) (enc : TypeId × Value → H) (W : World) (base : Nat) (args : Array Value) (ds gs : List (DataW H)) (before : List MemPlace)
    (hval : ∀ (j : Nat) t v, Try.f6.params[j]? = some t → args[j]? = some v → Value.okWide Try.prog W .any base t v)
    (hW : DataW.Whole enc Try.prog Try.f6.params.toList Rows.paramsKnownSpec.vars false W args.toList ds gs before) :
    Calls Try.prog 6 args W fun e W' => ∃ v, e = .returned v ∧ Rows.paramsKnownSpec.post enc Try.prog Try.f6 false true false false W args v W' :=
  law_calls (Q := Q1 [] (one 6 [] (.bool true))) mix (ok1 [] (one_ok closed)) laidOut (tb := 4) (fun t ht => by rw [Try.params6] at ht; simp at ht) (by kernel_rfl) Try.underlying4 rfl
    (fun ds hd => by rw [Try.params6] at hd; match ds, hd with | [], _ => rfl)
    (fun dts avs H hA hfr => ⟨1, H, by
      rw [Try.params6] at hA
      match dts, avs, hA with
      | [], [], _ => rfl⟩) hval hW

set_option maxRecDepth 100000 in
theorem lifted (os : Os) (started : os.Started) (H : Type) (enc : TypeId × Value → H) :
    ReturnsInHanded {} Try.checked os 6 .any (Rows.paramsKnownSpec.pre6 enc Try.prog Try.f6 Rows.paramsKnownRow.domain false) (Rows.paramsKnownSpec.post enc Try.prog Try.f6 false true false false) := by
  refine returnsInHanded_of_change (C := Try.checked) own started (by kernel_rfl) Try.func6
    (ChangeSpec.witness6 (enc := enc) (C := Try.checked) false ⟨#[], #[], []⟩ 8 (by kernel_rfl) (by kernel_rfl) (by kernel_rfl) (by kernel_rfl)) ?_
  intro W base args ds gs before hval hW _ _
  exact contract H enc W base args ds gs before hval hW

theorem proved : Rows.ParamsKnownSaid :=
  OpenClaim.holds_of_wide 6 Try.f6 rfl rfl rfl rfl rfl rfl rfl ⟨rfl, rfl, rfl, rfl, rfl⟩ rfl rfl rfl rfl rfl (by kernel_rfl) Try.func6 (by kernel_rfl)
    (of_decide_eq_true (by kernel_rfl)) (by unfold Func.isWrapper; first | (rw [if_pos (by decide +kernel)]; kernel_rfl) | (rw [if_neg (by decide +kernel)]; exact ⟨rfl, rfl⟩))
    (fun os started H enc _ => lifted os started H enc)
end Go.Proofs.Ytbokakhpdlkkkaa.paramsKnown
