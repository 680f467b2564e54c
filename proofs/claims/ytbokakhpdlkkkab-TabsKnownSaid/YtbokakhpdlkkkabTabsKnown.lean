/-
  A closed statement is proved: its law, run by the abstract machine, returns true. No condition.
-/
import Derived.Test.YtbokakhpdlkkkabRows
import Derived.Test.YtbokakhpdlkkkabAmRow
import Derived.Test.YtbokakhpdlkkkabRep
import Derived.Test.YtbokakhpdlkkkabTab
import Derived.WalkKit
import Derived.ProofKit
set_option linter.unusedVariables false
namespace Go.Proofs.Ytbokakhpdlkkkab.tabsKnown
open Go Go.ChangeShapes Go.WideShapes Go.ChangeAt Go.RowKit AM

theorem own : ownKnob Try.prog.godebug = none := by kernel_rfl
theorem laidOut : laidOutB Try.prog = true := by kernel_rfl

set_option maxRecDepth 100000 in
set_option maxHeartbeats 4000000 in
theorem runs : isTrue (Fast.call (QL tblL orcR) 500 (.fn 8) [] ⟨0, .nil⟩) = true := by kernel_rfl
theorem closed : OrcOK Try.prog 8 [] (.bool true) := by
  have r := runs
  rw [Fast.call_eq] at r
  obtain ⟨H', h⟩ := isTrue_some r
  exact orc_of_run mix (okL tblL_ok orcR_ok) rfl rfl h

theorem contract (H : Type) (enc : TypeId × Value → H) (W : World) (base : Nat) (args : Array Value) (ds gs : List (DataW H)) (before : List MemPlace)
    (hval : ∀ (j : Nat) t v, Try.f8.params[j]? = some t → args[j]? = some v → Value.okWide Try.prog W .any base t v)
    (hW : DataW.Whole enc Try.prog Try.f8.params.toList Rows.tabsKnownSpec.vars false W args.toList ds gs before) :
    Calls Try.prog 8 args W fun e W' => ∃ v, e = .returned v ∧ Rows.tabsKnownSpec.post enc Try.prog Try.f8 false true false false W args v W' :=
  law_calls (Q := Q1 [] (one 8 [] (.bool true))) mix (ok1 [] (one_ok closed)) laidOut (tb := 4) (fun t ht => by rw [Try.params8] at ht; simp at ht) (by kernel_rfl) Try.underlying4 rfl
    (fun ds hd => by rw [Try.params8] at hd; match ds, hd with | [], _ => rfl)
    (fun dts avs H hA hfr => ⟨1, H, by
      rw [Try.params8] at hA
      match dts, avs, hA with
      | [], [], _ => rfl⟩) hval hW

set_option maxRecDepth 100000 in
theorem lifted (os : Os) (started : os.Started) (H : Type) (enc : TypeId × Value → H) :
    ReturnsInHanded {} Try.checked os 8 .any (Rows.tabsKnownSpec.pre6 enc Try.prog Try.f8 Rows.tabsKnownRow.domain false) (Rows.tabsKnownSpec.post enc Try.prog Try.f8 false true false false) := by
  refine returnsInHanded_of_change (C := Try.checked) own started (by kernel_rfl) Try.func8
    (ChangeSpec.witness6 (enc := enc) (C := Try.checked) false ⟨#[], #[], []⟩ 8 (by kernel_rfl) (by kernel_rfl) (by kernel_rfl) (by kernel_rfl)) ?_
  intro W base args ds gs before hval hW _ _
  exact contract H enc W base args ds gs before hval hW

theorem proved : Rows.TabsKnownSaid :=
  OpenClaim.holds_of_wide 8 Try.f8 rfl rfl rfl rfl rfl rfl rfl ⟨rfl, rfl, rfl, rfl, rfl⟩ rfl rfl rfl rfl rfl (by kernel_rfl) Try.func8 (by kernel_rfl)
    (of_decide_eq_true (by kernel_rfl)) (by unfold Func.isWrapper; first | (rw [if_pos (by decide +kernel)]; kernel_rfl) | (rw [if_neg (by decide +kernel)]; exact ⟨rfl, rfl⟩))
    (fun os started H enc _ => lifted os started H enc)
end Go.Proofs.Ytbokakhpdlkkkab.tabsKnown
