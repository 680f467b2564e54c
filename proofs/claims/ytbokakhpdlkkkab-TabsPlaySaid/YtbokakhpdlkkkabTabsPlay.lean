/-
  'TabsPlay' is proved: the law returns true of every argument. No condition.
-/
import Derived.Test.YtbokakhpdlkkkabRows
import Derived.Test.YtbokakhpdlkkkabAmRow
import Derived.Test.YtbokakhpdlkkkabRep
import Derived.Test.YtbokakhpdlkkkabAmArgs2
import Derived.Test.YtbokakhpdlkkkabTab
import Derived.Test.YtbokakhpdlkkkabTabsPlay0
import Derived.WalkKit
import Derived.ProofKit
set_option linter.unusedVariables false
namespace Go.Proofs.Ytbokakhpdlkkkab.tabsPlay
open Go Go.ChangeShapes Go.WideShapes Go.ChangeAt Go.RowKit AM

theorem own : ownKnob Try.prog.godebug = none := by kernel_rfl
theorem laidOut : laidOutB Try.prog = true := by kernel_rfl

set_option maxRecDepth 100000 in
set_option maxHeartbeats 4000000 in
theorem wakes : isTrue (Fast.call (QL tblL orcR) 200 (.fn 15) [] ⟨0, .nil⟩) = true := by kernel_rfl
theorem closed : OrcOK Try.prog 15 [] (.bool true) := by
  have r := wakes
  rw [Fast.call_eq] at r
  obtain ⟨H', h⟩ := isTrue_some r
  exact orc_of_run mix (okL tblL_ok orcR_ok) rfl rfl h
noncomputable abbrev Q : Prog := Q1 [] (one 15 [] (.bool true))
theorem no (f : FuncId) (h : Nat.beq f 15 = false) (a : List AV) : Q.orc f a = none := by
  show (bif Nat.beq f 15 && sameArgs a [] then some (AV.bool true) else none) = none
  rw [h]; rfl
theorem yes : Q.orc 15 [] = some (.bool true) := rfl
theorem act (H : AHeap) (ps : List Dt) (cs : List AV) (hw : WTF Try.prog ps [5, 3, 3]) (hr : RdL H ps cs) : cs.length = 3 ∧ AM.Act2 cs := by
  obtain ⟨d, c1, ps, cs, rfl, rfl, hd, hw, hr⟩ := fld_one (one_int Try.underlying5) hw hr
  obtain ⟨x, c2, ps, cs, rfl, rfl, hx, hw, hr⟩ := fld_one (one_int Try.underlying3) hw hr
  obtain ⟨n, c3, ps, cs, rfl, rfl, hn, hw, hr⟩ := fld_one (one_int Try.underlying3) hw hr
  obtain rfl := fld_none hw hr
  exact ⟨rfl, d, x, n, rfl, (wf_i64 hx).2, (wf_i64 hn).2⟩
theorem run (dts : List Dt) (avs : List AV) (H : AHeap) (h : ArgsR Try.prog H [3, 32] dts avs) (hf : ∀ b, H.next ≤ b → H.get b = none) : ∃ n H', callF Q n (.fn 5) avs H = some (.bool true, H') := by
  obtain ⟨w, v1, d1, vs1, rfl, rfl, _, h2⟩ := arg_one (one_int Try.underlying3) h
  obtain ⟨ls, v3, d3, vs3, rfl, hv, hG, h4⟩ := arg_one (one_rows (k := 3) (G := AM.Act2) (agg_of Try.underlying34 act) Try.underlying32) h2
  obtain rfl := args_none h4
  exact (law5 (Q := Q) ⟨fn21, fn23, fn25, fn27, fn28, fn30, fn31, fn32, fn34, fn41, fn43, fn44, fn45, no⟩ ⟨fn22, fn24, fn26, fn29, fn30, fn33, fn35, fn40, fn42, no⟩ fn5 yes hf w hv (fun r hr => (hG.2 r hr).2)).runs (fun v H' h => h)

set_option maxRecDepth 100000 in
theorem contract (H : Type) (enc : TypeId × Value → H) (W : World) (base : Nat) (args : Array Value) (ds gs : List (DataW H)) (before : List MemPlace)
    (hval : ∀ (j : Nat) t v, Try.f5.params[j]? = some t → args[j]? = some v → Value.okWide Try.prog W .any base t v)
    (hW : DataW.Whole enc Try.prog Try.f5.params.toList Rows.tabsPlaySpec.vars false W args.toList ds gs before) :
    Calls Try.prog 5 args W fun e W' => ∃ v, e = .returned v ∧ Rows.tabsPlaySpec.post enc Try.prog Try.f5 false true false false W args v W' :=
  law_calls (Q := Q) mix (ok1 [] (one_ok closed)) laidOut (tb := 4) (fun t ht => by
      rw [Try.params5] at ht
      simp only [List.mem_cons, List.not_mem_nil, or_false] at ht
      rcases ht with rfl | rfl <;> exact ⟨by kernel_rfl, by kernel_rfl, of_decide_eq_true (by kernel_rfl)⟩) (by kernel_rfl) Try.underlying4 rfl
    (fun ds hd => by rw [Try.params5] at hd; match ds, hd with | [_, _], _ => rfl)
    (fun dts avs H hA hfr => run dts avs H (by rw [Try.params5] at hA; exact hA) hfr) hval hW

set_option maxRecDepth 100000 in
theorem lifted (os : Os) (started : os.Started) (H : Type) (enc : TypeId × Value → H) :
    ReturnsInHanded {} Try.checked os 5 .any (Rows.tabsPlaySpec.pre6 enc Try.prog Try.f5 Rows.tabsPlayRow.domain false) (Rows.tabsPlaySpec.post enc Try.prog Try.f5 false true false false) := by
  refine returnsInHanded_of_change (C := Try.checked) own started (by kernel_rfl) Try.func5
    (ChangeSpec.witness6 (enc := enc) (C := Try.checked) false ⟨#[], #[.int .i64 0, .slice Option.none 0 0], []⟩ 8 (by kernel_rfl) (by kernel_rfl) (by kernel_rfl) (by kernel_rfl)) ?_
  intro W base args ds gs before hval hW _ _
  exact contract H enc W base args ds gs before hval hW

theorem proved : Rows.TabsPlaySaid :=
  OpenClaim.holds_of_wide 5 Try.f5 rfl rfl rfl rfl rfl rfl rfl ⟨rfl, rfl, rfl, rfl, rfl⟩ rfl rfl rfl rfl rfl (by kernel_rfl) Try.func5 (by kernel_rfl)
    (of_decide_eq_true (by kernel_rfl)) (by unfold Func.isWrapper; first | (rw [if_pos (by decide +kernel)]; kernel_rfl) | (rw [if_neg (by decide +kernel)]; exact ⟨rfl, rfl⟩))
    (fun os started H enc _ => lifted os started H enc)
end Go.Proofs.Ytbokakhpdlkkkab.tabsPlay
