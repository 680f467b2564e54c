/-
  'TabsStays' is proved: the law returns true of every argument. No condition.
-/
import Derived.Test.YtbokakhpdlkkkabRows
import Derived.Test.YtbokakhpdlkkkabAmRow
import Derived.Test.YtbokakhpdlkkkabRep
import Derived.Test.YtbokakhpdlkkkabAmArgs2
import Derived.Test.YtbokakhpdlkkkabTab
import Derived.Test.YtbokakhpdlkkkabTabsStays0
import Derived.WalkKit
import Derived.ProofKit
set_option linter.unusedVariables false
namespace Go.Proofs.Ytbokakhpdlkkkab.tabsStays
open Go Go.ChangeShapes Go.WideShapes Go.ChangeAt Go.RowKit AM

theorem own : ownKnob Try.prog.godebug = none := by kernel_rfl
theorem laidOut : laidOutB Try.prog = true := by kernel_rfl

set_option maxRecDepth 100000 in
set_option maxHeartbeats 4000000 in
theorem wakes : isTrue (Fast.call (QL tblL orcR) 200 (.fn 15) [] ⟨0, .nil⟩) = true := by kernel_rfl
theorem closed : OrcOK Try.prog 15 [] (.bool true) := by
  have r := wakes
  rw [Fast.call_eq] at r
  obtain ⟨H', h⟩ := isTrue_some r
  exact orc_of_run mix (okL tblL_ok orcR_ok) rfl rfl h
noncomputable abbrev Q : Prog := Q1 [] (one 15 [] (.bool true))
theorem no (f : FuncId) (h : Nat.beq f 15 = false) (a : List AV) : Q.orc f a = none := by
  show (bif Nat.beq f 15 && sameArgs a [] then some (AV.bool true) else none) = none
  rw [h]; rfl
theorem yes : Q.orc 15 [] = some (.bool true) := rfl
theorem area (H : AHeap) (ps : List Dt) (cs : List AV) (hw : WTF Try.prog ps [3, 3, 3, 3]) (hr : RdL H ps cs) : ∃ w h t b : Int, cs = [.int .i64 w, .int .i64 h, .int .i64 t, .int .i64 b] := by
  obtain ⟨w, c1, ps, cs, rfl, rfl, _, hw, hr⟩ := fld_one (one_int Try.underlying3) hw hr
  obtain ⟨h, c2, ps, cs, rfl, rfl, _, hw, hr⟩ := fld_one (one_int Try.underlying3) hw hr
  obtain ⟨t, c3, ps, cs, rfl, rfl, _, hw, hr⟩ := fld_one (one_int Try.underlying3) hw hr
  obtain ⟨b, c4, ps, cs, rfl, rfl, _, hw, hr⟩ := fld_one (one_int Try.underlying3) hw hr
  obtain rfl := fld_none hw hr
  exact ⟨w, h, t, b, rfl⟩
theorem act (H : AHeap) (ps : List Dt) (cs : List AV) (hw : WTF Try.prog ps [5, 3, 3]) (hr : RdL H ps cs) : cs.length = 3 ∧ AM.Act cs := by
  obtain ⟨d, c1, ps, cs, rfl, rfl, hd, hw, hr⟩ := fld_one (one_int Try.underlying5) hw hr
  obtain ⟨x, c2, ps, cs, rfl, rfl, _, hw, hr⟩ := fld_one (one_int Try.underlying3) hw hr
  obtain ⟨n, c3, ps, cs, rfl, rfl, hn, hw, hr⟩ := fld_one (one_int Try.underlying3) hw hr
  obtain rfl := fld_none hw hr
  have h1 := wf_u8 hd
  have h2 := wf_i64 hn
  exact ⟨rfl, d, x, n, rfl, h1.1, h2.1, h2.2⟩
theorem run (dts : List Dt) (avs : List AV) (H : AHeap) (h : ArgsR Try.prog H [23, 3, 3, 32] dts avs) (hf : ∀ b, H.next ≤ b → H.get b = none) : ∃ n H', callF Q n (.fn 4) avs H = some (.bool true, H') := by
  obtain ⟨cs, d1, vs1, rfl, ⟨w, hh, t, b, rfl⟩, h1⟩ := arg_agg (agg_of Try.underlying23 (G := fun cs => ∃ w h t b : Int, cs = [.int .i64 w, .int .i64 h, .int .i64 t, .int .i64 b]) area) h
  obtain ⟨x, v1, d1, vs1, rfl, rfl, _, h2⟩ := arg_one (one_int Try.underlying3) h1
  obtain ⟨y, v2, d2, vs2, rfl, rfl, _, h3⟩ := arg_one (one_int Try.underlying3) h2
  obtain ⟨ls, v3, d3, vs3, rfl, hv, hG, h4⟩ := arg_one (one_rows (k := 3) (G := AM.Act) (agg_of Try.underlying34 act) Try.underlying32) h3
  obtain rfl := args_none h4
  exact (law4 (Q := Q) ⟨fn9, fn10, fn11, fn12, fn13, fn14, fn16, fn17, fn18, fn19, fn20, fn37, fn38, fn39, no⟩ fn4 yes hf w hh t b x y hv (fun r hr => (hG.2 r hr).2)).runs (fun v H' h => h)

theorem contract (H : Type) (enc : TypeId × Value → H) (W : World) (base : Nat) (args : Array Value) (ds gs : List (DataW H)) (before : List MemPlace)
    (hval : ∀ (j : Nat) t v, Try.f4.params[j]? = some t → args[j]? = some v → Value.okWide Try.prog W .any base t v)
    (hW : DataW.Whole enc Try.prog Try.f4.params.toList Rows.tabsStaysSpec.vars false W args.toList ds gs before) :
    Calls Try.prog 4 args W fun e W' => ∃ v, e = .returned v ∧ Rows.tabsStaysSpec.post enc Try.prog Try.f4 false true false false W args v W' :=
  law_calls (Q := Q) mix (ok1 [] (one_ok closed)) laidOut (tb := 4) (fun t ht => by
      rw [Try.params4] at ht
      simp only [List.mem_cons, List.not_mem_nil, or_false] at ht
      rcases ht with rfl | rfl | rfl | rfl <;> exact ⟨by kernel_rfl, by kernel_rfl, of_decide_eq_true (by kernel_rfl)⟩) (by kernel_rfl) Try.underlying4 rfl
    (fun ds hd => by rw [Try.params4] at hd; match ds, hd with | [_, _, _, _], _ => rfl)
    (fun dts avs H hA hfr => run dts avs H (by rw [Try.params4] at hA; exact hA) hfr) hval hW

set_option maxRecDepth 100000 in
theorem lifted (os : Os) (started : os.Started) (H : Type) (enc : TypeId × Value → H) :
    ReturnsInHanded {} Try.checked os 4 .any (Rows.tabsStaysSpec.pre6 enc Try.prog Try.f4 Rows.tabsStaysRow.domain false) (Rows.tabsStaysSpec.post enc Try.prog Try.f4 false true false false) := by
  refine returnsInHanded_of_change (C := Try.checked) own started (by kernel_rfl) Try.func4
    (ChangeSpec.witness6 (enc := enc) (C := Try.checked) false ⟨#[], #[.agg #[.int .i64 0, .int .i64 0, .int .i64 0, .int .i64 0], .int .i64 0, .int .i64 0, .slice Option.none 0 0], []⟩ 8 (by kernel_rfl) (by kernel_rfl) (by kernel_rfl) (by kernel_rfl)) ?_
  intro W base args ds gs before hval hW _ _
  exact contract H enc W base args ds gs before hval hW

theorem proved : Rows.TabsStaysSaid :=
  OpenClaim.holds_of_wide 4 Try.f4 rfl rfl rfl rfl rfl rfl rfl ⟨rfl, rfl, rfl, rfl, rfl⟩ rfl rfl rfl rfl rfl (by kernel_rfl) Try.func4 (by kernel_rfl)
    (of_decide_eq_true (by kernel_rfl)) (by unfold Func.isWrapper; first | (rw [if_pos (by decide +kernel)]; kernel_rfl) | (rw [if_neg (by decide +kernel)]; exact ⟨rfl, rfl⟩))
    (fun os started H enc _ => lifted os started H enc)
end Go.Proofs.Ytbokakhpdlkkkab.tabsStays
