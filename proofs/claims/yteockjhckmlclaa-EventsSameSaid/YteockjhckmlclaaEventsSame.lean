/-
  'EventsSame' is proved: the law returns true of every argument. No condition.
-/
import Derived.Test.YteockjhckmlclaaRows
import Derived.Test.YteockjhckmlclaaAmRow
import Derived.Test.YteockjhckmlclaaRep
import Derived.Test.YteockjhckmlclaaAmArgs2
import Derived.Test.YteockjhckmlclaaTab
import Derived.Test.YteockjhckmlclaaEventsSame1
import Derived.WalkKit
import Derived.ProofKit
set_option linter.unusedVariables false
namespace Go.Proofs.Yteockjhckmlclaa.eventsSame
open Go Go.ChangeShapes Go.WideShapes Go.ChangeAt Go.RowKit AM

theorem own : ownKnob Try.prog.godebug = none := by kernel_rfl
theorem laidOut : laidOutB Try.prog = true := by kernel_rfl

set_option maxRecDepth 100000 in
set_option maxHeartbeats 4000000 in
theorem wakes : isTrue (Fast.call (QL tblL orcR) 200 (.fn 11) [] ⟨0, .nil⟩) = true := by kernel_rfl
theorem closed : OrcOK Try.prog 11 [] (.bool true) := by
  have r := wakes
  rw [Fast.call_eq] at r
  obtain ⟨H', h⟩ := isTrue_some r
  exact orc_of_run mix (okL tblL_ok orcR_ok) rfl rfl h
noncomputable abbrev Q : Prog := Q1 [] (one 11 [] (.bool true))
theorem no (f : FuncId) (h : Nat.beq f 11 = false) (a : List AV) : Q.orc f a = none := by
  show (bif Nat.beq f 11 && sameArgs a [] then some (AV.bool true) else none) = none
  rw [h]; rfl
theorem yes : Q.orc 11 [] = some (.bool true) := rfl
theorem ev (H : AHeap) (ps : List Dt) (cs : List AV) (hw : WTF Try.prog ps [3, 21, 5, 9, 22, 9]) (hr : RdL H ps cs) : ∃ a : Ev, cs = a.cs ∧ a.ok H ∧ ∀ x ∈ a.L, x.length ≤ 9223372036854775807 := by
  obtain ⟨k, c1, ps, cs, rfl, rfl, _, hw, hr⟩ := fld_one (one_int Try.underlying3) hw hr
  obtain ⟨r, c2, ps, cs, rfl, rfl, _, hw, hr⟩ := fld_one (one_int Try.underlying21) hw hr
  obtain ⟨f, c3, ps, cs, rfl, rfl, _, hw, hr⟩ := fld_one (one_int Try.underlying5) hw hr
  obtain ⟨m, c4, ps, cs, rfl, rfl, _, hw, hr⟩ := fld_one (one_str Try.underlying9) hw hr
  obtain ⟨L, v, ps, cs, rfl, hv, hL, hw, hr⟩ := fld_one (one_slice (one_slice (one_int Try.underlying3) Try.underlying26) Try.underlying22) hw hr
  obtain ⟨t, c6, ps, cs, rfl, rfl, _, hw, hr⟩ := fld_one (one_str Try.underlying9) hw hr
  obtain rfl := fld_none hw hr
  exact ⟨⟨k, r, f, m, v, t, L⟩, rfl, hv, fun x hx => by
    have h1 := (hL.2 x hx).1
    have h2 : maxLen = 9223372036854775807 := by decide
    omega⟩
theorem run (dts : List Dt) (avs : List AV) (H : AHeap) (h : ArgsR Try.prog H [24, 24] dts avs) (hf : ∀ b, H.next ≤ b → H.get b = none) : ∃ n H', callF Q n (.fn 3) avs H = some (.bool true, H') := by
  obtain ⟨cs, d1, vs1, rfl, ⟨a, rfl, ha, ga⟩, h1⟩ := arg_aggH (aggH_of Try.underlying24 (G := fun H cs => ∃ a : Ev, cs = a.cs ∧ a.ok H ∧ ∀ x ∈ a.L, x.length ≤ 9223372036854775807) ev) h
  obtain ⟨cs, d2, vs2, rfl, ⟨b, rfl, hb, gb⟩, h2⟩ := arg_aggH (aggH_of Try.underlying24 (G := fun H cs => ∃ a : Ev, cs = a.cs ∧ a.ok H ∧ ∀ x ∈ a.L, x.length ≤ 9223372036854775807) ev) h1
  obtain rfl := args_none h2
  exact (law3 (Q := Q) no fn12 fn25 fn26 hf fn3 yes ha hb ga gb).runs (fun v H' h => h)

set_option maxRecDepth 100000 in
theorem contract (H : Type) (enc : TypeId × Value → H) (W : World) (base : Nat) (args : Array Value) (ds gs : List (DataW H)) (before : List MemPlace)
    (hval : ∀ (j : Nat) t v, Try.f3.params[j]? = some t → args[j]? = some v → Value.okWide Try.prog W .any base t v)
    (hW : DataW.Whole enc Try.prog Try.f3.params.toList Rows.eventsSameSpec.vars false W args.toList ds gs before) :
    Calls Try.prog 3 args W fun e W' => ∃ v, e = .returned v ∧ Rows.eventsSameSpec.post enc Try.prog Try.f3 false true false false W args v W' :=
  law_calls (Q := Q) mix (ok1 [] (one_ok closed)) laidOut (tb := 4) (fun t ht => by
      rw [Try.params3] at ht
      simp only [List.mem_cons, List.not_mem_nil, or_false] at ht
      rcases ht with rfl | rfl <;> exact ⟨by kernel_rfl, by kernel_rfl, of_decide_eq_true (by kernel_rfl)⟩) (by kernel_rfl) Try.underlying4 rfl
    (fun ds hd => by rw [Try.params3] at hd; match ds, hd with | [_, _], _ => rfl)
    (fun dts avs H hA hfr => run dts avs H (by rw [Try.params3] at hA; exact hA) hfr) hval hW

set_option maxRecDepth 100000 in
theorem lifted (os : Os) (started : os.Started) (H : Type) (enc : TypeId × Value → H) :
    ReturnsInHanded {} Try.checked os 3 .any (Rows.eventsSameSpec.pre6 enc Try.prog Try.f3 Rows.eventsSameRow.domain false) (Rows.eventsSameSpec.post enc Try.prog Try.f3 false true false false) := by
  refine returnsInHanded_of_change (C := Try.checked) own started (by kernel_rfl) Try.func3
    (ChangeSpec.witness6 (enc := enc) (C := Try.checked) false ⟨#[], #[.agg #[.int .i64 0, .int .i32 0, .int .u8 0, .string ⟨#[]⟩, .slice Option.none 0 0, .string ⟨#[]⟩], .agg #[.int .i64 0, .int .i32 0, .int .u8 0, .string ⟨#[]⟩, .slice Option.none 0 0, .string ⟨#[]⟩]], []⟩ 8 (by kernel_rfl) (by kernel_rfl) (by kernel_rfl) (by kernel_rfl)) ?_
  intro W base args ds gs before hval hW _ _
  exact contract H enc W base args ds gs before hval hW

theorem proved : Rows.EventsSameSaid :=
  OpenClaim.holds_of_wide 3 Try.f3 rfl rfl rfl rfl rfl rfl rfl ⟨rfl, rfl, rfl, rfl, rfl⟩ rfl rfl rfl rfl rfl (by kernel_rfl) Try.func3 (by kernel_rfl)
    (of_decide_eq_true (by kernel_rfl)) (by unfold Func.isWrapper; first | (rw [if_pos (by decide +kernel)]; kernel_rfl) | (rw [if_neg (by decide +kernel)]; exact ⟨rfl, rfl⟩))
    (fun os started H enc _ => lifted os started H enc)
end Go.Proofs.Yteockjhckmlclaa.eventsSame
