/-
  'ParamsLong' is proved: the law returns true of every argument. No condition.
-/
import Derived.Test.YtbokakhpdlkkkaaRows
import Derived.Test.YtbokakhpdlkkkaaAmRow
import Derived.Test.YtbokakhpdlkkkaaRep
import Derived.Test.YtbokakhpdlkkkaaAmArgs2
import Derived.Test.YtbokakhpdlkkkaaTab
import Derived.Test.YtbokakhpdlkkkaaParamsLong0
import Derived.WalkKit
import Derived.ProofKit
set_option linter.unusedVariables false
namespace Go.Proofs.Ytbokakhpdlkkkaa.paramsLong
open Go Go.ChangeShapes Go.WideShapes Go.ChangeAt Go.RowKit AM

theorem own : ownKnob Try.prog.godebug = none := by kernel_rfl
theorem laidOut : laidOutB Try.prog = true := by kernel_rfl

set_option maxRecDepth 100000 in
set_option maxHeartbeats 4000000 in
theorem wakes : isTrue (Fast.call (QL tblL orcR) 200 (.fn 8) [] ⟨0, .nil⟩) = true := by kernel_rfl
theorem closed : OrcOK Try.prog 8 [] (.bool true) := by
  have r := wakes
  rw [Fast.call_eq] at r
  obtain ⟨H', h⟩ := isTrue_some r
  exact orc_of_run mix (okL tblL_ok orcR_ok) rfl rfl h
noncomputable def orc2 (f : FuncId) (args : List AV) : Option AV := bif Nat.beq f 16 then repOrc args else one 8 [] (.bool true) f args
theorem orc2_ok (f : FuncId) (args : List AV) (v : AV) (h : orc2 f args = some v) : OrcOK Try.prog f args v := by
  unfold orc2 at h
  cases hf : Nat.beq f 16 with
  | true => rw [hf] at h; exact orcR_ok f args v (by unfold orcR; rw [hf]; exact h)
  | false => rw [hf] at h; exact one_ok closed f args v h
noncomputable abbrev Q : Prog := Q1 [] orc2
theorem no (f : FuncId) (h : (Nat.beq f 8 || Nat.beq f 16) = false) (a : List AV) : Q.orc f a = none := by
  show (bif Nat.beq f 16 then repOrc a else (bif Nat.beq f 8 && sameArgs a [] then some (AV.bool true) else none)) = none
  rw [Bool.or_eq_false_iff] at h
  rw [h.1, h.2]; rfl
theorem yes : Q.orc 8 [] = some (.bool true) := rfl
theorem rep (s : List UInt8) (c : Nat) (h1 : s.length * c ≤ 140737488355328) (h2 : c ≤ 9223372036854775807) : Q.orc 16 [.str s, .int .i64 (c : Int)] = some (.str (Lib.repeatL s c)) := by
  show (if s.length * c ≤ 140737488355328 ∧ c ≤ 9223372036854775807 then some (AV.str (Lib.repeatL s c)) else none) = _
  rw [if_pos ⟨h1, h2⟩]
theorem run (dts : List Dt) (avs : List AV) (H : AHeap) (h : ArgsR Try.prog H [9, 5, 9] dts avs) (hf : ∀ b, H.next ≤ b → H.get b = none) : ∃ n H', callF Q n (.fn 7) avs H = some (.bool true, H') := by
  obtain ⟨s, v, d1, vs1, rfl, rfl, hs, h1⟩ := arg_one (one_str Try.underlying9) h
  obtain ⟨d, v2, d2, vs2, rfl, rfl, hd, h2⟩ := arg_one (one_int Try.underlying5) h1
  obtain ⟨t, v3, d3, vs3, rfl, rfl, ht, h3⟩ := arg_one (one_str Try.underlying9) h2
  obtain rfl := args_none h3
  have hw := wf_u8 hd
  exact (law7 (Q := Q) fn7 fn3 no yes rep fn9 fn10 fn11 fn12 fn13 fn14 fn17 fn18 hf hw.1 hw.2).runs (fun v H' h => h)

theorem contract (H : Type) (enc : TypeId × Value → H) (W : World) (base : Nat) (args : Array Value) (ds gs : List (DataW H)) (before : List MemPlace)
    (hval : ∀ (j : Nat) t v, Try.f7.params[j]? = some t → args[j]? = some v → Value.okWide Try.prog W .any base t v)
    (hW : DataW.Whole enc Try.prog Try.f7.params.toList Rows.paramsLongSpec.vars false W args.toList ds gs before) :
    Calls Try.prog 7 args W fun e W' => ∃ v, e = .returned v ∧ Rows.paramsLongSpec.post enc Try.prog Try.f7 false true false false W args v W' :=
  law_calls (Q := Q) mix (ok1 [] orc2_ok) laidOut (tb := 4) (fun t ht => by
      rw [Try.params7] at ht
      simp only [List.mem_cons, List.not_mem_nil, or_false] at ht
      rcases ht with rfl | rfl | rfl <;> exact ⟨by kernel_rfl, by kernel_rfl, of_decide_eq_true (by kernel_rfl)⟩) (by kernel_rfl) Try.underlying4 rfl
    (fun ds hd => by rw [Try.params7] at hd; match ds, hd with | [_, _, _], _ => rfl)
    (fun dts avs H hA hfr => run dts avs H (by rw [Try.params7] at hA; exact hA) hfr) hval hW

set_option maxRecDepth 100000 in
theorem lifted (os : Os) (started : os.Started) (H : Type) (enc : TypeId × Value → H) :
    ReturnsInHanded {} Try.checked os 7 .any (Rows.paramsLongSpec.pre6 enc Try.prog Try.f7 Rows.paramsLongRow.domain false) (Rows.paramsLongSpec.post enc Try.prog Try.f7 false true false false) := by
  refine returnsInHanded_of_change (C := Try.checked) own started (by kernel_rfl) Try.func7
    (ChangeSpec.witness6 (enc := enc) (C := Try.checked) false ⟨#[], #[.string ⟨#[]⟩, .int .u8 0, .string ⟨#[]⟩], []⟩ 8 (by kernel_rfl) (by kernel_rfl) (by kernel_rfl) (by kernel_rfl)) ?_
  intro W base args ds gs before hval hW _ _
  exact contract H enc W base args ds gs before hval hW

theorem proved : Rows.ParamsLongSaid :=
  OpenClaim.holds_of_wide 7 Try.f7 rfl rfl rfl rfl rfl rfl rfl ⟨rfl, rfl, rfl, rfl, rfl⟩ rfl rfl rfl rfl rfl (by kernel_rfl) Try.func7 (by kernel_rfl)
    (of_decide_eq_true (by kernel_rfl)) (by unfold Func.isWrapper; first | (rw [if_pos (by decide +kernel)]; kernel_rfl) | (rw [if_neg (by decide +kernel)]; exact ⟨rfl, rfl⟩))
    (fun os started H enc _ => lifted os started H enc)
end Go.Proofs.Ytbokakhpdlkkkaa.paramsLong
