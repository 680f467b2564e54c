/-
  'EventsLong' is proved: the law returns true of every argument. No condition.
-/
import Derived.Test.YteockjhckmlclaaRows
import Derived.Test.YteockjhckmlclaaAmRow
import Derived.Test.YteockjhckmlclaaRep
import Derived.Test.YteockjhckmlclaaAmArgs2
import Derived.Test.YteockjhckmlclaaTab
import Derived.Test.YteockjhckmlclaaEventsLong0
import Derived.WalkKit
import Derived.ProofKit
set_option linter.unusedVariables false
namespace Go.Proofs.Yteockjhckmlclaa.eventsLong
open Go Go.ChangeShapes Go.WideShapes Go.ChangeAt Go.RowKit AM

theorem own : ownKnob Try.prog.godebug = none := by kernel_rfl
theorem laidOut : laidOutB Try.prog = true := by kernel_rfl

set_option maxRecDepth 100000 in
set_option maxHeartbeats 4000000 in
theorem wakes : isTrue (Fast.call (QL tblL orcR) 200 (.fn 11) [] ⟨0, .nil⟩) = true := by kernel_rfl
theorem closed : OrcOK Try.prog 11 [] (.bool true) := by
  have r := wakes
  rw [Fast.call_eq] at r
  obtain ⟨H', h⟩ := isTrue_some r
  exact orc_of_run mix (okL tblL_ok orcR_ok) rfl rfl h
noncomputable def orc2 (f : FuncId) (args : List AV) : Option AV := bif Nat.beq f 24 then repOrc args else one 11 [] (.bool true) f args
theorem orc2_ok (f : FuncId) (args : List AV) (v : AV) (h : orc2 f args = some v) : OrcOK Try.prog f args v := by
  unfold orc2 at h
  cases hf : Nat.beq f 24 with
  | true => rw [hf] at h; exact orcR_ok f args v (by unfold orcR; rw [hf]; exact h)
  | false => rw [hf] at h; exact one_ok closed f args v h
noncomputable abbrev Q : Prog := Q1 [] orc2
theorem no (f : FuncId) (h : (Nat.beq f 11 || Nat.beq f 24) = false) (a : List AV) : Q.orc f a = none := by
  show (bif Nat.beq f 24 then repOrc a else (bif Nat.beq f 11 && sameArgs a [] then some (AV.bool true) else none)) = none
  rw [Bool.or_eq_false_iff] at h
  rw [h.1, h.2]; rfl
theorem yes : Q.orc 11 [] = some (.bool true) := rfl
theorem rep (s : List UInt8) (c : Nat) (h1 : s.length * c ≤ 140737488355328) (h2 : c ≤ 9223372036854775807) : Q.orc 24 [.str s, .int .i64 (c : Int)] = some (.str (Lib.repeatL s c)) := by
  show (if s.length * c ≤ 140737488355328 ∧ c ≤ 9223372036854775807 then some (AV.str (Lib.repeatL s c)) else none) = _
  rw [if_pos ⟨h1, h2⟩]
theorem evq : EvQ Q := ⟨fn14, fn16, fn18, fn19, fn22, fn27, fn28, fn29, fn30, fn31, fn32, fn33, fn40, fn41, fn48, fn49, fn50, fn51, fn52, fn53, fn54, fn55, fn56, fn57, fn58, fn59, fn68, fn69, fn70, fn74, no⟩
theorem erq : EvR Q := ⟨evq, fn12, fn13, fn15, fn25, fn26, fn17, fn20, fn21, fn34, fn35, fn36, fn37, fn38, fn39, fn60, fn61, fn62, fn71⟩
theorem run (dts : List Dt) (avs : List AV) (H : AHeap) (h : ArgsR Try.prog H [5, 57, 9, 9] dts avs) (hf : ∀ b, H.next ≤ b → H.get b = none) : ∃ n H', callF Q n (.fn 10) avs H = some (.bool true, H') := by
  obtain ⟨c, v1, d1, vs1, rfl, rfl, hc, h1⟩ := arg_one (one_int Try.underlying5) h
  obtain ⟨n, v2, d2, vs2, rfl, rfl, hn, h2⟩ := arg_one (one_int Try.underlying57) h1
  obtain ⟨a, v3, d3, vs3, rfl, rfl, _, h3⟩ := arg_one (one_str Try.underlying9) h2
  obtain ⟨b, v4, d4, vs4, rfl, rfl, _, h4⟩ := arg_one (one_str Try.underlying9) h3
  obtain rfl := args_none h4
  have hn' : 0 ≤ n ∧ n ≤ 65535 := by
    simp only [Lit.wf, Bool.and_eq_true, decide_eq_true_eq] at hn
    exact ⟨hn.1, hn.2⟩
  exact (law10 (Q := Q) erq fn10 fn5 yes rep hf (wf_u8 hc) hn').runs (fun v H' h => h)

set_option maxRecDepth 100000 in
theorem contract (H : Type) (enc : TypeId × Value → H) (W : World) (base : Nat) (args : Array Value) (ds gs : List (DataW H)) (before : List MemPlace)
    (hval : ∀ (j : Nat) t v, Try.f10.params[j]? = some t → args[j]? = some v → Value.okWide Try.prog W .any base t v)
    (hW : DataW.Whole enc Try.prog Try.f10.params.toList Rows.eventsLongSpec.vars false W args.toList ds gs before) :
    Calls Try.prog 10 args W fun e W' => ∃ v, e = .returned v ∧ Rows.eventsLongSpec.post enc Try.prog Try.f10 false true false false W args v W' :=
  law_calls (Q := Q) mix (ok1 [] orc2_ok) laidOut (tb := 4) (fun t ht => by
      rw [Try.params10] at ht
      simp only [List.mem_cons, List.not_mem_nil, or_false] at ht
      rcases ht with rfl | rfl | rfl | rfl <;> exact ⟨by kernel_rfl, by kernel_rfl, of_decide_eq_true (by kernel_rfl)⟩) (by kernel_rfl) Try.underlying4 rfl
    (fun ds hd => by rw [Try.params10] at hd; match ds, hd with | [_, _, _, _], _ => rfl)
    (fun dts avs H hA hfr => run dts avs H (by rw [Try.params10] at hA; exact hA) hfr) hval hW

set_option maxRecDepth 100000 in
theorem lifted (os : Os) (started : os.Started) (H : Type) (enc : TypeId × Value → H) :
    ReturnsInHanded {} Try.checked os 10 .any (Rows.eventsLongSpec.pre6 enc Try.prog Try.f10 Rows.eventsLongRow.domain false) (Rows.eventsLongSpec.post enc Try.prog Try.f10 false true false false) := by
  refine returnsInHanded_of_change (C := Try.checked) own started (by kernel_rfl) Try.func10
    (ChangeSpec.witness6 (enc := enc) (C := Try.checked) false ⟨#[], #[.int .u8 0, .int .u16 0, .string ⟨#[]⟩, .string ⟨#[]⟩], []⟩ 8 (by kernel_rfl) (by kernel_rfl) (by kernel_rfl) (by kernel_rfl)) ?_
  intro W base args ds gs before hval hW _ _
  exact contract H enc W base args ds gs before hval hW

theorem proved : Rows.EventsLongSaid :=
  OpenClaim.holds_of_wide 10 Try.f10 rfl rfl rfl rfl rfl rfl rfl ⟨rfl, rfl, rfl, rfl, rfl⟩ rfl rfl rfl rfl rfl (by kernel_rfl) Try.func10 (by kernel_rfl)
    (of_decide_eq_true (by kernel_rfl)) (by unfold Func.isWrapper; first | (rw [if_pos (by decide +kernel)]; kernel_rfl) | (rw [if_neg (by decide +kernel)]; exact ⟨rfl, rfl⟩))
    (fun os started H enc _ => lifted os started H enc)
end Go.Proofs.Yteockjhckmlclaa.eventsLong
