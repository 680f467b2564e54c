/-
  'ParamsBack' is proved, and its card: the law returns true of every argument. No condition beyond the tables, which are tied to the program's text.
-/
import Derived.Test.YtcfjjeipdacbcaaDoorTie
import Derived.Test.YtcfjjeipdacbcaaDoorCards
import Derived.Test.YtcfjjeipdacbcaaDoorLaid
import Derived.Test.YtcfjjeipdacbcaaDoorRep
import Derived.Test.YtcfjjeipdacbcaaDoorTab
import Derived.Test.YtcfjjeipdacbcaaDoorAmArgs2
import Derived.Test.YtcfjjeipdacbcaaDoorParamsBack0
import Derived.WalkKit
import Derived.ProofKit
import Derived.LaidMore
import Derived.SevenTiedAt
set_option linter.unusedVariables false
namespace Go.Proofs.YtcfjjeipdacbcaaDoor.paramsBack
open Go Go.ChangeShapes Go.WideShapes Go.ChangeAt Go.WideMaps Go.WideElems Go.RowKit AM

theorem own : ownKnob Tryd.prog.godebug = none := by kernel_rfl
theorem laidOut : laidOutB Tryd.prog = true := by kernel_rfl
theorem tg : ∀ t ∈ TP, t.g ∈ [1, 2, 3] := by decide

set_option maxRecDepth 100000 in
set_option maxHeartbeats 4000000 in
theorem wakes : isTrue (Fast.call (QL TP tblL orcR) 500 (.fn 10) [] (tabH 4 TP)) = true := by kernel_rfl
theorem closed : OrcOK Tryd.prog TP 10 [] (.bool true) := by
  have r := wakes
  rw [Fast.call_eq] at r
  obtain ⟨H', h⟩ := isTrue_some r
  exact orc_of_run (N := 4) mix tokP (okL tg tblL_ok orcR_ok) rfl rfl h

noncomputable abbrev Q : Prog := Q1 TP [1, 2, 3] (one 10 [] (.bool true))
theorem no (f : FuncId) (h : Nat.beq f 10 = false) (a : List AV) : Q.orc f a = none := by
  show (bif Nat.beq f 10 && sameArgs a [] then some (AV.bool true) else none) = none
  rw [h]; rfl
theorem yes : Q.orc 10 [] = some (.bool true) := rfl
theorem wf_u16 {n : Int} (h : (Lit.int .u16 n).wf = true) : 0 ≤ n ∧ n ≤ 65535 := by
  simp only [Lit.wf, Bool.and_eq_true, decide_eq_true_eq] at h
  have h1 := h.1
  have h2 : n ≤ 65535 := h.2
  exact ⟨h1, h2⟩
theorem itq : ItQ Q := ⟨fn11, fn26, fn46, fn58, fn59, fn60, fn77, fn78, fn79, fun f h a => no f (by
  cases hb : Nat.beq f 10 with
  | false => rfl
  | true =>
    obtain rfl := Nat.eq_of_beq_eq_true hb
    exact absurd h (by decide)) a⟩
theorem pq : PbQ Q := ⟨itq, fn3, fn12, fn13, fn14, fn27, fn28, fn47, no, yes, rfl⟩
theorem run (dts : List Dt) (avs : List AV) (H : AHeap) (h : ArgsR Tryd.prog H [22] dts avs) (hf : ∀ b, H.next ≤ b → H.get b = none) (ht : hasTabs H TP = true) : ∃ n H', callF Q n (.fn 3) avs H = some (.bool true, H') := by
  obtain ⟨L, v, d2, vs2, rfl, hv, hG, h2⟩ := arg_one (one_sliceS (one_sliceS (one_int Tryd.underlying27) Tryd.underlying25) Tryd.underlying22) h
  obtain rfl := args_none h2
  exact (lawPB (Q := Q) pq hf ht (L := L) hv (fun l hl x hx => wf_u16 ((hG.2 l hl).2 x hx))).runs (fun v H' h => h)

set_option maxRecDepth 100000 in
theorem contract (H : Type) (enc : TypeId × Value → H) (W : World) (base : Nat) (args : Array Value) (ds gs : List (DataW H)) (before : List MemPlace)
    (hval : ∀ (j : Nat) t v, Tryd.f3.params[j]? = some t → args[j]? = some v → Value.okWide Tryd.prog W .any base t v)
    (hW : DataW.Whole enc Tryd.prog Tryd.f3.params.toList Rows.paramsBackSpec.vars false W args.toList ds gs before) (hL : laidMetH Tryd.prog Rows.paramsBackRow.laid W) :
    Calls Tryd.prog 3 args W fun e W' => ∃ v, e = .returned v ∧ Rows.paramsBackSpec.post enc Tryd.prog Tryd.f3 false true false false W args v W' :=
  law_callsG (Q := Q) mix (ok1 TP [1, 2, 3] tg (one_ok closed)) laidOut (tb := 4) (fun t ht => by
      rw [Tryd.params3] at ht
      simp only [List.mem_cons, List.not_mem_nil, or_false] at ht
      rcases ht with rfl <;> exact ⟨by kernel_rfl, by kernel_rfl, of_decide_eq_true (by kernel_rfl)⟩) (by kernel_rfl) Tryd.underlying4 rfl
    (fun ds hd => by rw [Tryd.params3] at hd; match ds, hd with | [_], _ => rfl)
    (sr_tabs tokP (laidTP hL)) (show ∀ g ∈ [1, 2, 3], _ from tabI_gl (l := TP))
    (fun dts avs H hA hfr hsub _ => run dts avs H (by rw [Tryd.params3] at hA; exact hA) hfr (hasTabs_sub tokP hsub)) hval hW

/-- The door's own heap meets the condition. -/
theorem door_met (os : Os) (args : Array Value) : laidMetH Tryd.prog Rows.paramsBackRow.laid ((World.doorLaid Tryd.prog 400 os).forCall (fun _ _ => 0) ⟨#[], args, []⟩).memory :=
  laidMetH_of_parts3 (fuel := 8) (laidMet_of_run' 8 (by kernel_rfl) (by kernel_rfl)) (by kernel_rfl) (by kernel_rfl)

set_option maxRecDepth 100000 in
theorem lifted (os : Os) (started : os.Started) (H : Type) (enc : TypeId × Value → H) :
    ReturnsInHanded {} Tryd.checked os 3 .any (fun w args => (Rows.paramsBackSpec.pre enc Tryd.prog Tryd.f3 [] false w args ∧ laidMetH Tryd.prog Rows.paramsBackRow.laid w) ∧ sizedMet enc Tryd.prog Tryd.f3 (OpenSpec.ofChange Rows.paramsBackSpec) false w args)
      (Rows.paramsBackSpec.post enc Tryd.prog Tryd.f3 false true false false) := by
  refine returnsInHanded_of_change_and (C := Tryd.checked) (X := fun w _ => laidMetH Tryd.prog Rows.paramsBackRow.laid w) (fun _ _ _ hh h => h.of_heap hh) own started (by kernel_rfl) Tryd.func3
    (ChangeSpec.witness_shaped (enc := enc) (C := Tryd.checked) (os := os) (X := fun w _ => laidMetH Tryd.prog Rows.paramsBackRow.laid w) false (World.doorLaid Tryd.prog 400 os) #[.slice Option.none 0 0] 8 rfl (World.shaped_of_RefB (by kernel_rfl) (by kernel_rfl)) (by kernel_rfl) (by kernel_rfl) (by kernel_rfl) (door_met os _)) ?_
  intro W base args ds gs before hval hW _ _ hL _
  exact contract H enc W base args ds gs before hval hW hL

theorem holds : Rows.ParamsBackSaid :=
  OpenClaim.holds_of_wide 3 Tryd.f3 rfl rfl rfl rfl rfl rfl rfl ⟨rfl, rfl, rfl, rfl, rfl⟩ rfl rfl rfl rfl rfl (by kernel_rfl) Tryd.func3 (by kernel_rfl)
    (of_decide_eq_true (by kernel_rfl)) (by unfold Func.isWrapper; first | (rw [if_pos (by decide +kernel)]; kernel_rfl) | (rw [if_neg (by decide +kernel)]; exact ⟨rfl, rfl⟩))
    (fun os started H enc _ => lifted os started H enc)

theorem proved : Rows.ParamsBackCardSaid :=
  Claim7.holds_tied_plain_at .later [] [.data, .data, .data] true (true, "d0ba8ba8491c24b01454f412fb9cf9c6e3e3fb0b6c188dacf21afa9f9f5b9135") false
    holds (fun _ h => by cases h) (by kernel_rfl) (fun _ h => by cases h) paramsBack_row_tie rfl ⟨rfl, rfl⟩ (by kernel_rfl) rfl
    (fun f fn hf hfn => by
      obtain rfl : f = 3 := Option.some.inj ((show Tryd.prog.funcNamed "jalousie/jalousielaw07.ParamsBack" = some 3 by kernel_rfl).symm.trans hf) |>.symm
      obtain rfl : fn = Tryd.f3 := (Option.some.inj (Tryd.func3.symm.trans hfn)).symm
      exact ⟨by kernel_rfl, fun j t ht => by
        rw [Tryd.params3] at ht
        have hm : t ∈ [22] := by simpa using Array.mem_of_getElem? ht
        have hall : ([22].all fun u => !Tryd.prog.wantsStandIn u) = true := by kernel_rfl
        exact (show Tryd.prog.wantsStandIn t = false by simpa using List.all_eq_true.1 hall t hm)⟩)
    (by kernel_rfl)
end Go.Proofs.YtcfjjeipdacbcaaDoor.paramsBack
