/-
  'TermKnown' is proved, and its card: the law returns true of every argument. No condition beyond the tables, which are tied to the program's text.
-/
import Derived.Test.YtfbcgjpblomckaaDoorTie
import Derived.Test.YtfbcgjpblomckaaDoorCards
import Derived.Test.YtfbcgjpblomckaaDoorLaid
import Derived.Test.YtfbcgjpblomckaaDoorRep
import Derived.Test.YtfbcgjpblomckaaDoorTab
import Derived.Test.YtfbcgjpblomckaaDoorAmArgs2
import Derived.Test.YtfbcgjpblomckaaDoorTermKnown0
import Derived.WalkKit
import Derived.ProofKit
import Derived.LaidMore
import Derived.SevenTiedAt
set_option linter.unusedVariables false
namespace Go.Proofs.YtfbcgjpblomckaaDoor.termKnown
open Go Go.ChangeShapes Go.WideShapes Go.ChangeAt Go.WideMaps Go.WideElems Go.RowKit AM

theorem own : ownKnob Tryd.prog.godebug = none := by kernel_rfl
theorem laidOut : laidOutB Tryd.prog = true := by kernel_rfl
theorem tg : ∀ t ∈ TT, t.g ∈ [0, 1] ∧ t.g < 999999 := by decide
theorem hgT : ∀ g ∈ [0, 1], g < 999999 → g ∈ (TT).map (·.g) := by decide

set_option maxRecDepth 100000 in
set_option maxHeartbeats 4000000 in
theorem wakes : isTrue (Fast.call (QL TT tblL orcR) 400 (.fn 10) [] (tabH 2 TT)) = true := by kernel_rfl
theorem closed : OrcOK Tryd.prog TT 10 [] (.bool true) := by
  have r := wakes
  rw [Fast.call_eq] at r
  obtain ⟨H', h⟩ := isTrue_some r
  exact orc_of_run (N := 2) mix tok hgT (okL tg tblL_ok orcR_ok) rfl rfl h

noncomputable abbrev Q : Prog := Q1 TT [0, 1] (one 10 [] (.bool true))
theorem no (f : FuncId) (h : Nat.beq f 10 = false) (a : List AV) : Q.orc f a = none := by
  show (bif Nat.beq f 10 && sameArgs a [] then some (AV.bool true) else none) = none
  rw [h]; rfl
theorem yes : Q.orc 10 [] = some (.bool true) := rfl
theorem rwq : RwQ Q := ⟨no, fn20, fn49, fn76, fn89⟩
theorem atq : AtQ Q := ⟨fn68, fn83, fn84, fn85, fn86, fn91, no⟩
theorem evq : EvN.EvQ Q := ⟨fn22, fn29, fn31, fn23, fn30, fn32, fn33, fn34, fn35, fn36, fn50, fn57, fn58, fn51, fn52, fn53, fn54, fn55, fn56, fn59, fn60, fn61, fn62, fn63, fn64, fn77, fn78, fn79, fn90, no⟩
theorem tqq : EvN.TwQ Q := ⟨rwq, atq, evq, fn7, fn8, fn9, fn11, fn12, fn15, fn17, fn19, fn21, fn24, fn28, fn37, fn38, fn65, fn66, fn67, fn80, fn81, fn82⟩
theorem run (dts : List Dt) (avs : List AV) (H : AHeap) (h : ArgsR Tryd.prog H [] dts avs) (hf : ∀ b, H.next ≤ b → H.get b = none) (ht : hasTabs H TT = true) : ∃ n H', callF Q n (.fn 3) avs H = some (.bool true, H') := by
  obtain rfl := args_none h
  exact (EvN.law3 (Q := Q) tqq fn3 rfl yes ht hf).runs (fun v H' h => h)

set_option maxRecDepth 100000 in
theorem contract (H : Type) (enc : TypeId × Value → H) (W : World) (base : Nat) (args : Array Value) (ds gs : List (DataW H)) (before : List MemPlace)
    (hval : ∀ (j : Nat) t v, Tryd.f3.params[j]? = some t → args[j]? = some v → Value.okWide Tryd.prog W .any base t v)
    (hW : DataW.Whole enc Tryd.prog Tryd.f3.params.toList Rows.termKnownSpec.vars false W args.toList ds gs before) (hL : laidMetH Tryd.prog Rows.termKnownRow.laid W) :
    Calls Tryd.prog 3 args W fun e W' => ∃ v, e = .returned v ∧ Rows.termKnownSpec.post enc Tryd.prog Tryd.f3 false true false false W args v W' :=
  law_callsG (Q := Q) mix (ok1 TT [0, 1] tg (one_ok closed)) laidOut (tb := 4) (fun t ht => by rw [Tryd.params3] at ht; simp at ht) (by kernel_rfl) Tryd.underlying4 rfl
    (fun ds hd => by rw [Tryd.params3] at hd; match ds, hd with | [], _ => rfl)
    (sr_tabs tok (laidTT hL)) (tabI_glM (l := TT) hgT)
    (fun dts avs H hA hfr hsub _ => run dts avs H (by rw [Tryd.params3] at hA; exact hA) hfr (hasTabs_sub tok hsub)) hval hW

/-- The door's own heap meets the condition. -/
theorem door_met (os : Os) (args : Array Value) : laidMetH Tryd.prog Rows.termKnownRow.laid ((World.doorLaid Tryd.prog 400 os).forCall (fun _ _ => 0) ⟨#[], args, []⟩).memory :=
  laidMetH_of_parts3 (fuel := 8) (laidMet_of_run' 8 (by kernel_rfl) (by kernel_rfl)) (by kernel_rfl) (by kernel_rfl)

set_option maxRecDepth 100000 in
theorem lifted (os : Os) (started : os.Started) (H : Type) (enc : TypeId × Value → H) :
    ReturnsInHanded {} Tryd.checked os 3 .any (fun w args => (Rows.termKnownSpec.pre enc Tryd.prog Tryd.f3 [] false w args ∧ laidMetH Tryd.prog Rows.termKnownRow.laid w) ∧ sizedMet enc Tryd.prog Tryd.f3 (OpenSpec.ofChange Rows.termKnownSpec) false w args)
      (Rows.termKnownSpec.post enc Tryd.prog Tryd.f3 false true false false) := by
  refine returnsInHanded_of_change_and (C := Tryd.checked) (X := fun w _ => laidMetH Tryd.prog Rows.termKnownRow.laid w) (fun _ _ _ hh h => h.of_heap hh) own started (by kernel_rfl) Tryd.func3
    (ChangeSpec.witness_shaped (enc := enc) (C := Tryd.checked) (os := os) (X := fun w _ => laidMetH Tryd.prog Rows.termKnownRow.laid w) false (World.doorLaid Tryd.prog 400 os) #[] 8 rfl (World.shaped_of_RefB (by kernel_rfl) (by kernel_rfl)) (by kernel_rfl) (by kernel_rfl) (by kernel_rfl) (door_met os _)) ?_
  intro W base args ds gs before hval hW _ _ hL _
  exact contract H enc W base args ds gs before hval hW hL

theorem holds : Rows.TermKnownSaid :=
  OpenClaim.holds_of_wide 3 Tryd.f3 rfl rfl rfl rfl rfl rfl rfl ⟨rfl, rfl, rfl, rfl, rfl⟩ rfl rfl rfl rfl rfl (by kernel_rfl) Tryd.func3 (by kernel_rfl)
    (of_decide_eq_true (by kernel_rfl)) (by unfold Func.isWrapper; first | (rw [if_pos (by decide +kernel)]; kernel_rfl) | (rw [if_neg (by decide +kernel)]; exact ⟨rfl, rfl⟩))
    (fun os started H enc _ => lifted os started H enc)

theorem proved : Rows.TermKnownCardSaid :=
  Claim7.holds_tied_plain_at .later [] [.data, .data] true (true, "8c63478ceadc2a49fbd03c1a7d0895c4b83e0916450d50beacb00eb1a9b3b000") false
    holds (fun _ h => by cases h) (by kernel_rfl) (fun _ h => by cases h) termKnown_row_tie rfl ⟨rfl, rfl⟩ (by kernel_rfl) rfl
    (fun f fn hf hfn => by
      obtain rfl : f = 3 := Option.some.inj ((show Tryd.prog.funcNamed "jalousie/jalousielaw27.TermKnown" = some 3 by kernel_rfl).symm.trans hf) |>.symm
      obtain rfl : fn = Tryd.f3 := (Option.some.inj (Tryd.func3.symm.trans hfn)).symm
      exact ⟨by kernel_rfl, fun j t ht => by
        rw [Tryd.params3] at ht
        have hm : t ∈ ([] : List TypeId) := by simpa using Array.mem_of_getElem? ht
        have hall : (([] : List TypeId).all fun u => !Tryd.prog.wantsStandIn u) = true := by kernel_rfl
        exact (show Tryd.prog.wantsStandIn t = false by simpa using List.all_eq_true.1 hall t hm)⟩)
    (by kernel_rfl)
end Go.Proofs.YtfbcgjpblomckaaDoor.termKnown
