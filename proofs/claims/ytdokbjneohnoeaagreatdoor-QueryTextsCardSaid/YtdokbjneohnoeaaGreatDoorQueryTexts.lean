/-
  'QueryTexts' is proved, and its card: the law returns true of every argument. No condition beyond the tables, which are tied to the program's text.
-/
import Derived.Test.YtdokbjneohnoeaaGreatDoorTie
import Derived.Test.YtdokbjneohnoeaaGreatDoorCards
import Derived.Test.YtdokbjneohnoeaaGreatDoorLaid
import Derived.Test.YtdokbjneohnoeaaGreatDoorRep
import Derived.Test.YtdokbjneohnoeaaGreatDoorTab
import Derived.Test.YtdokbjneohnoeaaGreatDoorAmArgs2
import Derived.Test.YtdokbjneohnoeaaGreatDoorQueryTexts0
import Derived.WalkKit
import Derived.ProofKit
import Derived.LaidMore
import Derived.SevenTiedAt
set_option linter.unusedVariables false
namespace Go.Proofs.YtdokbjneohnoeaaGreatDoor.queryTexts
open Go Go.ChangeShapes Go.WideShapes Go.ChangeAt Go.WideMaps Go.WideElems Go.RowKit AM

theorem own : ownKnob Tryz.prog.godebug = none := by kernel_rfl
theorem laidOut : laidOutB Tryz.prog = true := by kernel_rfl
theorem tg : ∀ t ∈ T0, t.g ∈ [999999, 1000042] ∧ t.g < 999999 := by decide
theorem hgT : ∀ g ∈ [999999, 1000042], g < 999999 → g ∈ (T0).map (·.g) := by decide

set_option maxRecDepth 100000 in
set_option maxHeartbeats 4000000 in
theorem wakes : isTrue (Fast.call (QL T0 tblL orcR) 500 (.fn 12) [] (tabH 0 T0)) = true := by kernel_rfl
theorem closed : OrcOK Tryz.prog T0 12 [] (.bool true) := by
  have r := wakes
  rw [Fast.call_eq] at r
  obtain ⟨H', h⟩ := isTrue_some r
  exact orc_of_run (N := 0) mix tok0 hgT (okL tg tblL_ok orcR_ok) rfl rfl h

noncomputable abbrev Q : Prog := Q1 T0 [999999, 1000042] (one 12 [] (.bool true))
theorem no (f : FuncId) (h : Nat.beq f 12 = false) (a : List AV) : Q.orc f a = none := by
  show (bif Nat.beq f 12 && sameArgs a [] then some (AV.bool true) else none) = none
  rw [h]; rfl
theorem yes : Q.orc 12 [] = some (.bool true) := rfl
theorem lq : LtQ Q := ⟨fn8, fn9, fn19, fn20, fn29, no⟩
theorem qq : QyQ Q := ⟨fn10, no⟩
theorem rq : RfQ Q := ⟨fn7, fn11, fn18, no⟩
theorem run (dts : List Dt) (avs : List AV) (H : AHeap) (h : ArgsR Tryz.prog H [9, 4] dts avs) (hf : ∀ b, H.next ≤ b → H.get b = none) (ht : hasTabs H T0 = true) : ∃ n H', callF Q n (.fn 3) avs H = some (.bool true, H') := by
  obtain ⟨s, v, d2, vs2, rfl, rfl, hs, h2⟩ := arg_one (one_str Tryz.underlying9) h
  obtain ⟨b, w, d3, vs3, rfl, rfl, hb, h3⟩ := arg_one (one_bool Tryz.underlying4) h2
  obtain rfl := args_none h3
  exact (law3 (Q := Q) rq lq qq fn3 yes rfl hf s b).runs (fun v H' h => h)

set_option maxRecDepth 100000 in
theorem contract (H : Type) (enc : TypeId × Value → H) (W : World) (base : Nat) (args : Array Value) (ds gs : List (DataW H)) (before : List MemPlace)
    (hval : ∀ (j : Nat) t v, Tryz.f3.params[j]? = some t → args[j]? = some v → Value.okWide Tryz.prog W .any base t v)
    (hW : DataW.Whole enc Tryz.prog Tryz.f3.params.toList Rows.queryTextsSpec.vars false W args.toList ds gs before) (hL : laidMetH Tryz.prog Rows.queryTextsRow.laid W) :
    Calls Tryz.prog 3 args W fun e W' => ∃ v, e = .returned v ∧ Rows.queryTextsSpec.post enc Tryz.prog Tryz.f3 false true false false W args v W' :=
  law_callsG (Q := Q) mix (ok1 T0 [999999, 1000042] tg (one_ok closed)) laidOut (tb := 4) (fun t ht => by
      rw [Tryz.params3] at ht
      simp only [List.mem_cons, List.not_mem_nil, or_false] at ht
      rcases ht with rfl | rfl <;> exact ⟨by kernel_rfl, by kernel_rfl, of_decide_eq_true (by kernel_rfl)⟩) (by kernel_rfl) Tryz.underlying4 rfl
    (fun ds hd => by rw [Tryz.params3] at hd; match ds, hd with | [_, _], _ => rfl)
    (sr_tabs tok0 (laidT0 hL)) (tabI_glM (l := T0) hgT)
    (fun dts avs H hA hfr hsub _ => run dts avs H (by rw [Tryz.params3] at hA; exact hA) hfr (hasTabs_sub tok0 hsub)) hval hW

/-- The door's own heap meets the condition. -/
theorem door_met (os : Os) (args : Array Value) : laidMetH Tryz.prog Rows.queryTextsRow.laid ((World.doorLaid Tryz.prog 400 os).forCall (fun _ _ => 0) ⟨#[], args, []⟩).memory :=
  laidMetH_of_parts3 (fuel := 8) (laidMet_of_run' 8 (by kernel_rfl) (by kernel_rfl)) (by kernel_rfl) (by kernel_rfl)

set_option maxRecDepth 100000 in
theorem lifted (os : Os) (started : os.Started) (H : Type) (enc : TypeId × Value → H) :
    ReturnsInHanded {} Tryz.checked os 3 .any (fun w args => (Rows.queryTextsSpec.pre enc Tryz.prog Tryz.f3 [] false w args ∧ laidMetH Tryz.prog Rows.queryTextsRow.laid w) ∧ sizedMet enc Tryz.prog Tryz.f3 (OpenSpec.ofChange Rows.queryTextsSpec) false w args)
      (Rows.queryTextsSpec.post enc Tryz.prog Tryz.f3 false true false false) := by
  refine returnsInHanded_of_change_and (C := Tryz.checked) (X := fun w _ => laidMetH Tryz.prog Rows.queryTextsRow.laid w) (fun _ _ _ hh h => h.of_heap hh) own started (by kernel_rfl) Tryz.func3
    (ChangeSpec.witness_shaped (enc := enc) (C := Tryz.checked) (os := os) (X := fun w _ => laidMetH Tryz.prog Rows.queryTextsRow.laid w) false (World.doorLaid Tryz.prog 400 os) #[.string "".toUTF8, .bool false] 8 rfl (World.shaped_of_RefB (by kernel_rfl) (by kernel_rfl)) (by kernel_rfl) (by kernel_rfl) (by kernel_rfl) (door_met os _)) ?_
  intro W base args ds gs before hval hW _ _ hL _
  exact contract H enc W base args ds gs before hval hW hL

theorem holds : Rows.QueryTextsSaid :=
  OpenClaim.holds_of_wide 3 Tryz.f3 rfl rfl rfl rfl rfl rfl rfl ⟨rfl, rfl, rfl, rfl, rfl⟩ rfl rfl rfl rfl rfl (by kernel_rfl) Tryz.func3 (by kernel_rfl)
    (of_decide_eq_true (by kernel_rfl)) (by unfold Func.isWrapper; first | (rw [if_pos (by decide +kernel)]; kernel_rfl) | (rw [if_neg (by decide +kernel)]; exact ⟨rfl, rfl⟩))
    (fun os started H enc _ => lifted os started H enc)

theorem proved : Rows.QueryTextsCardSaid :=
  Claim7.holds_tied_plain_at .later [] [.data, .data, .data, .data, .data] true (true, "f71bec7e5d11176765a41fc005e74763a5cbc358333d0529bcca771490b9ec39") false
    holds (fun _ h => by cases h) (by kernel_rfl) (fun _ h => by cases h) queryTexts_row_tie rfl ⟨rfl, rfl⟩ (by kernel_rfl) rfl
    (fun f fn hf hfn => by
      obtain rfl : f = 3 := Option.some.inj ((show Tryz.prog.funcNamed "jalousie/jalousielaw17.QueryTexts" = some 3 by kernel_rfl).symm.trans hf) |>.symm
      obtain rfl : fn = Tryz.f3 := (Option.some.inj (Tryz.func3.symm.trans hfn)).symm
      exact ⟨by kernel_rfl, fun j t ht => by
        rw [Tryz.params3] at ht
        have hm : t ∈ [9, 4] := by simpa using Array.mem_of_getElem? ht
        have hall : ([9, 4].all fun u => !Tryz.prog.wantsStandIn u) = true := by kernel_rfl
        exact (show Tryz.prog.wantsStandIn t = false by simpa using List.all_eq_true.1 hall t hm)⟩)
    (by kernel_rfl)
end Go.Proofs.YtdokbjneohnoeaaGreatDoor.queryTexts
