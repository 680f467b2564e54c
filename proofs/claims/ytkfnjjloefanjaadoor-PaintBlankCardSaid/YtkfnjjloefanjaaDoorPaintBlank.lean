/-
  'PaintBlank' is proved, and its card: the law returns true of every argument. No condition beyond the tables, which are tied to the program's text.
-/
import Derived.Test.YtkfnjjloefanjaaDoorTie
import Derived.Test.YtkfnjjloefanjaaDoorCards
import Derived.Test.YtkfnjjloefanjaaDoorLaid
import Derived.Test.YtkfnjjloefanjaaDoorRep
import Derived.Test.YtkfnjjloefanjaaDoorTab
import Derived.Test.YtkfnjjloefanjaaDoorAmArgs2
import Derived.Test.YtkfnjjloefanjaaDoorPaintBlank0
import Derived.WalkKit
import Derived.ProofKit
import Derived.LaidMore
import Derived.SevenTiedAt
set_option linter.unusedVariables false
namespace Go.Proofs.YtkfnjjloefanjaaDoor.paintBlank
open Go Go.ChangeShapes Go.WideShapes Go.ChangeAt Go.WideMaps Go.WideElems Go.RowKit AM

theorem own : ownKnob Tryd.prog.godebug = none := by kernel_rfl
theorem laidOut : laidOutB Tryd.prog = true := by kernel_rfl
theorem tg : ∀ t ∈ TT, t.g ∈ [0, 1, 999999, 1000059, 1000060, 1000061] ∧ t.g < 999999 := by decide
theorem hgT : ∀ g ∈ [0, 1, 999999, 1000059, 1000060, 1000061], g < 999999 → g ∈ (TT).map (·.g) := by decide

set_option maxRecDepth 100000 in
set_option maxHeartbeats 4000000 in
theorem wakes : isTrue (Fast.call (QL TT tblL orcR) 400 (.fn 6) [] (tabH 2 TT)) = true := by kernel_rfl
theorem closed : OrcOK Tryd.prog TT 6 [] (.bool true) := by
  have r := wakes
  rw [Fast.call_eq] at r
  obtain ⟨H', h⟩ := isTrue_some r
  exact orc_of_run (N := 2) mix tok hgT (okL tg tblL_ok orcR_ok) rfl rfl h

noncomputable abbrev Q : Prog := Q1 TT [0, 1, 999999, 1000059, 1000060, 1000061] (one 6 [] (.bool true))
theorem no (f : FuncId) (h : Nat.beq f 6 = false) (a : List AV) : Q.orc f a = none := by
  show (bif Nat.beq f 6 && sameArgs a [] then some (AV.bool true) else none) = none
  rw [h]; rfl
theorem yes : Q.orc 6 [] = some (.bool true) := rfl
theorem dq : PdQ Q := ⟨⟨fn7, fn11, fn27, fn28, fn31, fn32, fn39, fn40, fn41, fn42, fn43, fn47, fn48, no⟩, fn8, fn9, fn10, fn29, fn30⟩
theorem run (dts : List Dt) (avs : List AV) (H : AHeap) (h : ArgsR Tryd.prog H [3, 3] dts avs) (hf : ∀ b, H.next ≤ b → H.get b = none) (ht : hasTabs H TT = true) : ∃ n H', callF Q n (.fn 3) avs H = some (.bool true, H') := by
  obtain ⟨w, v1, d1, vs1, rfl, rfl, _, h2⟩ := arg_one (one_int Tryd.underlying3) h
  obtain ⟨hh, v2, d2, vs2, rfl, rfl, _, h3⟩ := arg_one (one_int Tryd.underlying3) h2
  obtain rfl := args_none h3
  exact (law3 (Q := Q) dq fn3 yes rfl ht hf w hh).runs (fun v H' h => h)

set_option maxRecDepth 100000 in
theorem contract (H : Type) (enc : TypeId × Value → H) (W : World) (base : Nat) (args : Array Value) (ds gs : List (DataW H)) (before : List MemPlace)
    (hval : ∀ (j : Nat) t v, Tryd.f3.params[j]? = some t → args[j]? = some v → Value.okWide Tryd.prog W .any base t v)
    (hW : DataW.Whole enc Tryd.prog Tryd.f3.params.toList Rows.paintBlankSpec.vars false W args.toList ds gs before) (hL : laidMetH Tryd.prog Rows.paintBlankRow.laid W) :
    Calls Tryd.prog 3 args W fun e W' => ∃ v, e = .returned v ∧ Rows.paintBlankSpec.post enc Tryd.prog Tryd.f3 false true false false W args v W' :=
  law_callsG (Q := Q) mix (ok1 TT [0, 1, 999999, 1000059, 1000060, 1000061] tg (one_ok closed)) laidOut (tb := 4) (fun t ht => by
      rw [Tryd.params3] at ht
      simp only [List.mem_cons, List.not_mem_nil, or_false] at ht
      rcases ht with rfl | rfl <;> exact ⟨by kernel_rfl, by kernel_rfl, of_decide_eq_true (by kernel_rfl)⟩) (by kernel_rfl) Tryd.underlying4 rfl
    (fun ds hd => by rw [Tryd.params3] at hd; match ds, hd with | [_, _], _ => rfl)
    (sr_tabs tok (laidTT hL)) (tabI_glM (l := TT) hgT)
    (fun dts avs H hA hfr hsub _ => run dts avs H (by rw [Tryd.params3] at hA; exact hA) hfr (hasTabs_sub tok hsub)) hval hW

/-- The door's own heap meets the condition. -/
theorem door_met (os : Os) (args : Array Value) : laidMetH Tryd.prog Rows.paintBlankRow.laid ((World.doorLaid Tryd.prog 400 os).forCall (fun _ _ => 0) ⟨#[], args, []⟩).memory :=
  laidMetH_of_parts3 (fuel := 8) (laidMet_of_run' 8 (by kernel_rfl) (by kernel_rfl)) (by kernel_rfl) (by kernel_rfl)

set_option maxRecDepth 100000 in
theorem lifted (os : Os) (started : os.Started) (H : Type) (enc : TypeId × Value → H) :
    ReturnsInHanded {} Tryd.checked os 3 .any (fun w args => (Rows.paintBlankSpec.pre enc Tryd.prog Tryd.f3 [] false w args ∧ laidMetH Tryd.prog Rows.paintBlankRow.laid w) ∧ sizedMet enc Tryd.prog Tryd.f3 (OpenSpec.ofChange Rows.paintBlankSpec) false w args)
      (Rows.paintBlankSpec.post enc Tryd.prog Tryd.f3 false true false false) := by
  refine returnsInHanded_of_change_and (C := Tryd.checked) (X := fun w _ => laidMetH Tryd.prog Rows.paintBlankRow.laid w) (fun _ _ _ hh h => h.of_heap hh) own started (by kernel_rfl) Tryd.func3
    (ChangeSpec.witness_shaped (enc := enc) (C := Tryd.checked) (os := os) (X := fun w _ => laidMetH Tryd.prog Rows.paintBlankRow.laid w) false (World.doorLaid Tryd.prog 400 os) #[.int .i64 1, .int .i64 1] 8 rfl (World.shaped_of_RefB (by kernel_rfl) (by kernel_rfl)) (by kernel_rfl) (by kernel_rfl) (by kernel_rfl) (door_met os _)) ?_
  intro W base args ds gs before hval hW _ _ hL _
  exact contract H enc W base args ds gs before hval hW hL

theorem holds : Rows.PaintBlankSaid :=
  OpenClaim.holds_of_wide 3 Tryd.f3 rfl rfl rfl rfl rfl rfl rfl ⟨rfl, rfl, rfl, rfl, rfl⟩ rfl rfl rfl rfl rfl (by kernel_rfl) Tryd.func3 (by kernel_rfl)
    (of_decide_eq_true (by kernel_rfl)) (by unfold Func.isWrapper; first | (rw [if_pos (by decide +kernel)]; kernel_rfl) | (rw [if_neg (by decide +kernel)]; exact ⟨rfl, rfl⟩))
    (fun os started H enc _ => lifted os started H enc)

theorem proved : Rows.PaintBlankCardSaid :=
  Claim7.holds_tied_plain_at .later [] [.data, .data, .data, .data, .data] true (true, "948be99cacd8914d68384f4e5a7f7b1acfd69137873d0f96c899e4d1b5cdbdf5") false
    holds (fun _ h => by cases h) (by kernel_rfl) (fun _ h => by cases h) paintBlank_row_tie rfl ⟨rfl, rfl⟩ (by kernel_rfl) rfl
    (fun f fn hf hfn => by
      obtain rfl : f = 3 := Option.some.inj ((show Tryd.prog.funcNamed "jalousie/jalousielaw26.PaintBlank" = some 3 by kernel_rfl).symm.trans hf) |>.symm
      obtain rfl : fn = Tryd.f3 := (Option.some.inj (Tryd.func3.symm.trans hfn)).symm
      exact ⟨by kernel_rfl, fun j t ht => by
        rw [Tryd.params3] at ht
        have hm : t ∈ [3, 3] := by simpa using Array.mem_of_getElem? ht
        have hall : ([3, 3].all fun u => !Tryd.prog.wantsStandIn u) = true := by kernel_rfl
        exact (show Tryd.prog.wantsStandIn t = false by simpa using List.all_eq_true.1 hall t hm)⟩)
    (by kernel_rfl)
end Go.Proofs.YtkfnjjloefanjaaDoor.paintBlank
