/-
  'ScriptFrames' is proved, and its card: the law returns true of every argument. No condition beyond the tables, which are tied to the program's text.
-/
import Derived.Test.YtdpabhlhicoodaaDoorTie
import Derived.Test.YtdpabhlhicoodaaDoorCards
import Derived.Test.YtdpabhlhicoodaaDoorLaid
import Derived.Test.YtdpabhlhicoodaaDoorRep
import Derived.Test.YtdpabhlhicoodaaDoorTab
import Derived.Test.YtdpabhlhicoodaaDoorAmArgs2
import Derived.Test.YtdpabhlhicoodaaDoorScriptFrames0
import Derived.WalkKit
import Derived.ProofKit
import Derived.LaidMore
import Derived.SevenTiedAt
set_option linter.unusedVariables false
namespace Go.Proofs.YtdpabhlhicoodaaDoor.scriptFrames
open Go Go.ChangeShapes Go.WideShapes Go.ChangeAt Go.WideMaps Go.WideElems Go.RowKit AM

theorem own : ownKnob Tryd.prog.godebug = none := by kernel_rfl
theorem laidOut : laidOutB Tryd.prog = true := by kernel_rfl
theorem tg : ∀ t ∈ T0, t.g ∈ [] := by decide

set_option maxRecDepth 100000 in
set_option maxHeartbeats 4000000 in
theorem wakes : isTrue (Fast.call (QL T0 tblL orcR) 500 (.fn 4) [] (tabH 0 T0)) = true := by kernel_rfl
theorem closed : OrcOK Tryd.prog T0 4 [] (.bool true) := by
  have r := wakes
  rw [Fast.call_eq] at r
  obtain ⟨H', h⟩ := isTrue_some r
  exact orc_of_run (N := 0) mix tok0 (okL tg tblL_ok orcR_ok) rfl rfl h

noncomputable abbrev Q : Prog := Q1 T0 [] (one 4 [] (.bool true))
theorem no (f : FuncId) (h : Nat.beq f 4 = false) (a : List AV) : Q.orc f a = none := by
  show (bif Nat.beq f 4 && sameArgs a [] then some (AV.bool true) else none) = none
  rw [h]; rfl
theorem yes : Q.orc 4 [] = some (.bool true) := rfl
theorem wf_u8' {n : Int} (h : (Lit.int .u8 n).wf = true) : 0 ≤ n ∧ n ≤ 255 := wf_u8 h
theorem run (dts : List Dt) (avs : List AV) (H : AHeap) (h : ArgsR Tryd.prog H [5, 9] dts avs) (hf : ∀ b, H.next ≤ b → H.get b = none) (ht : hasTabs H T0 = true) : ∃ n H', callF Q n (.fn 3) avs H = some (.bool true, H') := by
  obtain ⟨k, c, d1, vs1, rfl, rfl, hk, h1⟩ := arg_one (one_int Tryd.underlying5) h
  obtain ⟨s, v, d2, vs2, rfl, rfl, hs, h2⟩ := arg_one (one_str Tryd.underlying9) h1
  obtain rfl := args_none h2
  obtain ⟨k0, k1⟩ := wf_u8' hk
  obtain ⟨n, rfl⟩ : ∃ n : Nat, k = n := ⟨k.toNat, by omega⟩
  exact (law3 (Q := Q) no fn3 fn5 yes rfl (k := n) (by omega) hf hs).runs (fun v H' h => h)

set_option maxRecDepth 100000 in
theorem contract (H : Type) (enc : TypeId × Value → H) (W : World) (base : Nat) (args : Array Value) (ds gs : List (DataW H)) (before : List MemPlace)
    (hval : ∀ (j : Nat) t v, Tryd.f3.params[j]? = some t → args[j]? = some v → Value.okWide Tryd.prog W .any base t v)
    (hW : DataW.Whole enc Tryd.prog Tryd.f3.params.toList Rows.scriptFramesSpec.vars false W args.toList ds gs before) (hL : laidMetH Tryd.prog Rows.scriptFramesRow.laid W) :
    Calls Tryd.prog 3 args W fun e W' => ∃ v, e = .returned v ∧ Rows.scriptFramesSpec.post enc Tryd.prog Tryd.f3 false true false false W args v W' :=
  law_callsG (Q := Q) mix (ok1 T0 [] tg (one_ok closed)) laidOut (tb := 4) (fun t ht => by
      rw [Tryd.params3] at ht
      simp only [List.mem_cons, List.not_mem_nil, or_false] at ht
      rcases ht with rfl | rfl <;> exact ⟨by kernel_rfl, by kernel_rfl, of_decide_eq_true (by kernel_rfl)⟩) (by kernel_rfl) Tryd.underlying4 rfl
    (fun ds hd => by rw [Tryd.params3] at hd; match ds, hd with | [_, _], _ => rfl)
    (sr_tabs tok0 (laidT0 hL)) (show ∀ g ∈ [], _ from tabI_gl (l := T0))
    (fun dts avs H hA hfr hsub _ => run dts avs H (by rw [Tryd.params3] at hA; exact hA) hfr (hasTabs_sub tok0 hsub)) hval hW

/-- The heap behind the start-up of the variables, the table that is given by its name laid beside. -/
noncomputable def doorW (os : Os) : World := { World.doorLaid Tryd.prog 100 os with heap := (World.doorLaid Tryd.prog 100 os).heap.setIfInBounds 6 (.cells (Pinned.utf8FirstZ.map fun (n : Nat) => Value.int .u8 (Int.ofNat n)).toArray 149 (0, 0)) }
/-- The door's own heap meets the condition. -/
theorem door_met (os : Os) (args : Array Value) : laidMetH Tryd.prog Rows.scriptFramesRow.laid ((doorW os).forCall (fun _ _ => 0) ⟨#[], args, []⟩).memory :=
  laidMetH_of_parts3 (fuel := 8) (laidMet_of_run' 8 (by kernel_rfl) (by kernel_rfl)) (by kernel_rfl) (by kernel_rfl)

set_option maxRecDepth 100000 in
theorem lifted (os : Os) (started : os.Started) (H : Type) (enc : TypeId × Value → H) :
    ReturnsInHanded {} Tryd.checked os 3 .any (fun w args => (Rows.scriptFramesSpec.pre enc Tryd.prog Tryd.f3 [] false w args ∧ laidMetH Tryd.prog Rows.scriptFramesRow.laid w) ∧ sizedMet enc Tryd.prog Tryd.f3 (OpenSpec.ofChange Rows.scriptFramesSpec) false w args)
      (Rows.scriptFramesSpec.post enc Tryd.prog Tryd.f3 false true false false) := by
  refine returnsInHanded_of_change_and (C := Tryd.checked) (X := fun w _ => laidMetH Tryd.prog Rows.scriptFramesRow.laid w) (fun _ _ _ hh h => h.of_heap hh) own started (by kernel_rfl) Tryd.func3
    (ChangeSpec.witness_shaped (enc := enc) (C := Tryd.checked) (os := os) (X := fun w _ => laidMetH Tryd.prog Rows.scriptFramesRow.laid w) false (doorW os) #[.int .u8 0, .string "".toUTF8] 8 rfl (World.shaped_of_RefB (by kernel_rfl) (by kernel_rfl)) (by kernel_rfl) (by kernel_rfl) (by kernel_rfl) (door_met os _)) ?_
  intro W base args ds gs before hval hW _ _ hL _
  exact contract H enc W base args ds gs before hval hW hL

theorem holds : Rows.ScriptFramesSaid :=
  OpenClaim.holds_of_wide 3 Tryd.f3 rfl rfl rfl rfl rfl rfl rfl ⟨rfl, rfl, rfl, rfl, rfl⟩ rfl rfl rfl rfl rfl (by kernel_rfl) Tryd.func3 (by kernel_rfl)
    (of_decide_eq_true (by kernel_rfl)) (by unfold Func.isWrapper; first | (rw [if_pos (by decide +kernel)]; kernel_rfl) | (rw [if_neg (by decide +kernel)]; exact ⟨rfl, rfl⟩))
    (fun os started H enc _ => lifted os started H enc)

theorem proved : Rows.ScriptFramesCardSaid :=
  Claim7.holds_tied_plain_at .later [] [.data, .data, .data, .data, .sentinel, .sentinel, .pinned] true (true, "9398f3f75674961d1709f81543e59a09735f6b32d8621d58dc1611fb8f0ef671") true
    holds (fun _ h => by cases h) (by kernel_rfl) (fun _ h => by cases h) scriptFrames_row_tie rfl ⟨rfl, rfl⟩ (by kernel_rfl) rfl
    (fun f fn hf hfn => by
      obtain rfl : f = 3 := Option.some.inj ((show Tryd.prog.funcNamed "jalousie/jalousielaw31.ScriptFrames" = some 3 by kernel_rfl).symm.trans hf) |>.symm
      obtain rfl : fn = Tryd.f3 := (Option.some.inj (Tryd.func3.symm.trans hfn)).symm
      exact ⟨by kernel_rfl, fun j t ht => by
        rw [Tryd.params3] at ht
        have hm : t ∈ [5, 9] := by simpa using Array.mem_of_getElem? ht
        have hall : ([5, 9].all fun u => !Tryd.prog.wantsStandIn u) = true := by kernel_rfl
        exact (show Tryd.prog.wantsStandIn t = false by simpa using List.all_eq_true.1 hall t hm)⟩)
    (by kernel_rfl)
end Go.Proofs.YtdpabhlhicoodaaDoor.scriptFrames
