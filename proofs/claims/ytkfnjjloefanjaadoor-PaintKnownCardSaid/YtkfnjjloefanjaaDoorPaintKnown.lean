/-
  A closed statement is proved, and its card: its law, run by the abstract machine over the program's tables, returns true. No condition beyond the tables, which are tied to the program's text.
-/
import Derived.Test.YtkfnjjloefanjaaDoorTie
import Derived.Test.YtkfnjjloefanjaaDoorCards
import Derived.Test.YtkfnjjloefanjaaDoorLaid
import Derived.Test.YtkfnjjloefanjaaDoorPaK
import Derived.WalkKit
import Derived.ProofKit
import Derived.LaidMore
import Derived.SevenTiedAt
set_option linter.unusedVariables false
namespace Go.Proofs.YtkfnjjloefanjaaDoor.paintKnown
open Go Go.ChangeShapes Go.WideShapes Go.ChangeAt Go.WideMaps Go.WideElems Go.RowKit AM

theorem own : ownKnob Tryd.prog.godebug = none := by kernel_rfl
theorem laidOut : laidOutB Tryd.prog = true := by kernel_rfl
theorem tg : ∀ t ∈ TT, t.g ∈ [0, 1, 999999, 1000059, 1000060, 1000061] ∧ t.g < 999999 := by decide
theorem hgT : ∀ g ∈ [0, 1, 999999, 1000059, 1000060, 1000061], g < 999999 → g ∈ (TT).map (·.g) := by decide

theorem closed : OrcOK Tryd.prog TT 5 [] (.bool true) := by
  obtain ⟨n, H', h⟩ := knownK.runs (fun v H' h => h)
  exact orc_of_run (N := 2) mix tok hgT (okL tg tblL_ok (one_ok closed6)) rfl rfl h

set_option maxRecDepth 100000 in
theorem contract (H : Type) (enc : TypeId × Value → H) (W : World) (base : Nat) (args : Array Value) (ds gs : List (DataW H)) (before : List MemPlace)
    (hval : ∀ (j : Nat) t v, Tryd.f5.params[j]? = some t → args[j]? = some v → Value.okWide Tryd.prog W .any base t v)
    (hW : DataW.Whole enc Tryd.prog Tryd.f5.params.toList Rows.paintKnownSpec.vars false W args.toList ds gs before) (hL : laidMetH Tryd.prog Rows.paintKnownRow.laid W) :
    Calls Tryd.prog 5 args W fun e W' => ∃ v, e = .returned v ∧ Rows.paintKnownSpec.post enc Tryd.prog Tryd.f5 false true false false W args v W' :=
  law_callsG (Q := Q1 TT [0, 1, 999999, 1000059, 1000060, 1000061] (one 5 [] (.bool true))) mix (ok1 TT [0, 1, 999999, 1000059, 1000060, 1000061] tg (one_ok closed)) laidOut (tb := 4) (fun t ht => by rw [Tryd.params5] at ht; simp at ht) (by kernel_rfl) Tryd.underlying4 rfl
    (fun ds hd => by rw [Tryd.params5] at hd; match ds, hd with | [], _ => rfl)
    (sr_tabs tok (laidTT hL)) (tabI_glM (l := TT) hgT)
    (fun dts avs H hA hfr hsub _ => ⟨1, H, by
      rw [Tryd.params5] at hA
      match dts, avs, hA with
      | [], [], _ =>
        have ho : (Q1 TT [0, 1, 999999, 1000059, 1000060, 1000061] (one 5 [] (.bool true))).orc 5 [] = some (.bool true) := rfl
        have ht : hasTabs H (Q1 TT [0, 1, 999999, 1000059, 1000060, 1000061] (one 5 [] (.bool true))).tabs = true := hasTabs_sub tok hsub
        simp only [callF, ho, ht, if_true]⟩) hval hW

/-- The door's own heap meets the condition. -/
theorem door_met (os : Os) (args : Array Value) : laidMetH Tryd.prog Rows.paintKnownRow.laid ((World.doorLaid Tryd.prog 400 os).forCall (fun _ _ => 0) ⟨#[], args, []⟩).memory :=
  laidMetH_of_parts3 (fuel := 8) (laidMet_of_run' 8 (by kernel_rfl) (by kernel_rfl)) (by kernel_rfl) (by kernel_rfl)

set_option maxRecDepth 100000 in
theorem lifted (os : Os) (started : os.Started) (H : Type) (enc : TypeId × Value → H) :
    ReturnsInHanded {} Tryd.checked os 5 .any (fun w args => (Rows.paintKnownSpec.pre enc Tryd.prog Tryd.f5 [] false w args ∧ laidMetH Tryd.prog Rows.paintKnownRow.laid w) ∧ sizedMet enc Tryd.prog Tryd.f5 (OpenSpec.ofChange Rows.paintKnownSpec) false w args)
      (Rows.paintKnownSpec.post enc Tryd.prog Tryd.f5 false true false false) := by
  refine returnsInHanded_of_change_and (C := Tryd.checked) (X := fun w _ => laidMetH Tryd.prog Rows.paintKnownRow.laid w) (fun _ _ _ hh h => h.of_heap hh) own started (by kernel_rfl) Tryd.func5
    (ChangeSpec.witness_shaped (enc := enc) (C := Tryd.checked) (os := os) (X := fun w _ => laidMetH Tryd.prog Rows.paintKnownRow.laid w) false (World.doorLaid Tryd.prog 400 os) #[] 8 rfl (World.shaped_of_RefB (by kernel_rfl) (by kernel_rfl)) (by kernel_rfl) (by kernel_rfl) (by kernel_rfl) (door_met os _)) ?_
  intro W base args ds gs before hval hW _ _ hL _
  exact contract H enc W base args ds gs before hval hW hL

theorem holds : Rows.PaintKnownSaid :=
  OpenClaim.holds_of_wide 5 Tryd.f5 rfl rfl rfl rfl rfl rfl rfl ⟨rfl, rfl, rfl, rfl, rfl⟩ rfl rfl rfl rfl rfl (by kernel_rfl) Tryd.func5 (by kernel_rfl)
    (of_decide_eq_true (by kernel_rfl)) (by unfold Func.isWrapper; first | (rw [if_pos (by decide +kernel)]; kernel_rfl) | (rw [if_neg (by decide +kernel)]; exact ⟨rfl, rfl⟩))
    (fun os started H enc _ => lifted os started H enc)

theorem proved : Rows.PaintKnownCardSaid :=
  Claim7.holds_tied_plain_at .later [] [.data, .data, .data, .data, .data] true (true, "948be99cacd8914d68384f4e5a7f7b1acfd69137873d0f96c899e4d1b5cdbdf5") false
    holds (fun _ h => by cases h) (by kernel_rfl) (fun _ h => by cases h) paintKnown_row_tie rfl ⟨rfl, rfl⟩ (by kernel_rfl) rfl
    (fun f fn hf hfn => by
      obtain rfl : f = 5 := Option.some.inj ((show Tryd.prog.funcNamed "jalousie/jalousielaw26.PaintKnown" = some 5 by kernel_rfl).symm.trans hf) |>.symm
      obtain rfl : fn = Tryd.f5 := (Option.some.inj (Tryd.func5.symm.trans hfn)).symm
      exact ⟨by kernel_rfl, fun j t ht => by
        rw [Tryd.params5] at ht
        have hm : t ∈ [] := by simpa using Array.mem_of_getElem? ht
        have hall : ([].all fun u => !Tryd.prog.wantsStandIn u) = true := by kernel_rfl
        exact (show Tryd.prog.wantsStandIn t = false by simpa using List.all_eq_true.1 hall t hm)⟩)
    (by kernel_rfl)
end Go.Proofs.YtkfnjjloefanjaaDoor.paintKnown
