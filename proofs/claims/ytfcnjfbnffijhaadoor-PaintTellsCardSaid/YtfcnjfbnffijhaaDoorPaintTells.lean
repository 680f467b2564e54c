/-
  'PaintTells' is proved, and its card: the law returns true of every argument. No condition beyond the tables, which are tied to the program's text.
-/
import Derived.Test.YtfcnjfbnffijhaaDoorTie
import Derived.Test.YtfcnjfbnffijhaaDoorCards
import Derived.Test.YtfcnjfbnffijhaaDoorLaid
import Derived.Test.YtfcnjfbnffijhaaDoorRep
import Derived.Test.YtfcnjfbnffijhaaDoorTab
import Derived.Test.YtfcnjfbnffijhaaDoorAmArgs2
import Derived.Test.YtfcnjfbnffijhaaDoorPtX5
import Derived.Test.YtfcnjfbnffijhaaDoorItoaT
import Derived.WalkKit
import Derived.ProofKit
import Derived.LaidMore
import Derived.SevenTiedAt
set_option linter.unusedVariables false
namespace Go.Proofs.YtfcnjfbnffijhaaDoor.paintTells
open Go Go.ChangeShapes Go.WideShapes Go.ChangeAt Go.WideMaps Go.WideElems Go.RowKit AM

theorem own : ownKnob Tryd.prog.godebug = none := by kernel_rfl
theorem laidOut : laidOutB Tryd.prog = true := by kernel_rfl
theorem tg : ∀ t ∈ TT, t.g ∈ [0, 1, 2, 999999, 1000061, 1000062, 1000063] ∧ t.g < 999999 := by decide
theorem hgT : ∀ g ∈ [0, 1, 2, 999999, 1000061, 1000062, 1000063], g < 999999 → g ∈ (TT).map (·.g) := by decide

set_option maxRecDepth 100000 in
set_option maxHeartbeats 4000000 in
theorem wakes : isTrue (Fast.call (QL TT tblL orcR) 400 (.fn 5) [] (tabH 3 TT)) = true := by kernel_rfl
theorem closed : OrcOK Tryd.prog TT 5 [] (.bool true) := by
  have r := wakes
  rw [Fast.call_eq] at r
  obtain ⟨H', h⟩ := isTrue_some r
  exact orc_of_run (N := 3) mix tok hgT (okL tg tblL_ok orcR_ok) rfl rfl h

noncomputable abbrev Q : Prog := QH TT [0, 1, 2, 999999, 1000061, 1000062, 1000063] (orcI 5) 60 joinO
theorem no (f : FuncId) (h : (Nat.beq f 5 || Nat.beq f 44) = false) (a : List AV) : Q.orc f a = none := by
  obtain ⟨h1, h2⟩ := Bool.or_eq_false_iff.1 h
  show orcI 5 f a = none
  unfold orcI
  rw [h2]
  show (bif Nat.beq f 5 && sameArgs a [] then some (AV.bool true) else none) = none
  rw [h1]; rfl
theorem fq {f : Nat} {F : AFunc} (h : Nat.beq f 60 = false) (e : (Q0 [0, 1, 2, 999999, 1000061, 1000062, 1000063]).fns f = some F) : Q.fns f = some F := (QH_fns h).trans e
theorem itq (n : Nat) (h : n < 401) : Q.orc 44 [.int .i64 (n : Int)] = some (.str (D n)) := by
  show (if n < 401 then some (AV.str (D n)) else none) = _
  rw [if_pos h]
theorem yes : Q.orc 5 [] = some (.bool true) := rfl
theorem fqq : PfQ Q := ⟨⟨⟨⟨⟨fq rfl fn16, fq rfl fn7, fq rfl fn17, fq rfl fn35, fq rfl fn18, fq rfl fn19, fq rfl fn49, fq rfl fn36, fq rfl fn37, fq rfl fn38, fq rfl fn39, fq rfl fn56, fq rfl fn50, no⟩, fq rfl fn11, fq rfl fn9, fq rfl fn26, fq rfl fn24⟩, fq rfl fn28, fq rfl fn31, fq rfl fn42, fq rfl fn54, fq rfl fn58, fq rfl fn61⟩, fq rfl fn53, fq rfl fn57, rfl, fun _ _ => rfl, itq, rfl⟩, fq rfl fn13, fq rfl fn29, fq rfl fn30, fq rfl fn43⟩
theorem dqq : PdQ Q := ⟨fqq.bq.cq.nq.pq, fq rfl fn32, fq rfl fn6, fq rfl fn41, fq rfl fn25, fq rfl fn51⟩
theorem mqq : PmQ Q := ⟨fqq, dqq, fq rfl fn8, fq rfl fn10, fq rfl fn12, fq rfl fn14, fq rfl fn20, fq rfl fn21, fq rfl fn22, fq rfl fn23, fq rfl fn27, fq rfl fn33, fq rfl fn34, fq rfl fn40, fq rfl fn45, fq rfl fn46, fq rfl fn47, fq rfl fn48⟩
theorem run (dts : List Dt) (avs : List AV) (H : AHeap) (h : ArgsR Tryd.prog H [24, 24] dts avs) (hf : ∀ b, H.next ≤ b → H.get b = none) (ht : hasTabs H TT = true) : ∃ n H', callF Q n (.fn 3) avs H = some (.bool true, H') := by
  obtain ⟨cs, d1, vs1, rfl, ⟨w, h1, v, x, y, s, l, rfl, r1, i1, n1⟩, h2⟩ := arg_aggH (aggH_of Tryd.underlying24 (G := fun H cs => ∃ (w h : Int) (v : AV) (x y : Int) (s : Bool) (l : List Ce), cs = mat w h v x y s ∧ RowS H v l ∧ InP l ∧ InF l) matW) h
  obtain ⟨cs, d2, vs2, rfl, ⟨w', h1', v', x', y', s', l', rfl, r2, i2, n2⟩, h3⟩ := arg_aggH (aggH_of Tryd.underlying24 (G := fun H cs => ∃ (w h : Int) (v : AV) (x y : Int) (s : Bool) (l : List Ce), cs = mat w h v x y s ∧ RowS H v l ∧ InP l ∧ InF l) matW) h2
  obtain rfl := args_none h3
  exact (law3 (Q := Q) mqq (fq rfl fn3) (fq rfl fn4) yes ht hf r1 r2 i1 i2 n1 n2).runs (fun v H' h => h)

set_option maxRecDepth 100000 in
theorem contract (H : Type) (enc : TypeId × Value → H) (W : World) (base : Nat) (args : Array Value) (ds gs : List (DataW H)) (before : List MemPlace)
    (hval : ∀ (j : Nat) t v, Tryd.f3.params[j]? = some t → args[j]? = some v → Value.okWide Tryd.prog W .any base t v)
    (hW : DataW.Whole enc Tryd.prog Tryd.f3.params.toList Rows.paintTellsSpec.vars false W args.toList ds gs before) (hL : laidMetH Tryd.prog Rows.paintTellsRow.laid W) :
    Calls Tryd.prog 3 args W fun e W' => ∃ v, e = .returned v ∧ Rows.paintTellsSpec.post enc Tryd.prog Tryd.f3 false true false false W args v W' :=
  law_callsG (Q := Q) mix (okH TT [0, 1, 2, 999999, 1000061, 1000062, 1000063] tg (orcI_ok closed) joinO_ok) laidOut (tb := 4) (fun t ht => by
      rw [Tryd.params3] at ht
      simp only [List.mem_cons, List.not_mem_nil, or_false] at ht
      rcases ht with rfl | rfl <;> exact ⟨by kernel_rfl, by kernel_rfl, of_decide_eq_true (by kernel_rfl)⟩) (by kernel_rfl) Tryd.underlying4 rfl
    (fun ds hd => by rw [Tryd.params3] at hd; match ds, hd with | [_, _], _ => rfl)
    (sr_tabs tok (laidTT hL)) (tabI_glM (l := TT) hgT)
    (fun dts avs H hA hfr hsub _ => run dts avs H (by rw [Tryd.params3] at hA; exact hA) hfr (hasTabs_sub tok hsub)) hval hW

/-- The door's own heap meets the condition. -/
theorem door_met (os : Os) (args : Array Value) : laidMetH Tryd.prog Rows.paintTellsRow.laid ((World.doorLaid Tryd.prog 400 os).forCall (fun _ _ => 0) ⟨#[], args, []⟩).memory :=
  laidMetH_of_parts3 (fuel := 8) (laidMet_of_run' 8 (by kernel_rfl) (by kernel_rfl)) (by kernel_rfl) (by kernel_rfl)

set_option maxRecDepth 100000 in
theorem lifted (os : Os) (started : os.Started) (H : Type) (enc : TypeId × Value → H) :
    ReturnsInHanded {} Tryd.checked os 3 .any (fun w args => (Rows.paintTellsSpec.pre enc Tryd.prog Tryd.f3 [] false w args ∧ laidMetH Tryd.prog Rows.paintTellsRow.laid w) ∧ sizedMet enc Tryd.prog Tryd.f3 (OpenSpec.ofChange Rows.paintTellsSpec) false w args)
      (Rows.paintTellsSpec.post enc Tryd.prog Tryd.f3 false true false false) := by
  refine returnsInHanded_of_change_and (C := Tryd.checked) (X := fun w _ => laidMetH Tryd.prog Rows.paintTellsRow.laid w) (fun _ _ _ hh h => h.of_heap hh) own started (by kernel_rfl) Tryd.func3
    (ChangeSpec.witness_shaped (enc := enc) (C := Tryd.checked) (os := os) (X := fun w _ => laidMetH Tryd.prog Rows.paintTellsRow.laid w) false (World.doorLaid Tryd.prog 400 os) #[.agg #[.int .i64 0, .int .i64 0, .slice Option.none 0 0, .int .i64 0, .int .i64 0, .bool false], .agg #[.int .i64 0, .int .i64 0, .slice Option.none 0 0, .int .i64 0, .int .i64 0, .bool false]] 8 rfl (World.shaped_of_RefB (by kernel_rfl) (by kernel_rfl)) (by kernel_rfl) (by kernel_rfl) (by kernel_rfl) (door_met os _)) ?_
  intro W base args ds gs before hval hW _ _ hL _
  exact contract H enc W base args ds gs before hval hW hL

theorem holds : Rows.PaintTellsSaid :=
  OpenClaim.holds_of_wide 3 Tryd.f3 rfl rfl rfl rfl rfl rfl rfl ⟨rfl, rfl, rfl, rfl, rfl⟩ rfl rfl rfl rfl rfl (by kernel_rfl) Tryd.func3 (by kernel_rfl)
    (of_decide_eq_true (by kernel_rfl)) (by unfold Func.isWrapper; first | (rw [if_pos (by decide +kernel)]; kernel_rfl) | (rw [if_neg (by decide +kernel)]; exact ⟨rfl, rfl⟩))
    (fun os started H enc _ => lifted os started H enc)

theorem proved : Rows.PaintTellsCardSaid :=
  Claim7.holds_tied_plain_at .later [] [.data, .data, .data, .data, .data] true (true, "db87f5c7886c895947b3c6ac5ee8f64a1986bee49650129f24d432af9f73df1e") false
    holds (fun _ h => by cases h) (by kernel_rfl) (fun _ h => by cases h) paintTells_row_tie rfl ⟨rfl, rfl⟩ (by kernel_rfl) rfl
    (fun f fn hf hfn => by
      obtain rfl : f = 3 := Option.some.inj ((show Tryd.prog.funcNamed "jalousie/jalousielaw26.PaintTells" = some 3 by kernel_rfl).symm.trans hf) |>.symm
      obtain rfl : fn = Tryd.f3 := (Option.some.inj (Tryd.func3.symm.trans hfn)).symm
      exact ⟨by kernel_rfl, fun j t ht => by
        rw [Tryd.params3] at ht
        have hm : t ∈ [24, 24] := by simpa using Array.mem_of_getElem? ht
        have hall : ([24, 24].all fun u => !Tryd.prog.wantsStandIn u) = true := by kernel_rfl
        exact (show Tryd.prog.wantsStandIn t = false by simpa using List.all_eq_true.1 hall t hm)⟩)
    (by kernel_rfl)
end Go.Proofs.YtfcnjfbnffijhaaDoor.paintTells
