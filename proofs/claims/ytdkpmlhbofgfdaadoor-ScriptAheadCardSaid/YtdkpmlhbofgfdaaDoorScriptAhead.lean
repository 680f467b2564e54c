/-
  'ScriptAhead' is proved, and its card: the law returns true of every argument. No condition beyond the tables, which are tied to the program's text.
-/
import Derived.Test.YtdkpmlhbofgfdaaDoorTie
import Derived.Test.YtdkpmlhbofgfdaaDoorCards
import Derived.Test.YtdkpmlhbofgfdaaDoorLaid
import Derived.Test.YtdkpmlhbofgfdaaDoorRep
import Derived.Test.YtdkpmlhbofgfdaaDoorTab
import Derived.Test.YtdkpmlhbofgfdaaDoorAmArgs2
import Derived.Test.YtdkpmlhbofgfdaaDoorScriptAhead0
import Derived.Test.YtdkpmlhbofgfdaaDoorScOr
import Derived.WalkKit
import Derived.ProofKit
import Derived.LaidMore
import Derived.SevenTiedAt
set_option linter.unusedVariables false
namespace Go.Proofs.YtdkpmlhbofgfdaaDoor.scriptAhead
open Go Go.ChangeShapes Go.WideShapes Go.ChangeAt Go.WideMaps Go.WideElems Go.RowKit AM

theorem own : ownKnob Tryd.prog.godebug = none := by kernel_rfl
theorem laidOut : laidOutB Tryd.prog = true := by kernel_rfl
theorem tg : ∀ t ∈ TT, t.g ∈ [0, 1999999] ∧ t.g < 999999 := by decide
theorem hgT : ∀ g ∈ [0, 1999999], g < 999999 → g ∈ (TT).map (·.g) := by decide

set_option maxRecDepth 100000 in
set_option maxHeartbeats 4000000 in
theorem wakes : isTrue (Fast.call (QL TT tblL orcR) 500 (.fn 6) [] (tabH 1 TT)) = true := by kernel_rfl
theorem closed : OrcOK Tryd.prog TT 6 [] (.bool true) := by
  have r := wakes
  rw [Fast.call_eq] at r
  obtain ⟨H', h⟩ := isTrue_some r
  exact orc_of_run (N := 1) mix tok hgT (okL tg tblL_ok orcR_ok) rfl rfl h

noncomputable abbrev Q : Prog := QH TT [0, 1999999] (orcS 6) 30 joinO
theorem yes : Q.orc 6 [] = some (.bool true) := rfl
theorem fq {f : Nat} {F : AFunc} (h : Nat.beq f 30 = false) (e : (Q0 [0, 1999999]).fns f = some F) : Q.fns f = some F := (QH_fns h).trans e
theorem sq : ScQ Q := ⟨orcS_25 6, orcS_50 6, fun _ _ => rfl, fun _ _ => rfl, by decide, rfl, fun _ _ => rfl, fq rfl fn5, fq rfl fn7, fq rfl fn8, fq rfl fn9, fq rfl fn10, fq rfl fn11, fq rfl fn12, fq rfl fn13, fq rfl fn14, fq rfl fn15, fq rfl fn16, fq rfl fn17, fq rfl fn18, fq rfl fn19, fq rfl fn20, fq rfl fn21, fq rfl fn22, fq rfl fn23, fq rfl fn24, fq rfl fn26, fq rfl fn27, fq rfl fn28, fq rfl fn31, fq rfl fn32, fq rfl fn33, fq rfl fn38, fq rfl fn39, fq rfl fn40, fq rfl fn41, fq rfl fn42, fq rfl fn51, fq rfl fn52, fq rfl fn53, fq rfl fn54, fq rfl fn68, fq rfl fn69, fq rfl fn70, fq rfl fn80, fq rfl fn83, fq rfl fn84, orcS_no 6⟩
theorem next_pos {H : AHeap} (hf : ∀ b, H.next ≤ b → H.get b = none) (ht : hasTabs H TT = true) : 0 < H.next := by
  refine Nat.lt_of_not_le fun hh => ?_
  have h0 := hf 0 hh
  have h1 := List.all_eq_true.1 ht ⟨0, .u64, zp10⟩ (List.mem_cons_self ..)
  rw [h0] at h1
  cases h1
theorem bysOf {H : AHeap} {v : AV} {l : List Int} (h : IsS (IsK .u8) H v l) (hg : ∀ x ∈ l, (Lit.int .u8 x).wf = true) : BysA H v (l.map fun n => UInt8.ofNat n.toNat) := by
  rcases h with ⟨rfl, rfl⟩ | ⟨b, o, cap, B, rfl, hB, hlv, hes, hcap, hc⟩
  · exact .inl ⟨rfl, rfl⟩
  · refine .inr ⟨b, o, cap, B, by simp, hB, hlv, hes, by simpa using hcap, fun i x hx => ?_⟩
    rw [List.getElem?_map, Option.map_eq_some_iff] at hx
    obtain ⟨n, hn, rfl⟩ := hx
    obtain ⟨c, h1, h2⟩ := hc i n hn
    obtain ⟨n0, n1⟩ := wf_u8 (hg n (List.mem_of_getElem? hn))
    rw [h1, h2, UInt8.toNat_ofNat']
    congr 2
    omega
theorem run (dts : List Dt) (avs : List AV) (H : AHeap) (h : ArgsR Tryd.prog H [31, 31] dts avs) (hf : ∀ b, H.next ≤ b → H.get b = none) (ht : hasTabs H TT = true) : ∃ n H', callF Q n (.fn 4) avs H = some (.bool true, H') := by
  obtain ⟨l1, v1, d1, vs1, rfl, r1, ⟨_, g1⟩, h1⟩ := arg_one (one_sliceS (one_int Tryd.underlying5) Tryd.underlying31) h
  obtain ⟨l2, v2, d2, vs2, rfl, r2, ⟨_, g2⟩, h2⟩ := arg_one (one_sliceS (one_int Tryd.underlying5) Tryd.underlying31) h1
  obtain rfl := args_none h2
  exact (law4 (Q := Q) sq (fq rfl fn4) yes (bysOf r1 g1) (bysOf r2 g2) hf (next_pos hf ht) ht).runs (fun v H' h => h)

set_option maxRecDepth 100000 in
theorem contract (H : Type) (enc : TypeId × Value → H) (W : World) (base : Nat) (args : Array Value) (ds gs : List (DataW H)) (before : List MemPlace)
    (hval : ∀ (j : Nat) t v, Tryd.f4.params[j]? = some t → args[j]? = some v → Value.okWide Tryd.prog W .any base t v)
    (hW : DataW.Whole enc Tryd.prog Tryd.f4.params.toList Rows.scriptAheadSpec.vars false W args.toList ds gs before) (hL : laidMetH Tryd.prog Rows.scriptAheadRow.laid W) :
    Calls Tryd.prog 4 args W fun e W' => ∃ v, e = .returned v ∧ Rows.scriptAheadSpec.post enc Tryd.prog Tryd.f4 false true false false W args v W' :=
  law_callsG (Q := Q) mix (okH TT [0, 1999999] tg (orcS_ok closed) joinO_ok) laidOut (tb := 4) (fun t ht => by
      rw [Tryd.params4] at ht
      simp only [List.mem_cons, List.not_mem_nil, or_false] at ht
      rcases ht with rfl | rfl <;> exact ⟨by kernel_rfl, by kernel_rfl, of_decide_eq_true (by kernel_rfl)⟩) (by kernel_rfl) Tryd.underlying4 rfl
    (fun ds hd => by rw [Tryd.params4] at hd; match ds, hd with | [_, _], _ => rfl)
    (sr_tabs tok (laidTT hL)) (tabI_glM (l := TT) hgT)
    (fun dts avs H hA hfr hsub _ => run dts avs H (by rw [Tryd.params4] at hA; exact hA) hfr (hasTabs_sub tok hsub)) hval hW

/-- The heap behind the start-up of the variables, the table that is given by its name laid beside. -/
noncomputable def doorW (os : Os) : World := { World.doorLaid Tryd.prog 100 os with heap := (World.doorLaid Tryd.prog 100 os).heap.setIfInBounds 6 (.cells (Pinned.utf8FirstZ.map fun (n : Nat) => Value.int .u8 (Int.ofNat n)).toArray 149 (0, 0)) }
/-- The door's own heap meets the condition. -/
theorem door_met (os : Os) (args : Array Value) : laidMetH Tryd.prog Rows.scriptAheadRow.laid ((doorW os).forCall (fun _ _ => 0) ⟨#[], args, []⟩).memory :=
  laidMetH_of_parts3 (fuel := 8) (laidMet_of_run' 8 (by kernel_rfl) (by kernel_rfl)) (by kernel_rfl) (by kernel_rfl)

set_option maxRecDepth 100000 in
theorem lifted (os : Os) (started : os.Started) (H : Type) (enc : TypeId × Value → H) :
    ReturnsInHanded {} Tryd.checked os 4 .any (fun w args => (Rows.scriptAheadSpec.pre enc Tryd.prog Tryd.f4 [] false w args ∧ laidMetH Tryd.prog Rows.scriptAheadRow.laid w) ∧ sizedMet enc Tryd.prog Tryd.f4 (OpenSpec.ofChange Rows.scriptAheadSpec) false w args)
      (Rows.scriptAheadSpec.post enc Tryd.prog Tryd.f4 false true false false) := by
  refine returnsInHanded_of_change_and (C := Tryd.checked) (X := fun w _ => laidMetH Tryd.prog Rows.scriptAheadRow.laid w) (fun _ _ _ hh h => h.of_heap hh) own started (by kernel_rfl) Tryd.func4
    (ChangeSpec.witness_shaped (enc := enc) (C := Tryd.checked) (os := os) (X := fun w _ => laidMetH Tryd.prog Rows.scriptAheadRow.laid w) false (doorW os) #[.slice Option.none 0 0, .slice Option.none 0 0] 8 rfl (World.shaped_of_RefB (by kernel_rfl) (by kernel_rfl)) (by kernel_rfl) (by kernel_rfl) (by kernel_rfl) (door_met os _)) ?_
  intro W base args ds gs before hval hW _ _ hL _
  exact contract H enc W base args ds gs before hval hW hL

theorem holds : Rows.ScriptAheadSaid :=
  OpenClaim.holds_of_wide 4 Tryd.f4 rfl rfl rfl rfl rfl rfl rfl ⟨rfl, rfl, rfl, rfl, rfl⟩ rfl rfl rfl rfl rfl (by kernel_rfl) Tryd.func4 (by kernel_rfl)
    (of_decide_eq_true (by kernel_rfl)) (by unfold Func.isWrapper; first | (rw [if_pos (by decide +kernel)]; kernel_rfl) | (rw [if_neg (by decide +kernel)]; exact ⟨rfl, rfl⟩))
    (fun os started H enc _ => lifted os started H enc)

theorem proved : Rows.ScriptAheadCardSaid :=
  Claim7.holds_tied_plain_at .later [] [.data, .data, .data, .data, .sentinel, .sentinel, .pinned] true (true, "8dc1280533ceb32b93f3aa6148291d5ba0f3fbc584885d3f513885e049fa1149") true
    holds (fun _ h => by cases h) (by kernel_rfl) (fun _ h => by cases h) scriptAhead_row_tie rfl ⟨rfl, rfl⟩ (by kernel_rfl) rfl
    (fun f fn hf hfn => by
      obtain rfl : f = 4 := Option.some.inj ((show Tryd.prog.funcNamed "jalousie/jalousielaw31.ScriptAhead" = some 4 by kernel_rfl).symm.trans hf) |>.symm
      obtain rfl : fn = Tryd.f4 := (Option.some.inj (Tryd.func4.symm.trans hfn)).symm
      exact ⟨by kernel_rfl, fun j t ht => by
        rw [Tryd.params4] at ht
        have hm : t ∈ [31, 31] := by simpa using Array.mem_of_getElem? ht
        have hall : ([31, 31].all fun u => !Tryd.prog.wantsStandIn u) = true := by kernel_rfl
        exact (show Tryd.prog.wantsStandIn t = false by simpa using List.all_eq_true.1 hall t hm)⟩)
    (by kernel_rfl)
end Go.Proofs.YtdkpmlhbofgfdaaDoor.scriptAhead
