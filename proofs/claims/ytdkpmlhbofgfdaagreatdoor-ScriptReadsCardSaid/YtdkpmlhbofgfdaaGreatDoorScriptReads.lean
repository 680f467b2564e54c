/-
  'ScriptReads' is proved, and its card: the law returns true of every argument. No condition beyond the tables, which are tied to the program's text.
-/
import Derived.Test.YtdkpmlhbofgfdaaGreatDoorTie
import Derived.Test.YtdkpmlhbofgfdaaGreatDoorCards
import Derived.Test.YtdkpmlhbofgfdaaGreatDoorLaid
import Derived.Test.YtdkpmlhbofgfdaaGreatDoorRep
import Derived.Test.YtdkpmlhbofgfdaaGreatDoorTab
import Derived.Test.YtdkpmlhbofgfdaaGreatDoorAmArgs2
import Derived.Test.YtdkpmlhbofgfdaaGreatDoorScriptReads0
import Derived.Test.YtdkpmlhbofgfdaaGreatDoorSzOr
import Derived.WalkKit
import Derived.ProofKit
import Derived.LaidMore
import Derived.SevenTiedAt
set_option linter.unusedVariables false
namespace Go.Proofs.YtdkpmlhbofgfdaaGreatDoor.scriptReads
open Go Go.ChangeShapes Go.WideShapes Go.ChangeAt Go.WideMaps Go.WideElems Go.RowKit AM

theorem own : ownKnob Tryz.prog.godebug = none := by kernel_rfl
theorem laidOut : laidOutB Tryz.prog = true := by kernel_rfl
theorem tg : ∀ t ∈ TT, t.g ∈ [0, 1999999] ∧ t.g < 999999 := by decide
theorem hgT : ∀ g ∈ [0, 1999999], g < 999999 → g ∈ (TT).map (·.g) := by decide

set_option maxRecDepth 100000 in
set_option maxHeartbeats 4000000 in
theorem wakes : isTrue (Fast.call (QL TT tblL orcR) 500 (.fn 4) [] (tabH 1 TT)) = true := by kernel_rfl
theorem closed : OrcOK Tryz.prog TT 4 [] (.bool true) := by
  have r := wakes
  rw [Fast.call_eq] at r
  obtain ⟨H', h⟩ := isTrue_some r
  exact orc_of_run (N := 1) mix tok hgT (okL tg tblL_ok orcR_ok) rfl rfl h

noncomputable abbrev Q : Prog := QH TT [0, 1999999] (orcS 4) 40 joinO
theorem yes : Q.orc 4 [] = some (.bool true) := rfl
theorem fq {f : Nat} {F : AFunc} (h : Nat.beq f 40 = false) (e : (Q0 [0, 1999999]).fns f = some F) : Q.fns f = some F := (QH_fns h).trans e
theorem sq : ScQ Q := ⟨orcS_25 4, orcS_50 4, fun _ _ => rfl, fun _ _ => rfl, by decide, rfl, fun _ _ => rfl, fq rfl fn6, fq rfl fn9, fq rfl fn10, fq rfl fn8, fq rfl fn14, fq rfl fn15, fq rfl fn16, fq rfl fn17, fq rfl fn18, fq rfl fn19, fq rfl fn20, fq rfl fn21, fq rfl fn25, fq rfl fn26, fq rfl fn27, fq rfl fn28, fq rfl fn29, fq rfl fn33, fq rfl fn34, fq rfl fn36, fq rfl fn37, fq rfl fn38, fq rfl fn41, fq rfl fn42, fq rfl fn43, fq rfl fn48, fq rfl fn49, fq rfl fn50, fq rfl fn51, fq rfl fn52, fq rfl fn61, fq rfl fn62, fq rfl fn63, fq rfl fn64, fq rfl fn78, fq rfl fn79, fq rfl fn80, fq rfl fn90, fq rfl fn93, fq rfl fn94, orcS_no 4⟩
theorem next_pos {H : AHeap} (hf : ∀ b, H.next ≤ b → H.get b = none) (ht : hasTabs H TT = true) : 0 < H.next := by
  refine Nat.lt_of_not_le fun hh => ?_
  have h0 := hf 0 hh
  have h1 := List.all_eq_true.1 ht ⟨0, .u64, zp10⟩ (List.mem_cons_self ..)
  rw [h0] at h1
  cases h1
theorem dq : SdQ Q := ⟨sq, fq rfl fn5, fq rfl fn7, fq rfl fn11, fq rfl fn12, fq rfl fn13, fq rfl fn22, fq rfl fn23, fq rfl fn24, fq rfl fn30, fq rfl fn31, fq rfl fn32⟩
theorem bysOf {H : AHeap} {v : AV} {l : List Int} (h : IsS (IsK .u8) H v l) (hg : ∀ x ∈ l, (Lit.int .u8 x).wf = true) : BysA H v (l.map fun n => UInt8.ofNat n.toNat) := by
  rcases h with ⟨rfl, rfl⟩ | ⟨b, o, cap, B, rfl, hB, hlv, hes, hcap, hc⟩
  · exact .inl ⟨rfl, rfl⟩
  · refine .inr ⟨b, o, cap, B, by simp, hB, hlv, hes, by simpa using hcap, fun i x hx => ?_⟩
    rw [List.getElem?_map, Option.map_eq_some_iff] at hx
    obtain ⟨n, hn, rfl⟩ := hx
    obtain ⟨c, h1, h2⟩ := hc i n hn
    obtain ⟨n0, n1⟩ := wf_u8 (hg n (List.mem_of_getElem? hn))
    rw [h1, h2, UInt8.toNat_ofNat']
    congr 2
    omega
theorem run (dts : List Dt) (avs : List AV) (H : AHeap) (h : ArgsR Tryz.prog H [22] dts avs) (hf : ∀ b, H.next ≤ b → H.get b = none) (ht : hasTabs H TT = true) : ∃ n H', callF Q n (.fn 3) avs H = some (.bool true, H') := by
  obtain ⟨l1, v1, d1, vs1, rfl, r1, ⟨_, g1⟩, h1⟩ := arg_one (one_sliceS (one_int Tryz.underlying5) Tryz.underlying22) h
  obtain rfl := args_none h1
  exact (lawR (Q := Q) dq (fq rfl fn3) yes (bysOf r1 g1) hf (next_pos hf ht) ht).runs (fun v H' h => h)

set_option maxRecDepth 100000 in
theorem contract (H : Type) (enc : TypeId × Value → H) (W : World) (base : Nat) (args : Array Value) (ds gs : List (DataW H)) (before : List MemPlace)
    (hval : ∀ (j : Nat) t v, Tryz.f3.params[j]? = some t → args[j]? = some v → Value.okWide Tryz.prog W .any base t v)
    (hW : DataW.Whole enc Tryz.prog Tryz.f3.params.toList Rows.scriptReadsSpec.vars false W args.toList ds gs before) (hL : laidMetH Tryz.prog Rows.scriptReadsRow.laid W) :
    Calls Tryz.prog 3 args W fun e W' => ∃ v, e = .returned v ∧ Rows.scriptReadsSpec.post enc Tryz.prog Tryz.f3 false true false false W args v W' :=
  law_callsG (Q := Q) mix (okH TT [0, 1999999] tg (orcS_ok closed) joinO_ok) laidOut (tb := 4) (fun t ht => by
      rw [Tryz.params3] at ht
      simp only [List.mem_cons, List.not_mem_nil, or_false] at ht
      rcases ht with rfl <;> exact ⟨by kernel_rfl, by kernel_rfl, of_decide_eq_true (by kernel_rfl)⟩) (by kernel_rfl) Tryz.underlying4 rfl
    (fun ds hd => by rw [Tryz.params3] at hd; match ds, hd with | [_], _ => rfl)
    (sr_tabs tok (laidTT hL)) (tabI_glM (l := TT) hgT)
    (fun dts avs H hA hfr hsub _ => run dts avs H (by rw [Tryz.params3] at hA; exact hA) hfr (hasTabs_sub tok hsub)) hval hW

/-- The heap behind the start-up of the variables, the table that is given by its name laid beside. -/
noncomputable def doorW (os : Os) : World := { World.doorLaid Tryz.prog 100 os with heap := (World.doorLaid Tryz.prog 100 os).heap.setIfInBounds 6 (.cells (Pinned.utf8FirstZ.map fun (n : Nat) => Value.int .u8 (Int.ofNat n)).toArray 162 (0, 0)) }
/-- The door's own heap meets the condition. -/
theorem door_met (os : Os) (args : Array Value) : laidMetH Tryz.prog Rows.scriptReadsRow.laid ((doorW os).forCall (fun _ _ => 0) ⟨#[], args, []⟩).memory :=
  laidMetH_of_parts3 (fuel := 8) (laidMet_of_run' 8 (by kernel_rfl) (by kernel_rfl)) (by kernel_rfl) (by kernel_rfl)

set_option maxRecDepth 100000 in
theorem lifted (os : Os) (started : os.Started) (H : Type) (enc : TypeId × Value → H) :
    ReturnsInHanded {} Tryz.checked os 3 .any (fun w args => (Rows.scriptReadsSpec.pre enc Tryz.prog Tryz.f3 [] false w args ∧ laidMetH Tryz.prog Rows.scriptReadsRow.laid w) ∧ sizedMet enc Tryz.prog Tryz.f3 (OpenSpec.ofChange Rows.scriptReadsSpec) false w args)
      (Rows.scriptReadsSpec.post enc Tryz.prog Tryz.f3 false true false false) := by
  refine returnsInHanded_of_change_and (C := Tryz.checked) (X := fun w _ => laidMetH Tryz.prog Rows.scriptReadsRow.laid w) (fun _ _ _ hh h => h.of_heap hh) own started (by kernel_rfl) Tryz.func3
    (ChangeSpec.witness_shaped (enc := enc) (C := Tryz.checked) (os := os) (X := fun w _ => laidMetH Tryz.prog Rows.scriptReadsRow.laid w) false (doorW os) #[.slice Option.none 0 0] 8 rfl (World.shaped_of_RefB (by kernel_rfl) (by kernel_rfl)) (by kernel_rfl) (by kernel_rfl) (by kernel_rfl) (door_met os _)) ?_
  intro W base args ds gs before hval hW _ _ hL _
  exact contract H enc W base args ds gs before hval hW hL

theorem holds : Rows.ScriptReadsSaid :=
  OpenClaim.holds_of_wide 3 Tryz.f3 rfl rfl rfl rfl rfl rfl rfl ⟨rfl, rfl, rfl, rfl, rfl⟩ rfl rfl rfl rfl rfl (by kernel_rfl) Tryz.func3 (by kernel_rfl)
    (of_decide_eq_true (by kernel_rfl)) (by unfold Func.isWrapper; first | (rw [if_pos (by decide +kernel)]; kernel_rfl) | (rw [if_neg (by decide +kernel)]; exact ⟨rfl, rfl⟩))
    (fun os started H enc _ => lifted os started H enc)

theorem proved : Rows.ScriptReadsCardSaid :=
  Claim7.holds_tied_plain_at .later [] [.data, .data, .data, .data, .sentinel, .sentinel, .pinned] true (true, "37e3df0f71dd8c14c38fef49c141d57bf1666ab97a94dc0fdfdb85e77dd69861") true
    holds (fun _ h => by cases h) (by kernel_rfl) (fun _ h => by cases h) scriptReads_row_tie rfl ⟨rfl, rfl⟩ (by kernel_rfl) rfl
    (fun f fn hf hfn => by
      obtain rfl : f = 3 := Option.some.inj ((show Tryz.prog.funcNamed "jalousie/jalousielaw31.ScriptReads" = some 3 by kernel_rfl).symm.trans hf) |>.symm
      obtain rfl : fn = Tryz.f3 := (Option.some.inj (Tryz.func3.symm.trans hfn)).symm
      exact ⟨by kernel_rfl, fun j t ht => by
        rw [Tryz.params3] at ht
        have hm : t ∈ [22] := by simpa using Array.mem_of_getElem? ht
        have hall : ([22].all fun u => !Tryz.prog.wantsStandIn u) = true := by kernel_rfl
        exact (show Tryz.prog.wantsStandIn t = false by simpa using List.all_eq_true.1 hall t hm)⟩)
    (by kernel_rfl)
end Go.Proofs.YtdkpmlhbofgfdaaGreatDoor.scriptReads
