/-
  'AttrBack' is proved, and its card: the law returns true of every argument. No condition beyond the tables, which are tied to the program's text.
-/
import Derived.Test.YtcfjjeipdacbcaaDoorTie
import Derived.Test.YtcfjjeipdacbcaaDoorCards
import Derived.Test.YtcfjjeipdacbcaaDoorLaid
import Derived.Test.YtcfjjeipdacbcaaDoorRep
import Derived.Test.YtcfjjeipdacbcaaDoorTab
import Derived.Test.YtcfjjeipdacbcaaDoorAmArgs2
import Derived.Test.YtcfjjeipdacbcaaDoorAttrBack0
import Derived.Test.YtcfjjeipdacbcaaDoorItoaO
import Derived.WalkKit
import Derived.ProofKit
import Derived.LaidMore
import Derived.SevenTiedAt
set_option linter.unusedVariables false
namespace Go.Proofs.YtcfjjeipdacbcaaDoor.attrBack
open Go Go.ChangeShapes Go.WideShapes Go.ChangeAt Go.WideMaps Go.WideElems Go.RowKit AM

theorem own : ownKnob Tryd.prog.godebug = none := by kernel_rfl
theorem laidOut : laidOutB Tryd.prog = true := by kernel_rfl
theorem tg : ∀ t ∈ TT, t.g ∈ [0, 1, 2, 3] := by decide

set_option maxRecDepth 100000 in
set_option maxHeartbeats 4000000 in
theorem wakes : isTrue (Fast.call (QL TT tblL orcR) 500 (.fn 16) [] (tabH 4 TT)) = true := by kernel_rfl
theorem closed : OrcOK Tryd.prog TT 16 [] (.bool true) := by
  have r := wakes
  rw [Fast.call_eq] at r
  obtain ⟨H', h⟩ := isTrue_some r
  exact orc_of_run (N := 4) mix tok (okL tg tblL_ok orcR_ok) rfl rfl h

noncomputable abbrev Q : Prog := QH TT [0, 1, 2, 3] (orcI 16) 49 joinO
theorem no (f : FuncId) (h : (Nat.beq f 16 || Nat.beq f 11) = false) (a : List AV) : Q.orc f a = none := by
  obtain ⟨h1, h2⟩ := Bool.or_eq_false_iff.1 h
  show orcI 16 f a = none
  unfold orcI
  rw [h2]
  show (bif Nat.beq f 16 && sameArgs a [] then some (AV.bool true) else none) = none
  rw [h1]; rfl
theorem yes : Q.orc 16 [] = some (.bool true) := rfl
theorem fq {f : Nat} {F : AFunc} (h : Nat.beq f 49 = false) (e : (Q0 [0, 1, 2, 3]).fns f = some F) : Q.fns f = some F := (QH_fns h).trans e
theorem colr (H : AHeap) (ps : List Dt) (cs : List AV) (hw : WTF Tryd.prog ps [5, 34]) (hr : RdL H ps cs) : ∃ k n : Int, cs = [.int .u8 k, .int .u32 n] := by
  obtain ⟨k, c1, ps, cs, rfl, rfl, _, hw, hr⟩ := fld_one (one_int Tryd.underlying5) hw hr
  obtain ⟨n, c2, ps, cs, rfl, rfl, _, hw, hr⟩ := fld_one (one_int Tryd.underlying34) hw hr
  obtain rfl := fld_none hw hr
  exact ⟨k, n, rfl⟩
theorem fld_agg {P : Program} {t : TypeId} {ts : List TypeId} {G : List AV → Prop} (h1 : Agg P t G) {H : AHeap} {ps : List Dt} {cs : List AV} (hw : WTF P ps (t :: ts)) (hr : RdL H ps cs) :
    ∃ c ps' cs', cs = c ++ cs' ∧ G c ∧ WTF P ps' ts ∧ RdL H ps' cs' := by
  cases ps with
  | nil => simp [WTF] at hw
  | cons d ps =>
    simp only [WTF] at hw
    obtain ⟨t', ts', e, hw1, hw2⟩ := hw
    simp only [List.cons.injEq] at e
    obtain ⟨rfl, rfl⟩ := e
    simp only [RdL] at hr
    obtain ⟨c1, c2, rfl, hr1, hr2⟩ := hr
    exact ⟨c1, ps, c2, rfl, (h1 H d c1 hw1 hr1).2, hw2, hr2⟩
theorem wf_u16 {n : Int} (h : (Lit.int .u16 n).wf = true) : FlOk n := by
  simp only [Lit.wf, Bool.and_eq_true, decide_eq_true_eq] at h
  have h1 := h.1
  have h2 : n ≤ 65535 := h.2
  exact ⟨h1, by omega⟩
theorem wf_u32 {n : Int} (h : (Lit.int .u32 n).wf = true) : 0 ≤ n := by
  simp only [Lit.wf, Bool.and_eq_true, decide_eq_true_eq] at h
  exact h.1
theorem colrW (H : AHeap) (ps : List Dt) (cs : List AV) (hw : WTF Tryd.prog ps [5, 34]) (hr : RdL H ps cs) : ∃ k n : Int, cs = [.int .u8 k, .int .u32 n] ∧ 0 ≤ n := by
  obtain ⟨k, c1, ps, cs, rfl, rfl, _, hw, hr⟩ := fld_one (one_int Tryd.underlying5) hw hr
  obtain ⟨n, c2, ps, cs, rfl, rfl, hn, hw, hr⟩ := fld_one (one_int Tryd.underlying34) hw hr
  obtain rfl := fld_none hw hr
  exact ⟨k, n, rfl, wf_u32 hn⟩
theorem attrW (H : AHeap) (ps : List Dt) (cs : List AV) (hw : WTF Tryd.prog ps [27, 36, 36]) (hr : RdL H ps cs) : ∃ a : At, cs = a.cs ∧ FlOk a.fl ∧ 0 ≤ a.fn ∧ 0 ≤ a.bn := by
  obtain ⟨fl, c1, ps, cs, rfl, rfl, hfl, hw, hr⟩ := fld_one (one_int Tryd.underlying27) hw hr
  obtain ⟨c2, ps, cs, rfl, ⟨k, n, rfl, h1⟩, hw, hr⟩ := fld_agg (agg_of Tryd.underlying36 (G := fun cs => ∃ k n : Int, cs = [.int .u8 k, .int .u32 n] ∧ 0 ≤ n) colrW) hw hr
  obtain ⟨c3, ps, cs, rfl, ⟨k', n', rfl, h2⟩, hw, hr⟩ := fld_agg (agg_of Tryd.underlying36 (G := fun cs => ∃ k n : Int, cs = [.int .u8 k, .int .u32 n] ∧ 0 ≤ n) colrW) hw hr
  obtain rfl := fld_none hw hr
  exact ⟨⟨fl, k, n, k', n'⟩, rfl, wf_u16 hfl, h1, h2⟩
theorem aq : AtQ Q := ⟨fq rfl fn15, fq rfl fn18, fq rfl fn19, fq rfl fn20, fq rfl fn21, fq rfl fn29, fq rfl fn30, fq rfl fn31, fq rfl fn32, fq rfl fn34, fq rfl fn35, fq rfl fn36, fq rfl fn37, fq rfl fn38, fq rfl fn39, fq rfl fn48, fq rfl fn50, no⟩
theorem itq (n : Nat) (h : n < 256) : Q.orc 11 [.int .i64 (n : Int)] = some (.str (D n)) := by
  show (if n < 256 then some (AV.str (D n)) else none) = _
  rw [if_pos h]
theorem bq : BtQ Q := ⟨aq, fq rfl fn17, fq rfl fn22, fq rfl fn33, fq rfl fn40, fq rfl fn41, rfl, fun _ _ => rfl, itq, rfl⟩
theorem evq : EvN.EvQ Q := ⟨fq rfl fn43, fq rfl fn45, fq rfl fn52, fq rfl fn44, fq rfl fn51, fq rfl fn53, fq rfl fn54, fq rfl fn55, fq rfl fn25, fq rfl fn56, fq rfl fn57, fq rfl fn71, fq rfl fn72, fq rfl fn65, fq rfl fn66, fq rfl fn67, fq rfl fn68, fq rfl fn69, fq rfl fn70, fq rfl fn73, fq rfl fn14, fq rfl fn74, fq rfl fn27, fq rfl fn75, fq rfl fn76, fq rfl fn28, fq rfl fn84, fq rfl fn47, fq rfl fn89, no⟩
theorem run (dts : List Dt) (avs : List AV) (H : AHeap) (h : ArgsR Tryd.prog H [38, 38, 38] dts avs) (hf : ∀ b, H.next ≤ b → H.get b = none) (ht : hasTabs H TT = true) : ∃ n H', callF Q n (.fn 9) avs H = some (.bool true, H') := by
  obtain ⟨cs, d1, vs1, rfl, ⟨a, rfl, _, _, _⟩, h1⟩ := arg_agg (agg_of Tryd.underlying38 (G := fun cs => ∃ a : At, cs = a.cs ∧ FlOk a.fl ∧ 0 ≤ a.fn ∧ 0 ≤ a.bn) attrW) h
  obtain ⟨cs, d2, vs2, rfl, ⟨b, rfl, hb0, hb1, hb2⟩, h2⟩ := arg_agg (agg_of Tryd.underlying38 (G := fun cs => ∃ a : At, cs = a.cs ∧ FlOk a.fl ∧ 0 ≤ a.fn ∧ 0 ≤ a.bn) attrW) h1
  obtain ⟨cs, d3, vs3, rfl, ⟨o, rfl, _, _, _⟩, h3⟩ := arg_agg (agg_of Tryd.underlying38 (G := fun cs => ∃ a : At, cs = a.cs ∧ FlOk a.fl ∧ 0 ≤ a.fn ∧ 0 ≤ a.bn) attrW) h2
  obtain rfl := args_none h3
  exact (EvN.law9 (Q := Q) evq bq (fq rfl fn9) (fq rfl fn23) (fq rfl fn42) yes ht hb0.1 hb1 hb2 hf).runs (fun v H' h => h)

set_option maxRecDepth 100000 in
theorem contract (H : Type) (enc : TypeId × Value → H) (W : World) (base : Nat) (args : Array Value) (ds gs : List (DataW H)) (before : List MemPlace)
    (hval : ∀ (j : Nat) t v, Tryd.f9.params[j]? = some t → args[j]? = some v → Value.okWide Tryd.prog W .any base t v)
    (hW : DataW.Whole enc Tryd.prog Tryd.f9.params.toList Rows.attrBackSpec.vars false W args.toList ds gs before) (hL : laidMetH Tryd.prog Rows.attrBackRow.laid W) :
    Calls Tryd.prog 9 args W fun e W' => ∃ v, e = .returned v ∧ Rows.attrBackSpec.post enc Tryd.prog Tryd.f9 false true false false W args v W' :=
  law_callsG (Q := Q) mix (okH TT [0, 1, 2, 3] tg (orcI_ok closed) joinO_ok) laidOut (tb := 4) (fun t ht => by
      rw [Tryd.params9] at ht
      simp only [List.mem_cons, List.not_mem_nil, or_false] at ht
      rcases ht with rfl | rfl | rfl <;> exact ⟨by kernel_rfl, by kernel_rfl, of_decide_eq_true (by kernel_rfl)⟩) (by kernel_rfl) Tryd.underlying4 rfl
    (fun ds hd => by rw [Tryd.params9] at hd; match ds, hd with | [_, _, _], _ => rfl)
    (sr_tabs tok (laidTT hL)) (show ∀ g ∈ [0, 1, 2, 3], _ from tabI_gl (l := TT))
    (fun dts avs H hA hfr hsub _ => run dts avs H (by rw [Tryd.params9] at hA; exact hA) hfr (hasTabs_sub tok hsub)) hval hW

/-- The door's own heap meets the condition. -/
theorem door_met (os : Os) (args : Array Value) : laidMetH Tryd.prog Rows.attrBackRow.laid ((World.doorLaid Tryd.prog 400 os).forCall (fun _ _ => 0) ⟨#[], args, []⟩).memory :=
  laidMetH_of_parts3 (fuel := 8) (laidMet_of_run' 8 (by kernel_rfl) (by kernel_rfl)) (by kernel_rfl) (by kernel_rfl)

set_option maxRecDepth 100000 in
theorem lifted (os : Os) (started : os.Started) (H : Type) (enc : TypeId × Value → H) :
    ReturnsInHanded {} Tryd.checked os 9 .any (fun w args => (Rows.attrBackSpec.pre enc Tryd.prog Tryd.f9 [] false w args ∧ laidMetH Tryd.prog Rows.attrBackRow.laid w) ∧ sizedMet enc Tryd.prog Tryd.f9 (OpenSpec.ofChange Rows.attrBackSpec) false w args)
      (Rows.attrBackSpec.post enc Tryd.prog Tryd.f9 false true false false) := by
  refine returnsInHanded_of_change_and (C := Tryd.checked) (X := fun w _ => laidMetH Tryd.prog Rows.attrBackRow.laid w) (fun _ _ _ hh h => h.of_heap hh) own started (by kernel_rfl) Tryd.func9
    (ChangeSpec.witness_shaped (enc := enc) (C := Tryd.checked) (os := os) (X := fun w _ => laidMetH Tryd.prog Rows.attrBackRow.laid w) false (World.doorLaid Tryd.prog 400 os) #[.agg #[.int .u16 0, .int .u8 0, .int .u32 0, .int .u8 0, .int .u32 0], .agg #[.int .u16 0, .int .u8 0, .int .u32 0, .int .u8 0, .int .u32 0], .agg #[.int .u16 0, .int .u8 0, .int .u32 0, .int .u8 0, .int .u32 0]] 8 rfl (World.shaped_of_RefB (by kernel_rfl) (by kernel_rfl)) (by kernel_rfl) (by kernel_rfl) (by kernel_rfl) (door_met os _)) ?_
  intro W base args ds gs before hval hW _ _ hL _
  exact contract H enc W base args ds gs before hval hW hL

theorem holds : Rows.AttrBackSaid :=
  OpenClaim.holds_of_wide 9 Tryd.f9 rfl rfl rfl rfl rfl rfl rfl ⟨rfl, rfl, rfl, rfl, rfl⟩ rfl rfl rfl rfl rfl (by kernel_rfl) Tryd.func9 (by kernel_rfl)
    (of_decide_eq_true (by kernel_rfl)) (by unfold Func.isWrapper; first | (rw [if_pos (by decide +kernel)]; kernel_rfl) | (rw [if_neg (by decide +kernel)]; exact ⟨rfl, rfl⟩))
    (fun os started H enc _ => lifted os started H enc)

theorem proved : Rows.AttrBackCardSaid :=
  Claim7.holds_tied_plain_at .later [] [.data, .data, .data, .data] true (true, "d0ba8ba8491c24b01454f412fb9cf9c6e3e3fb0b6c188dacf21afa9f9f5b9135") false
    holds (fun _ h => by cases h) (by kernel_rfl) (fun _ h => by cases h) attrBack_row_tie rfl ⟨rfl, rfl⟩ (by kernel_rfl) rfl
    (fun f fn hf hfn => by
      obtain rfl : f = 9 := Option.some.inj ((show Tryd.prog.funcNamed "jalousie/jalousielaw10.AttrBack" = some 9 by kernel_rfl).symm.trans hf) |>.symm
      obtain rfl : fn = Tryd.f9 := (Option.some.inj (Tryd.func9.symm.trans hfn)).symm
      exact ⟨by kernel_rfl, fun j t ht => by
        rw [Tryd.params9] at ht
        have hm : t ∈ [38, 38, 38] := by simpa using Array.mem_of_getElem? ht
        have hall : ([38, 38, 38].all fun u => !Tryd.prog.wantsStandIn u) = true := by kernel_rfl
        exact (show Tryd.prog.wantsStandIn t = false by simpa using List.all_eq_true.1 hall t hm)⟩)
    (by kernel_rfl)
end Go.Proofs.YtcfjjeipdacbcaaDoor.attrBack
