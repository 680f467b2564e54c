import Derived.Test.YtfbcgjpblomckaaDoorTie
import Derived.Test.YtfbcgjpblomckaaDoorCards
import Derived.Test.YtfbcgjpblomckaaDoorLaid
import Derived.Test.YtfbcgjpblomckaaDoorAmArgs2
import Derived.Test.YtfbcgjpblomckaaDoorTermPlays0
import Derived.WalkKit
import Derived.ProofKit
import Derived.LaidMore
import Derived.SevenTiedAt
set_option linter.unusedVariables false
namespace Go.Proofs.YtfbcgjpblomckaaDoor.termPlays
open Go Go.ChangeShapes Go.WideShapes Go.ChangeAt Go.WideMaps Go.WideElems Go.RowKit AM
theorem own : ownKnob Tryd.prog.godebug = none := by kernel_rfl
theorem laidOut : laidOutB Tryd.prog = true := by kernel_rfl
theorem tg : ∀ t ∈ TT,t.g ∈ [0,1] /\ t.g < 999999 := by decide
theorem hgT : ∀ g ∈ [0,1],g < 999999 -> g ∈ (TT).map (·.g) := by decide
noncomputable abbrev Q : Prog := Q1 TT [0,1] (fun _ _ => Option.none)
theorem no (f : FuncId) (_ : Nat.beq f 10 = false) (a : List AV) : Q.orc f a = none := rfl
theorem rwq : RwQ Q := ⟨no,fn20,fn49,fn76,fn89⟩
theorem atq : AtQ Q := ⟨fn68,fn83,fn84,fn85,fn86,fn91,no⟩
theorem evq : EvN.EvQ Q := ⟨fn22,fn29,fn31,fn23,fn30,fn32,fn33,fn34,fn35,fn36,fn50,fn57,fn58,fn51,fn52,fn53,fn54,fn55,fn56,fn59,fn60,fn61,fn62,fn63,fn64,fn77,fn78,fn79,fn90,no⟩
theorem tqq : EvN.TwQ Q := ⟨rwq,atq,evq,fn7,fn8,fn9,fn11,fn12,fn15,fn17,fn19,fn21,fn24,fn28,fn37,fn38,fn65,fn66,fn67,fn80,fn81,fn82⟩
theorem erq : EvN.Rf.EvR Q := ⟨no,fn26,fn39,fn40,fn41,fn42,fn43,fn44,fn69,fn70,fn71,fn87⟩
theorem arq : ArQ Q := ⟨fn48,fn72,fn73,fn74,fn75,fn88,no⟩
theorem tdq : EvN.Rf.TdQ Q := ⟨tqq,erq,arq,fn13,fn14,fn16,fn18,fn25,fn27,fn45,fn46,fn47⟩
theorem run (dts : List Dt) (avs : List AV) (H : AHeap) (h : ArgsR Tryd.prog H [3,3,40] dts avs) (hf : ∀ b,H.next <= b -> H.get b = none) (ht : hasTabs H TT = true) : ∃ n H',callF Q n (.fn 4) avs H = some (.bool true,H') := by
 obtain ⟨w,v1,d1,vs1,rfl,rfl,_,h2⟩ := arg_one (one_int Tryd.underlying3) h
 obtain ⟨hh,v2,d2,vs2,rfl,rfl,_,h3⟩ := arg_one (one_int Tryd.underlying3) h2
 obtain ⟨l,v3,d3,vs3,rfl,hv,_,h4⟩ := arg_one EvN.Rf.one_acts h3
 obtain rfl := args_none h4
 exact (EvN.Rf.law4 (Q := Q) tdq fn4 fn10 (fun _ => rfl) ht hf w hh hv).runs (fun v H' h => h)
set_option maxRecDepth 100000 in
theorem contract (H : Type) (enc : TypeId × Value -> H) (W : World) (base : Nat) (args : Array Value) (ds gs : List (DataW H)) (before : List MemPlace)
  (hval : ∀ (j : Nat) t v,Tryd.f4.params[j]? = some t -> args[j]? = some v -> Value.okWide Tryd.prog W .any base t v)
  (hW : DataW.Whole enc Tryd.prog Tryd.f4.params.toList Rows.termPlaysSpec.vars false W args.toList ds gs before) (hL : laidMetH Tryd.prog Rows.termPlaysRow.laid W) :
  Calls Tryd.prog 4 args W fun e W' => ∃ v,e = .returned v /\ Rows.termPlaysSpec.post enc Tryd.prog Tryd.f4 false true false false W args v W' :=
 law_callsG (Q := Q) mix (ok1 TT [0,1] tg (orc := fun _ _ => Option.none) (fun _ _ _ h => by cases h)) laidOut (tb := 4) (fun t ht => by
   rw [Tryd.params4] at ht
   simp only [List.mem_cons,List.not_mem_nil,or_false] at ht
   rcases ht with rfl | rfl | rfl <;> exact ⟨by kernel_rfl,by kernel_rfl,of_decide_eq_true (by kernel_rfl)⟩) (by kernel_rfl) Tryd.underlying4 rfl
  (fun ds hd => by rw [Tryd.params4] at hd; match ds,hd with | [_,_,_],_ => rfl)
  (sr_tabs tok (laidTT hL)) (tabI_glM (l := TT) hgT)
  (fun dts avs H hA hfr hsub _ => run dts avs H (by rw [Tryd.params4] at hA; exact hA) hfr (hasTabs_sub tok hsub)) hval hW
theorem door_met (os : Os) (args : Array Value) : laidMetH Tryd.prog Rows.termPlaysRow.laid ((World.doorLaid Tryd.prog 400 os).forCall (fun _ _ => 0) ⟨#[],args,[]⟩).memory :=
 laidMetH_of_parts3 (fuel := 8) (laidMet_of_run' 8 (by kernel_rfl) (by kernel_rfl)) (by kernel_rfl) (by kernel_rfl)
set_option maxRecDepth 100000 in
theorem lifted (os : Os) (started : os.Started) (H : Type) (enc : TypeId × Value -> H) :
  ReturnsInHanded {} Tryd.checked os 4 .any (fun w args => (Rows.termPlaysSpec.pre enc Tryd.prog Tryd.f4 [] false w args /\ laidMetH Tryd.prog Rows.termPlaysRow.laid w) /\ sizedMet enc Tryd.prog Tryd.f4 (OpenSpec.ofChange Rows.termPlaysSpec) false w args)
   (Rows.termPlaysSpec.post enc Tryd.prog Tryd.f4 false true false false) := by
 refine returnsInHanded_of_change_and (C := Tryd.checked) (X := fun w _ => laidMetH Tryd.prog Rows.termPlaysRow.laid w) (fun _ _ _ hh h => h.of_heap hh) own started (by kernel_rfl) Tryd.func4
  (ChangeSpec.witness_shaped (enc := enc) (C := Tryd.checked) (os := os) (X := fun w _ => laidMetH Tryd.prog Rows.termPlaysRow.laid w) false (World.doorLaid Tryd.prog 400 os) #[.int .i64 0,.int .i64 0,.slice Option.none 0 0] 8 rfl (World.shaped_of_RefB (by kernel_rfl) (by kernel_rfl)) (by kernel_rfl) (by kernel_rfl) (by kernel_rfl) (door_met os _)) ?_
 intro W base args ds gs before hval hW _ _ hL _
 exact contract H enc W base args ds gs before hval hW hL
theorem holds : Rows.TermPlaysSaid :=
 OpenClaim.holds_of_wide 4 Tryd.f4 rfl rfl rfl rfl rfl rfl rfl ⟨rfl,rfl,rfl,rfl,rfl⟩ rfl rfl rfl rfl rfl (by kernel_rfl) Tryd.func4 (by kernel_rfl)
  (of_decide_eq_true (by kernel_rfl)) (by unfold Func.isWrapper; first | (rw [if_pos (by decide +kernel)]; kernel_rfl) | (rw [if_neg (by decide +kernel)]; exact ⟨rfl,rfl⟩))
  (fun os started H enc _ => lifted os started H enc)
theorem proved : Rows.TermPlaysCardSaid :=
 Claim7.holds_tied_plain_at .later [] [.data, .data] true (true, "8c63478ceadc2a49fbd03c1a7d0895c4b83e0916450d50beacb00eb1a9b3b000") false
  holds (fun _ h => by cases h) (by kernel_rfl) (fun _ h => by cases h) termPlays_row_tie rfl ⟨rfl,rfl⟩ (by kernel_rfl) rfl
  (fun f fn hf hfn => by
   obtain rfl : f = 4 := Option.some.inj ((show Tryd.prog.funcNamed "jalousie/jalousielaw27.TermPlays" = some 4 by kernel_rfl).symm.trans hf) |>.symm
   obtain rfl : fn = Tryd.f4 := (Option.some.inj (Tryd.func4.symm.trans hfn)).symm
   exact ⟨by kernel_rfl,fun j t ht => by
    rw [Tryd.params4] at ht
    have hm : t ∈ [3,3,40] := by simpa using Array.mem_of_getElem? ht
    have hall : ([3,3,40].all fun u => !Tryd.prog.wantsStandIn u) = true := by kernel_rfl
    exact (show Tryd.prog.wantsStandIn t = false by simpa using List.all_eq_true.1 hall t hm)⟩)
  (by kernel_rfl)
end Go.Proofs.YtfbcgjpblomckaaDoor.termPlays
