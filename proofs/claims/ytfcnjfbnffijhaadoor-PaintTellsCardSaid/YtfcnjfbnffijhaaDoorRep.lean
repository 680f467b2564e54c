/-
  What some calls of a function answer, run once by the abstract machine: known by their answers from there on.
-/
import Derived.Test.YtfcnjfbnffijhaaDoorTab
import Derived.Test.YtfcnjfbnffijhaaDoorLaid
import Derived.Test.YtfcnjfbnffijhaaDoorDoorB
set_option linter.unusedVariables false
namespace Go.Proofs.YtfcnjfbnffijhaaDoor.AM
open Go Go.RowKit
def orcT : List (Nat × List AV × AV) := [(39, [.int .i32 7], .int .i64 0), (39, [.int .i32 32], .int .i64 1), (39, [.int .i32 97], .int .i64 1), (39, [.int .i32 98], .int .i64 1), (39, [.int .i32 99], .int .i64 1), (39, [.int .i32 100], .int .i64 1), (39, [.int .i32 120], .int .i64 1), (39, [.int .i32 19968], .int .i64 2), (37, [.agg [.int .u16 0, .int .u8 0, .int .u32 0, .int .u8 0, .int .u32 0]], .bool true)]
def orcR (f : FuncId) (args : List AV) : Option AV := bif (Nat.beq f 39 || Nat.beq f 37) then orcGo f args orcT else none
theorem tgR : ∀ t ∈ TT, t.g ∈ [0, 1, 2, 999999, 1000061, 1000062, 1000063] ∧ t.g < 999999 := by decide
theorem hgR : ∀ g ∈ [0, 1, 2, 999999, 1000061, 1000062, 1000063], g < 999999 → g ∈ (TT).map (·.g) := by decide
set_option maxRecDepth 100000 in
theorem orcT_runs : (orcT.all fun x => isVal x.2.2 (Fast.call (QL TT tblL (fun _ _ => none)) 100 (.fn x.1) x.2.1 (tabH 3 TT)) && (x.2.1.all AV.plain && x.2.2.plain)) = true := by kernel_rfl
theorem orcR_ok (f : FuncId) (args : List AV) (v : AV) (h : orcR f args = some v) : OrcOK Tryd.prog TT f args v := by
  unfold orcR at h
  cases hf : (Nat.beq f 39 || Nat.beq f 37) with
  | false => rw [hf] at h; cases h
  | true =>
    rw [hf] at h
    have h0 := List.all_eq_true.1 orcT_runs _ (orcGo_mem h)
    simp only [Bool.and_eq_true] at h0
    obtain ⟨h1, h2, h3⟩ := h0
    rw [Fast.call_eq] at h1
    obtain ⟨H', h4⟩ := isVal_some h1
    exact orc_of_run (N := 3) mix tok hgR (okL tgR tblL_ok (fun _ _ _ h => by cases h)) h2 h3 h4
end Go.Proofs.YtfcnjfbnffijhaaDoor.AM
