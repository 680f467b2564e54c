/-
  What strconv.Itoa answers for the numbers from 0 to 255: run on the abstract machine.
-/
import Derived.Test.YtfcnjfbnffijhaaDoorPtX2
import Derived.Test.YtfcnjfbnffijhaaDoorTab
import Derived.Test.YtfcnjfbnffijhaaDoorLaid
import Derived.Test.YtfcnjfbnffijhaaDoorRep
import Derived.Test.YtfcnjfbnffijhaaDoorAmArgs2
set_option linter.unusedVariables false
namespace Go.Proofs.YtfcnjfbnffijhaaDoor.AM
open Go
def ansS (r : Option (AV × AHeap)) (l : List UInt8) : Bool := match r with | some (.str s, _) => decide (s = l) | _ => false
noncomputable def itoaN (n : Nat) : Bool := ansS (Fast.call (QL TT tblL orcR) 100 (.fn 44) [.int .i64 (n : Int)] (tabH 3 TT)) (dec3 n)
set_option maxRecDepth 100000 in
set_option maxHeartbeats 4000000 in
theorem itoa0 : ((List.range 64).all fun i => itoaN (i + 0)) = true := by kernel_rfl
set_option maxRecDepth 100000 in
set_option maxHeartbeats 4000000 in
theorem itoa1 : ((List.range 64).all fun i => itoaN (i + 64)) = true := by kernel_rfl
set_option maxRecDepth 100000 in
set_option maxHeartbeats 4000000 in
theorem itoa2 : ((List.range 64).all fun i => itoaN (i + 128)) = true := by kernel_rfl
set_option maxRecDepth 100000 in
set_option maxHeartbeats 4000000 in
theorem itoa3 : ((List.range 64).all fun i => itoaN (i + 192)) = true := by kernel_rfl
set_option maxRecDepth 100000 in
set_option maxHeartbeats 4000000 in
theorem itoa4 : ((List.range 64).all fun i => itoaN (i + 256)) = true := by kernel_rfl
set_option maxRecDepth 100000 in
set_option maxHeartbeats 4000000 in
theorem itoa5 : ((List.range 64).all fun i => itoaN (i + 320)) = true := by kernel_rfl
set_option maxRecDepth 100000 in
set_option maxHeartbeats 4000000 in
theorem itoa6 : ((List.range 64).all fun i => itoaN (i + 384)) = true := by kernel_rfl
theorem itoa_all {n : Nat} (h : n < 401) : itoaN n = true := by
  by_cases c0 : n < 64
  · have := List.all_eq_true.1 itoa0 (n - 0) (List.mem_range.2 (by omega))
    rwa [show n - 0 + 0 = n by omega] at this
  by_cases c1 : n < 128
  · have := List.all_eq_true.1 itoa1 (n - 64) (List.mem_range.2 (by omega))
    rwa [show n - 64 + 64 = n by omega] at this
  by_cases c2 : n < 192
  · have := List.all_eq_true.1 itoa2 (n - 128) (List.mem_range.2 (by omega))
    rwa [show n - 128 + 128 = n by omega] at this
  by_cases c3 : n < 255 + 1
  · have := List.all_eq_true.1 itoa3 (n - 192) (List.mem_range.2 (by omega))
    rwa [show n - 192 + 192 = n by omega] at this
  by_cases c4 : n < 320
  · have := List.all_eq_true.1 itoa4 (n - 256) (List.mem_range.2 (by omega))
    rwa [show n - 256 + 256 = n by omega] at this
  by_cases c5 : n < 384
  · have := List.all_eq_true.1 itoa5 (n - 320) (List.mem_range.2 (by omega))
    rwa [show n - 320 + 320 = n by omega] at this
  have := List.all_eq_true.1 itoa6 (n - 384) (List.mem_range.2 (by omega))
  rwa [show n - 384 + 384 = n by omega] at this
theorem ansS_some {r : Option (AV × AHeap)} {l : List UInt8} (h : ansS r l = true) : ∃ H', r = some (.str l, H') := by
  unfold ansS at h
  split at h
  · obtain rfl := of_decide_eq_true h
    exact ⟨_, rfl⟩
  · cases h
theorem itoa_closed {n : Nat} (hn : n < 401) : OrcOK Tryd.prog TT 44 [.int .i64 (n : Int)] (.str (D n)) := by
  have r := itoa_all hn
  unfold itoaN at r
  rw [Fast.call_eq] at r
  obtain ⟨H', h⟩ := ansS_some r
  rw [dec3_eq (by omega)]
  exact orc_of_run (N := 3) mix tok (by decide) (okL (gl := [0, 1, 2, 999999, 1000061, 1000062, 1000063]) (by decide) tblL_ok orcR_ok) rfl rfl h
/-- two answers: a closed function's, and the numerals' -/
def orcI (g : FuncId) (f : FuncId) (args : List AV) : Option AV :=
  bif Nat.beq f 44 then (match args with | [.int .i64 (.ofNat n)] => (if n < 401 then some (.str (D n)) else none) | _ => none) else one g [] (.bool true) f args
theorem orcI_ok {g : FuncId} (h : OrcOK Tryd.prog TT g [] (.bool true)) (f : FuncId) (args : List AV) (v : AV) (hv : orcI g f args = some v) : OrcOK Tryd.prog TT f args v := by
  unfold orcI at hv
  cases hf : Nat.beq f 44 with
  | false => rw [hf] at hv; exact one_ok h f args v hv
  | true =>
    obtain rfl := Nat.eq_of_beq_eq_true hf
    rw [hf] at hv
    simp only [cond_true] at hv
    split at hv
    · split at hv
      · rename_i hn
        obtain rfl := Option.some.inj hv
        exact itoa_closed hn
      · cases hv
    · cases hv
end Go.Proofs.YtfcnjfbnffijhaaDoor.AM
