/-
  What strings.Repeat answers, as the abstract machine has it: proved of texts whose copies are together not longer than one block may be.
-/
import Derived.Test.YteockjhckmlclaaSim0
import Derived.Test.YteockjhckmlclaaShelf
set_option linter.unusedVariables false
namespace Go.Proofs.Yteockjhckmlclaa.AM
open Go Go.RowKit
def repOrc : List AV → Option AV
  | [.str s, .int .i64 (.ofNat c)] => if s.length * c ≤ 140737488355328 ∧ c ≤ 9223372036854775807 then some (.str (Lib.repeatL s c)) else none
  | _ => none
def orcR (f : FuncId) (args : List AV) : Option AV := bif Nat.beq f 24 then repOrc args else none
theorem orcR_ok (f : FuncId) (args : List AV) (v : AV) (h : orcR f args = some v) : OrcOK Try.prog f args v := by
  unfold orcR at h
  cases hf : Nat.beq f 24 with
  | false => rw [hf] at h; cases h
  | true =>
    obtain rfl := Nat.eq_of_beq_eq_true hf
    rw [hf] at h
    simp only [cond_true] at h
    unfold repOrc at h
    split at h
    · rename_i s c
      split at h
      · rename_i hb
        injection h with h; subst h
        refine ⟨⟨_, Try.func24, by kernel_rfl, by kernel_rfl⟩, rfl, fun W cargs hl => ?_⟩
        obtain ⟨c1, z1, h1, hv1, hz1⟩ := hl.cons_inv
        obtain ⟨c2, z2, rfl, hv2, hz2⟩ := hz1.cons_inv
        rw [hz2.nil_inv] at h1
        obtain ⟨sb, rfl, rfl⟩ := str_inv hv1
        rw [int_inv hv2] at h1
        obtain rfl : cargs = #[.string sb, .int .i64 (c : Int)] := Array.ext' h1
        have hs : sb.data.toList.length = sb.size := Array.length_toList
        refine (Try.strings_Repeat sb c W hb.2 (by rw [← hs]; exact hb.1)).mono fun q W' hq => ?_
        obtain ⟨rfl, hw⟩ := hq
        refine ⟨_, rfl, ?_, hw⟩
        exact VR.str (m := noInj) ⟨(Lib.repeatL sb.data.toList c).toArray⟩
      · cases h
    · cases h
end Go.Proofs.Yteockjhckmlclaa.AM
