/-
  Shifts and bits of whole numbers of 64 bits that are not below 0, as plain arithmetic.
-/
import Derived.Test.YtdkpmlhbofgfdaaGreatDoorAmBld
set_option linter.unusedVariables false
set_option linter.unusedSimpArgs false
namespace Go.Proofs.YtdkpmlhbofgfdaaGreatDoor.AM
open Go
theorem wrapNat {n : Nat} (h : n < 9223372036854775808) : IntKind.wrap .i64 (n : Int) = n := wrapI64 (by omega) (by omega)
theorem wrapU8N {n : Nat} : IntKind.wrap .u8 (n : Int) = ((UInt8.ofNat n).toNat : Int) := by
  simp [IntKind.wrap, IntKind.signed, IntKind.bits]
theorem wrapU64N {n : Nat} (h : n < 18446744073709551616) : IntKind.wrap .u64 (n : Int) = n := by
  simp [IntKind.wrap, IntKind.signed, IntKind.bits]
  omega
theorem bv64 {n : Nat} (h : n < 18446744073709551616) : (BitVec.ofInt 64 (n : Int)).toNat = n := by
  rw [BitVec.ofInt_natCast, BitVec.toNat_ofNat]
  exact Nat.mod_eq_of_lt (by omega)
theorem shlN {w k : Nat} {K : IntKind} (hk : k ≤ 64) (h : w * 2 ^ k < 9223372036854775808) : binV .shl (.int .i64 (w : Int)) (.int K (k : Int)) = some (.int .i64 ((w * 2 ^ k : Nat) : Int)) := by
  have e : binV .shl (.int .i64 (w : Int)) (.int K (k : Int)) = shiftBin .shl .i64 (w : Int) (k : Int) := rfl
  rw [e]
  unfold shiftBin
  rw [if_neg (by omega)]
  simp only [Int.toNat_natCast, IntKind.bits, Nat.min_eq_left hk]
  rw [show (w : Int) * 2 ^ k = ((w * 2 ^ k : Nat) : Int) by push_cast; rfl, wrapNat h]
theorem shrN {w k : Nat} {K : IntKind} (hk : k ≤ 64) : binV .shr (.int .i64 (w : Int)) (.int K (k : Int)) = some (.int .i64 ((w / 2 ^ k : Nat) : Int)) := by
  have e : binV .shr (.int .i64 (w : Int)) (.int K (k : Int)) = shiftBin .shr .i64 (w : Int) (k : Int) := rfl
  rw [e]
  unfold shiftBin
  rw [if_neg (by omega)]
  simp only [Int.toNat_natCast, IntKind.bits, Nat.min_eq_left hk]
  rw [Int.fdiv_eq_ediv_of_nonneg _ (Int.pow_nonneg (by omega))]
  congr 2
theorem andN {w k : Nat} (h : w < 9223372036854775808) (hk : 2 ^ k ≤ 9223372036854775808) : binV .and (.int .i64 (w : Int)) (.int .i64 ((2 ^ k - 1 : Nat) : Int)) = some (.int .i64 ((w % 2 ^ k : Nat) : Int)) := by
  have e : binV .and (.int .i64 (w : Int)) (.int .i64 ((2 ^ k - 1 : Nat) : Int)) = some (.int .i64 (IntKind.wrap .i64 (((BitVec.ofInt 64 (w : Int) &&& BitVec.ofInt 64 ((2 ^ k - 1 : Nat) : Int)).toNat : Nat) : Int))) := rfl
  rw [e, BitVec.toNat_and, bv64 (by omega), bv64 (by omega), Nat.and_two_pow_sub_one_eq_mod, wrapNat (Nat.lt_of_le_of_lt (Nat.mod_le _ _) h)]
theorem orN {w k b : Nat} (hb : b < 2 ^ k) (h : w * 2 ^ k + b < 9223372036854775808) : binV .or (.int .i64 ((w * 2 ^ k : Nat) : Int)) (.int .i64 (b : Int)) = some (.int .i64 ((w * 2 ^ k + b : Nat) : Int)) := by
  have e : binV .or (.int .i64 ((w * 2 ^ k : Nat) : Int)) (.int .i64 (b : Int)) = some (.int .i64 (IntKind.wrap .i64 (((BitVec.ofInt 64 ((w * 2 ^ k : Nat) : Int) ||| BitVec.ofInt 64 (b : Int)).toNat : Nat) : Int))) := rfl
  rw [e, BitVec.toNat_or, bv64 (by omega), bv64 (by omega), Nat.mul_comm, ← Nat.two_pow_add_eq_or_of_lt hb, Nat.mul_comm, wrapNat (by omega)]
end Go.Proofs.YtdkpmlhbofgfdaaGreatDoor.AM
