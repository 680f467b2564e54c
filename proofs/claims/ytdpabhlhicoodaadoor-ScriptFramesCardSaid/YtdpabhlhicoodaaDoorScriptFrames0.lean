/-
  The law ScriptFrames, walked on the abstract machine.
-/
import Derived.Test.YtdpabhlhicoodaaDoorAmSl
import Derived.Test.YtdpabhlhicoodaaDoorCode
set_option linter.unusedVariables false
set_option linter.unusedSimpArgs false
namespace Go.Proofs.YtdpabhlhicoodaaDoor.AM
open Go
theorem wantU (b : Bool) : wantV .undef b = false := rfl
def bsV (n : Nat) (z : List AV) (ps : List (Nat × Nat × AV)) : Option (AObj × AKind) := if n * 1 > 16777216 ∨ ¬ (n * 1 = 0 ∨ 0 < z.length) then none else match buildIn (zeros z (n * 1)) ps with | some cs => if cs.all AV.one then some (.row ⟨cs, 0, false, true⟩, .slc n n) else none | none => none
theorem run_bsV (e : Env) (n : Nat) (z : List AV) (ps : List (Nat × Opd)) : LOp.run e (.bslice 1 n z ps) = bsV n z (ps.map fun p => (p.1 * 1, 1, p.2.ev e)) := rfl
theorem bs3 (a b c : Int) : bsV 3 [.int .u8 0] [(0 * 1, 1, .int .u8 a), (1 * 1, 1, .int .u8 b), (2 * 1, 1, .int .u8 c)] = some (.row ⟨[.int .u8 a, .int .u8 b, .int .u8 c], 0, false, true⟩, .slc 3 3) := rfl
theorem wrapU8 {x : Int} (h0 : 0 ≤ x) (h1 : x ≤ 255) : IntKind.wrap .u8 x = x := by
  simp [IntKind.wrap, IntKind.signed, IntKind.bits]
  omega
theorem wrapU8m (n : Nat) : IntKind.wrap .u8 (n : Int) = ((n % 256 : Nat) : Int) := by
  simp [IntKind.wrap, IntKind.signed, IntKind.bits]
def slStrV (x : AV) (lo hi : Option AV) : Option AV := ROp.run ⟨0, .nil⟩ .nil (.slStr (.c x) (lo.map .c) (hi.map .c))
theorem run_slStr (H : AHeap) (e : Env) (x : Opd) (lo hi : Option Opd) : ROp.run H e (.slStr x lo hi) = slStrV (x.ev e) (lo.map (·.ev e)) (hi.map (·.ev e)) := by
  cases lo <;> cases hi <;> rfl
theorem sob3 {base : Nat} {H : AHeap} {l : List Cel} {b k : Nat} {x y z : Int} (h : Hp base H (⟨b, k, [.int .u8 x, .int .u8 y, .int .u8 z]⟩ :: l)) : strOfBytesV H (.slc b 0 3 3) = some (.str [UInt8.ofNat x.toNat, UInt8.ofNat y.toNat, UInt8.ofNat z.toNat]) := by
  obtain ⟨B, r, hc⟩ := h.rowOf (List.mem_cons_self ..)
  simp only [strOfBytesV, ROp.run, Opd.ev, r, hc]
  rfl
theorem shrN (k k' : IntKind) (a i : Nat) (h : i ≤ k.bits) : binV .shr (.int k (a : Int)) (.int k' (i : Int)) = some (.int k ((a / 2 ^ i : Nat) : Int)) := by
  simp only [binV, shiftBin, Int.toNat_natCast]
  rw [if_neg (by omega), Nat.min_eq_left h, Int.fdiv_eq_ediv_of_nonneg _ (Int.le_of_lt (Int.pow_pos (by decide)))]
  rfl
def frameB (k : Nat) (s : List UInt8) : List UInt8 := [UInt8.ofNat k, UInt8.ofNat (s.length / 256 % 256), UInt8.ofNat (s.length % 256)] ++ s
section
variable {Q : Prog} (ho : ∀ f, Nat.beq f 4 = false → ∀ a, Q.orc f a = none) {H : AHeap}
include ho
theorem frame_spec (q5 : Q.fns 5 = some A5) {k : Nat} (hk : k ≤ 255) {s : List UInt8} (hs : s.length ≤ 100000) (hf : Fr H) : FnTo Q 5 [.int .u8 k, .str s] H (fun r _ => r = .str (frameB k s)) := by
  refine fn_wp (ho 5 rfl _) q5 (by simp [A5]) ?_
  have sh : binV .shr (.int .i64 (s.length : Int)) (.int .u64 8) = some (.int .i64 ((s.length / 256 : Nat) : Int)) := shrN .i64 .u64 s.length 8 (by decide)
  have w1 := wrapU8m (s.length / 256)
  have w2 := wrapU8m s.length
  obtain ⟨H1, s1, h1, k1⟩ := (Hp.nil H hf).make [.int .u8 k, .int .u8 ((s.length / 256 % 256 : Nat) : Int), .int .u8 ((s.length % 256 : Nat) : Int)] 1
  have sb := sob3 h1
  simp only [Int.toNat_natCast] at sb
  have ad := bin_adds [UInt8.ofNat k, UInt8.ofNat (s.length / 256 % 256), UInt8.ofNat (s.length % 256)] s (by simp; omega)
  simp only [A5, sh, w1, w2, run_bsV, bs3, s1, sb, ad, SX, Opd.ev, resVal, resVals, ARes.val, Bool.false_eq_true, Bool.not_false, Bool.not_true, List.getD_cons_succ, List.getD_cons_zero, List.map_cons, List.map_nil, Nat.add_zero, Nat.zero_add, Option.map_none, Option.map_some, Option.some.injEq, and_true, decide_false, decide_true, true_and, reduceCtorEq, Nat.reduceEqDiff, ↓reduceIte, Int.reduceEq, Int.reduceLT, Int.reduceLE, Nat.reduceAdd]
  rfl
theorem law3 (q3 : Q.fns 3 = some A3) (q5 : Q.fns 5 = some A5) (yes : Q.orc 4 [] = some (.bool true)) (hT : Q.tabs = []) {k : Nat} (hk : k ≤ 255) {s : List UInt8} (hf : Fr H) (hmax : s.length ≤ maxLen) : FnTo Q 3 [.int .u8 k, .str s] H (fun r _ => r = .bool true) := by
  refine fn_wp (ho 3 rfl _) q3 (by simp [A3]) ?_
  simp only [A3, SX, Opd.ev, resVal, resVals, ARes.val, Bool.false_eq_true, Bool.not_false, Bool.not_true, List.getD_cons_succ, List.getD_cons_zero, List.map_cons, List.map_nil, Nat.add_zero, Nat.zero_add, Option.map_none, Option.map_some, Option.some.injEq, and_true, decide_false, decide_true, true_and, reduceCtorEq, Nat.reduceEqDiff, ↓reduceIte, Int.reduceEq, Int.reduceLT, Int.reduceLE, Nat.reduceAdd]
  refine fn_orc yes (by rw [hT]; rfl) ?_
  by_cases c : s.length ≤ 70000
  rotate_left
  · have d : decide ((70000 : Int) < (s.length : Int)) = true := decide_eq_true (by omega)
    simp only [d, SX, Opd.ev, resVal, resVals, ARes.val, Bool.false_eq_true, Bool.not_false, Bool.not_true, List.getD_cons_succ, List.getD_cons_zero, List.map_cons, List.map_nil, Nat.add_zero, Nat.zero_add, Option.map_none, Option.map_some, Option.some.injEq, and_true, decide_false, decide_true, true_and, reduceCtorEq, Nat.reduceEqDiff, ↓reduceIte, Int.reduceEq, Int.reduceLT, Int.reduceLE, Nat.reduceAdd]
  have d : decide ((70000 : Int) < (s.length : Int)) = false := decide_eq_false (by omega)
  simp only [d, SX, Opd.ev, resVal, resVals, ARes.val, Bool.false_eq_true, Bool.not_false, Bool.not_true, List.getD_cons_succ, List.getD_cons_zero, List.map_cons, List.map_nil, Nat.add_zero, Nat.zero_add, Option.map_none, Option.map_some, Option.some.injEq, and_true, decide_false, decide_true, true_and, reduceCtorEq, Nat.reduceEqDiff, ↓reduceIte, Int.reduceEq, Int.reduceLT, Int.reduceLE, Nat.reduceAdd]
  refine (frame_spec ho q5 hk (by omega) hf).mono ?_
  rintro _ H1 rfl
  have hl : (frameB k s).length = s.length + 3 := by unfold frameB; simp
  have w1 : IntKind.wrap .i64 ((s.length : Int) + 3) = ((s.length + 3 : Nat) : Int) := by rw [wrapI64 (by omega) (by omega)]; rfl
  have d1 : decide ((((frameB k s).length : Nat) : Int) = ((s.length + 3 : Nat) : Int)) = true := decide_eq_true (by omega)
  have byte : ∀ n, n ≤ 255 → ((UInt8.ofNat n).toNat : Int) = (n : Int) := fun n hn => by rw [UInt8.toNat_ofNat']; omega
  have i0 : idxStrV (.str (frameB k s)) (.int .i64 0) = some (.int .u8 (k : Int)) := by
    rw [← byte k hk]; exact idxStr_at (i := 0) (b := UInt8.ofNat k) rfl .i64
  have i1 : idxStrV (.str (frameB k s)) (.int .i64 1) = some (.int .u8 ((s.length / 256 % 256 : Nat) : Int)) := by
    rw [← byte (s.length / 256 % 256) (by omega)]; exact idxStr_at (i := 1) (b := UInt8.ofNat (s.length / 256 % 256)) rfl .i64
  have i2 : idxStrV (.str (frameB k s)) (.int .i64 2) = some (.int .u8 ((s.length % 256 : Nat) : Int)) := by
    rw [← byte (s.length % 256) (by omega)]; exact idxStr_at (i := 2) (b := UInt8.ofNat (s.length % 256)) rfl .i64
  have w2 : IntKind.wrap .i64 ((s.length / 256 % 256 : Nat) : Int) = ((s.length / 256 % 256 : Nat) : Int) := wrapI64 (by omega) (by omega)
  have w3 : IntKind.wrap .i64 ((s.length % 256 : Nat) : Int) = ((s.length % 256 : Nat) : Int) := wrapI64 (by omega) (by omega)
  have w4 : IntKind.wrap .i64 (256 * ((s.length / 256 % 256 : Nat) : Int)) = ((256 * (s.length / 256 % 256) : Nat) : Int) := by rw [wrapI64 (by omega) (by omega)]; rfl
  have w5 : IntKind.wrap .i64 (((256 * (s.length / 256 % 256) : Nat) : Int) + ((s.length % 256 : Nat) : Int)) = ((s.length % 65536 : Nat) : Int) := by rw [wrapI64 (by omega) (by omega)]; omega
  have rm : binV .rem (.int .i64 (s.length : Int)) (.int .i64 65536) = some (.int .i64 ((s.length % 65536 : Nat) : Int)) := by
    have e : binV .rem (.int .i64 (s.length : Int)) (.int .i64 65536) = some (.int .i64 ((s.length : Int).tmod 65536)) := by simp [binV, intBin]
    rw [e]; rfl
  have sl : slStrV (.str (frameB k s)) (some (.int .i64 3)) none = some (.str s) := by
    have : bounds (frameB k s).length (frameB k s).length (some (.int .i64 3)) none = some (3, (frameB k s).length) := by
      simp only [bounds, bound, if_pos (show (0 : Int) ≤ 3 ∧ (3 : Int) ≤ (((frameB k s).length : Nat) : Int) by omega)]; rfl
    simp only [slStrV, ROp.run, Opd.ev, Option.map_some, Option.map_none, this, List.take_length]
    rfl
  have es : binV .eql (.str s) (.str s) = some (.bool true) := by simp [binV, strBin]
  simp only [w1, d1, i0, i1, i2, w2, w3, w4, w5, rm, run_slStr, sl, es, wantU, resVal, resVals, ARes.val, SX, Opd.ev, resVal, resVals, ARes.val, Bool.false_eq_true, Bool.not_false, Bool.not_true, List.getD_cons_succ, List.getD_cons_zero, List.map_cons, List.map_nil, Nat.add_zero, Nat.zero_add, Option.map_none, Option.map_some, Option.some.injEq, and_true, decide_false, decide_true, true_and, reduceCtorEq, Nat.reduceEqDiff, ↓reduceIte, Int.reduceEq, Int.reduceLT, Int.reduceLE, Nat.reduceAdd]
end
end Go.Proofs.YtdpabhlhicoodaaDoor.AM
