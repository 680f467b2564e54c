/-
  strconv.Itoa of the numbers from 0 to 9999, walked on the abstract machine.
-/
import Derived.Test.YtcfjjeipdacbcaaDoorAmSl
import Derived.Test.YtcfjjeipdacbcaaDoorCode
import Derived.Test.YtcfjjeipdacbcaaDoorLaid
import Derived.Lib.ItoaNum
set_option linter.unusedVariables false
set_option linter.unusedSimpArgs false
namespace Go.Proofs.YtcfjjeipdacbcaaDoor.AM
open Go
structure ItQ (Q : Prog) : Prop where
  q11 : Q.fns 11 = some A11
  q26 : Q.fns 26 = some A26
  q46 : Q.fns 46 = some A46
  q58 : Q.fns 58 = some A58
  q59 : Q.fns 59 = some A59
  q60 : Q.fns 60 = some A60
  q77 : Q.fns 77 = some A77
  q78 : Q.fns 78 = some A78
  q79 : Q.fns 79 = some A79
  ho : ∀ f, (Nat.beq f 11 || Nat.beq f 26 || Nat.beq f 46 || Nat.beq f 58 || Nat.beq f 59 || Nat.beq f 60 || Nat.beq f 77 || Nat.beq f 78 || Nat.beq f 79) = true → ∀ a, Q.orc f a = Option.none
def slStrV (x : AV) (lo hi : Option AV) : Option AV := ROp.run ⟨0, .nil⟩ .nil (.slStr (.c x) (lo.map .c) (hi.map .c))
theorem run_slStr (H : AHeap) (e : Env) (x : Opd) (lo hi : Option Opd) : ROp.run H e (.slStr x lo hi) = slStrV (x.ev e) (lo.map (·.ev e)) (hi.map (·.ev e)) := by
  cases lo <;> cases hi <;> rfl
def slAV' (n es : Nat) (x : AV) (lo hi : Option AV) : Option AV := ROp.run ⟨0, .nil⟩ .nil (.slA n es (.c x) (lo.map .c) (hi.map .c))
theorem run_slA' (H : AHeap) (e : Env) (n es : Nat) (x : Opd) (lo hi : Option Opd) : ROp.run H e (.slA n es x lo hi) = slAV' n es (x.ev e) (lo.map (·.ev e)) (hi.map (·.ev e)) := by
  cases lo <;> cases hi <;> rfl
def digs : List UInt8 := [48, 49, 50, 51, 52, 53, 54, 55, 56, 57, 97, 98, 99, 100, 101, 102, 103, 104, 105, 106, 107, 108, 109, 110, 111, 112, 113, 114, 115, 116, 117, 118, 119, 120, 121, 122]
def smalls : List UInt8 := [48, 48, 48, 49, 48, 50, 48, 51, 48, 52, 48, 53, 48, 54, 48, 55, 48, 56, 48, 57, 49, 48, 49, 49, 49, 50, 49, 51, 49, 52, 49, 53, 49, 54, 49, 55, 49, 56, 49, 57, 50, 48, 50, 49, 50, 50, 50, 51, 50, 52, 50, 53, 50, 54, 50, 55, 50, 56, 50, 57, 51, 48, 51, 49, 51, 50, 51, 51, 51, 52, 51, 53, 51, 54, 51, 55, 51, 56, 51, 57, 52, 48, 52, 49, 52, 50, 52, 51, 52, 52, 52, 53, 52, 54, 52, 55, 52, 56, 52, 57, 53, 48, 53, 49, 53, 50, 53, 51, 53, 52, 53, 53, 53, 54, 53, 55, 53, 56, 53, 57, 54, 48, 54, 49, 54, 50, 54, 51, 54, 52, 54, 53, 54, 54, 54, 55, 54, 56, 54, 57, 55, 48, 55, 49, 55, 50, 55, 51, 55, 52, 55, 53, 55, 54, 55, 55, 55, 56, 55, 57, 56, 48, 56, 49, 56, 50, 56, 51, 56, 52, 56, 53, 56, 54, 56, 55, 56, 56, 56, 57, 57, 48, 57, 49, 57, 50, 57, 51, 57, 52, 57, 53, 57, 54, 57, 55, 57, 56, 57, 57]
abbrev DI (n : Nat) : List UInt8 := Lib.decDigits n
theorem DI1 {n : Nat} (h : n < 10) : DI n = [UInt8.ofNat (48 + n)] := Lib.decDigits_one h
theorem DIq {n : Nat} (h : ¬ n < 10) : DI n = DI (n / 10) ++ [UInt8.ofNat (48 + n % 10)] := by
  show Lib.decDigits n = _
  rw [Lib.decDigits, dif_neg h]
theorem DI2 {n : Nat} (h : ¬ n < 10) (h' : n < 100) : DI n = [UInt8.ofNat (48 + n / 10), UInt8.ofNat (48 + n % 10)] := Lib.decDigits_two h h'
theorem digs_all : ((List.range 10).all fun n => decide ((digs.take (n + 1)).drop n = [UInt8.ofNat (48 + n)])) = true := by decide +kernel
theorem smalls_all : ((List.range 100).all fun n => decide ((smalls.take (n * 2 + 2)).drop (n * 2) = [UInt8.ofNat (48 + n / 10), UInt8.ofNat (48 + n % 10)]) && (decide (smalls[n * 2]? = some (UInt8.ofNat (48 + n / 10))) && decide (smalls[n * 2 + 1]? = some (UInt8.ofNat (48 + n % 10))))) = true := by decide +kernel
theorem slStr_of {s r : List UInt8} {a b : Nat} (h1 : a ≤ b) (h2 : b ≤ s.length) (h : (s.take b).drop a = r) : slStrV (.str s) (some (.int .i64 (a : Int))) (some (.int .i64 (b : Int))) = some (.str r) := by
  simp only [slStrV, ROp.run, Opd.ev, Option.map_some, bounds, bound, if_pos (show 0 ≤ (b : Int) ∧ (b : Int) ≤ (s.length : Int) by omega), Int.toNat_natCast, if_pos (show 0 ≤ (a : Int) ∧ (a : Int) ≤ (b : Int) by omega), h]
theorem sm_len : smalls.length = 200 := by decide +kernel
theorem sm_get {q : Nat} (hq : q < 100) : ((smalls.take (q * 2 + 2)).drop (q * 2) = [UInt8.ofNat (48 + q / 10), UInt8.ofNat (48 + q % 10)]) ∧ smalls[q * 2]? = some (UInt8.ofNat (48 + q / 10)) ∧ smalls[q * 2 + 1]? = some (UInt8.ofNat (48 + q % 10)) := by
  have := List.all_eq_true.1 smalls_all q (List.mem_range.2 hq)
  simpa only [Bool.and_eq_true, decide_eq_true_eq] using this
section
variable {Q : Prog} (iq : ItQ Q) {H : AHeap}
include iq
set_option maxRecDepth 100000 in
set_option maxHeartbeats 4000000 in
theorem small_spec {n : Nat} (h : n < 100) : FnTo Q 58 [.int .i64 n] H (fun r H' => r = .str (DI n) ∧ H' = H) := by
  refine fn_wp (iq.ho 58 rfl _) iq.q58 (by simp [A58]) ?_
  by_cases c : n < 10
  · have d : decide ((n : Int) < 10) = true := decide_eq_true (by omega)
    have w : IntKind.wrap .i64 ((n : Int) + 1) = ((n + 1 : Nat) : Int) := by rw [wrapI64 (by omega) (by omega)]; rfl
    have e : (digs.take (n + 1)).drop n = DI n := by
      rw [DI1 c]; simpa using List.all_eq_true.1 digs_all n (List.mem_range.2 c)
    have s := slStr_of (s := digs) (a := n) (b := n + 1) (by omega) (by show _ ≤ 36; omega) e
    simp only [digs] at s
    simp only [A58, d, w, run_slStr, s, SX, Opd.ev, resVal, resVals, ARes.val, Bool.false_eq_true, Bool.not_false, Bool.not_true, List.getD_cons_succ, List.getD_cons_zero, List.map_cons, List.map_nil, Nat.add_zero, Nat.zero_add, Option.map_none, Option.map_some, Option.some.injEq, and_true, decide_false, decide_true, true_and, reduceCtorEq, Nat.reduceEqDiff, ↓reduceIte, Int.reduceEq, Int.reduceLT, Int.reduceLE, Nat.reduceAdd]
  · have d : decide ((n : Int) < 10) = false := decide_eq_false (by omega)
    have w : IntKind.wrap .i64 ((n : Int) * 2) = ((n * 2 : Nat) : Int) := by rw [wrapI64 (by omega) (by omega)]; rfl
    have w2 : IntKind.wrap .i64 (((n * 2 : Nat) : Int) + 2) = ((n * 2 + 2 : Nat) : Int) := by rw [wrapI64 (by omega) (by omega)]; rfl
    have s := slStr_of (s := smalls) (a := n * 2) (b := n * 2 + 2) (by omega) (by rw [sm_len]; omega) (sm_get h).1
    rw [← DI2 c h] at s
    simp only [smalls] at s
    simp only [A58, d, w, w2, run_slStr, s, SX, Opd.ev, resVal, resVals, ARes.val, Bool.false_eq_true, Bool.not_false, Bool.not_true, List.getD_cons_succ, List.getD_cons_zero, List.map_cons, List.map_nil, Nat.add_zero, Nat.zero_add, Option.map_none, Option.map_some, Option.some.injEq, and_true, decide_false, decide_true, true_and, reduceCtorEq, Nat.reduceEqDiff, ↓reduceIte, Int.reduceEq, Int.reduceLT, Int.reduceLE, Nat.reduceAdd]
end
def len8 : List UInt8 := [0, 1, 2, 2, 3, 3, 3, 3, 4, 4, 4, 4, 4, 4, 4, 4, 5, 5, 5, 5, 5, 5, 5, 5, 5, 5, 5, 5, 5, 5, 5, 5, 6, 6, 6, 6, 6, 6, 6, 6, 6, 6, 6, 6, 6, 6, 6, 6, 6, 6, 6, 6, 6, 6, 6, 6, 6, 6, 6, 6, 6, 6, 6, 6, 7, 7, 7, 7, 7, 7, 7, 7, 7, 7, 7, 7, 7, 7, 7, 7, 7, 7, 7, 7, 7, 7, 7, 7, 7, 7, 7, 7, 7, 7, 7, 7, 7, 7, 7, 7, 7, 7, 7, 7, 7, 7, 7, 7, 7, 7, 7, 7, 7, 7, 7, 7, 7, 7, 7, 7, 7, 7, 7, 7, 7, 7, 7, 7, 8, 8, 8, 8, 8, 8, 8, 8, 8, 8, 8, 8, 8, 8, 8, 8, 8, 8, 8, 8, 8, 8, 8, 8, 8, 8, 8, 8, 8, 8, 8, 8, 8, 8, 8, 8, 8, 8, 8, 8, 8, 8, 8, 8, 8, 8, 8, 8, 8, 8, 8, 8, 8, 8, 8, 8, 8, 8, 8, 8, 8, 8, 8, 8, 8, 8, 8, 8, 8, 8, 8, 8, 8, 8, 8, 8, 8, 8, 8, 8, 8, 8, 8, 8, 8, 8, 8, 8, 8, 8, 8, 8, 8, 8, 8, 8, 8, 8, 8, 8, 8, 8, 8, 8, 8, 8, 8, 8, 8, 8, 8, 8, 8, 8, 8, 8, 8, 8, 8, 8, 8, 8, 8, 8, 8, 8, 8, 8]
def len8N (m : Nat) : Nat := (len8.getD m 0).toNat
def logP (n : Nat) : Nat := (if 256 ≤ n then 8 + len8N (n / 256) else len8N n) * 78913 / 262144
def ndP (n : Nat) : Nat := logP n + (if zp10.getD (logP n) 0 ≤ (n : Int) then 1 else 0)
set_option maxRecDepth 1000000 in
theorem nd_all : ((List.range 10000).all fun n => decide (n < 100) || (decide (logP n < 20) && decide (ndP n = if n < 1000 then 3 else 4))) = true := by decide +kernel
theorem nd_eq {n : Nat} (h0 : 100 ≤ n) (h1 : n < 10000) : logP n < 20 ∧ ndP n = if n < 1000 then 3 else 4 := by
  have := List.all_eq_true.1 nd_all n (List.mem_range.2 h1)
  simp only [Bool.or_eq_true, Bool.and_eq_true, decide_eq_true_eq] at this
  rcases this with h | h
  · omega
  · exact h
theorem len8_len : len8.length = 256 := by decide +kernel
theorem len8_all : (len8.all fun b => decide (b.toNat ≤ 8)) = true := by decide +kernel
theorem len8_le (m : Nat) : len8N m ≤ 8 := by
  unfold len8N
  rw [List.getD_eq_getElem?_getD]
  cases h : len8[m]? with
  | none => simp
  | some b => simpa using List.all_eq_true.1 len8_all b (List.mem_of_getElem? h)
theorem len8_at {m : Nat} (h : m < 256) : idxStrV (.str len8) (.int .u8 (m : Int)) = some (.int .u8 ((len8N m : Nat) : Int)) := by
  have h2 : m < len8.length := by rw [len8_len]; exact h
  rw [idxStr_at (List.getElem?_eq_getElem h2)]
  unfold len8N
  rw [List.getD_eq_getElem?_getD, List.getElem?_eq_getElem h2]
  rfl
theorem shrN (k k' : IntKind) (a i : Nat) (h : i ≤ k.bits) : binV .shr (.int k (a : Int)) (.int k' (i : Int)) = some (.int k ((a / 2 ^ i : Nat) : Int)) := by
  simp only [binV, shiftBin, Int.toNat_natCast]
  rw [if_neg (by omega), Nat.min_eq_left h, Int.fdiv_eq_ediv_of_nonneg _ (Int.le_of_lt (Int.pow_pos (by decide)))]
  rfl
theorem wrapU64 {x : Int} (h0 : 0 ≤ x) (h1 : x ≤ 18446744073709551615) : IntKind.wrap .u64 x = x := by
  simp [IntKind.wrap, IntKind.signed, IntKind.bits]
  omega
theorem wrapU8i {x : Int} (h0 : 0 ≤ x) (h1 : x ≤ 255) : IntKind.wrap .u8 x = x := by
  simp [IntKind.wrap, IntKind.signed, IntKind.bits]
  omega
theorem wrapU32i {x : Int} (h0 : 0 ≤ x) (h1 : x ≤ 4294967295) : IntKind.wrap .u32 x = x := by
  simp [IntKind.wrap, IntKind.signed, IntKind.bits]
  omega
theorem quoN (a b : Nat) (hb : 0 < b) (ha : a ≤ 4294967295) : binV .quo (.int .u32 (a : Int)) (.int .u32 (b : Int)) = some (.int .u32 ((a / b : Nat) : Int)) := by
  have h4 : ((a : Int)).tdiv (b : Int) = ((a / b : Nat) : Int) := rfl
  have h5 : a / b ≤ a := Nat.div_le_self ..
  have hb' : (b : Int) ≠ 0 := by omega
  have e : binV .quo (.int .u32 (a : Int)) (.int .u32 (b : Int)) = some (.int .u32 (IntKind.wrap .u32 ((a : Int).tdiv (b : Int)))) := by simp [binV, intBin]; omega
  rw [e, h4]
  generalize a / b = z at h5 ⊢
  rw [wrapU32i (by omega) (by omega)]
theorem remN (a b : Nat) (hb : 0 < b) : binV .rem (.int .u32 (a : Int)) (.int .u32 (b : Int)) = some (.int .u32 ((a % b : Nat) : Int)) := by
  have hb' : (b : Int) ≠ 0 := by omega
  have e : binV .rem (.int .u32 (a : Int)) (.int .u32 (b : Int)) = some (.int .u32 ((a : Int).tmod (b : Int))) := by simp [binV, intBin]; omega
  rw [e]; rfl
theorem smAt {q : Nat} (hq : q < 100) : idxStrV (.str smalls) (.int .u32 ((q * 2 : Nat) : Int)) = some (.int .u8 ((48 + q / 10 : Nat) : Int)) ∧ idxStrV (.str smalls) (.int .u32 ((q * 2 + 1 : Nat) : Int)) = some (.int .u8 ((48 + q % 10 : Nat) : Int)) := by
  obtain ⟨_, h1, h2⟩ := sm_get hq
  have e : ∀ d, d < 10 → ((UInt8.ofNat (48 + d)).toNat : Int) = ((48 + d : Nat) : Int) := fun d hd => by rw [UInt8.toNat_ofNat']; omega
  exact ⟨by rw [idxStr_at h1, e _ (by omega)], by rw [idxStr_at h2, e _ (by omega)]⟩
theorem DI3 {n : Nat} (h0 : 100 ≤ n) (h1 : n < 1000) : DI n = [UInt8.ofNat (48 + n / 100), UInt8.ofNat (48 + n % 100 / 10), UInt8.ofNat (48 + n % 100 % 10)] := by
  rw [DIq (by omega), DI2 (n := n / 10) (by omega) (by omega), show n / 10 / 10 = n / 100 by omega, show n / 10 % 10 = n % 100 / 10 by omega, show n % 10 = n % 100 % 10 by omega]; rfl
theorem DI4 {n : Nat} (h0 : 1000 ≤ n) (h1 : n < 10000) : DI n = [UInt8.ofNat (48 + n / 100 / 10), UInt8.ofNat (48 + n / 100 % 10), UInt8.ofNat (48 + n % 100 / 10), UInt8.ofNat (48 + n % 100 % 10)] := by
  rw [DIq (by omega), DI3 (n := n / 10) (by omega) (by omega), show n / 10 / 100 = n / 100 / 10 by omega, show n / 10 % 100 / 10 = n / 100 % 10 by omega, show n / 10 % 100 % 10 = n % 100 / 10 by omega, show n % 10 = n % 100 % 10 by omega]; rfl
abbrev ch (d : Nat) : AV := .int .u8 ((48 + d : Nat) : Int)
abbrev z0 : AV := .int .u8 0
def zero24 : List AV := [z0, z0, z0, z0, z0, z0, z0, z0, z0, z0, z0, z0, z0, z0, z0, z0, z0, z0, z0, z0, z0, z0, z0, z0]
def put3 (a b c : AV) : List AV := [z0, a, b, c, z0, z0, z0, z0, z0, z0, z0, z0, z0, z0, z0, z0, z0, z0, z0, z0, z0, z0, z0, z0]
def put4 (a b c d : AV) : List AV := [z0, a, b, c, d, z0, z0, z0, z0, z0, z0, z0, z0, z0, z0, z0, z0, z0, z0, z0, z0, z0, z0, z0]
theorem slA_at {b lo hi : Nat} (h1 : lo ≤ hi) (h2 : hi ≤ 24) : slAV' 24 1 (.ptr b 0) (some (.int .i64 (lo : Int))) (some (.int .i64 (hi : Int))) = some (.slc b lo (hi - lo) (24 - lo)) := by
  simp only [slAV', ROp.run, Opd.ev, Option.map_some, bounds, bound, if_pos (show 0 ≤ (hi : Int) ∧ (hi : Int) ≤ ((24 : Nat) : Int) by omega), Int.toNat_natCast, if_pos (show 0 ≤ (lo : Int) ∧ (lo : Int) ≤ (hi : Int) by omega), Nat.mul_one, Nat.zero_add]
theorem wantU (b : Bool) : wantV .undef b = false := rfl
theorem resNil' (e : Env) (H : AHeap) : resVal e H [] = some (.tup []) := rfl
section
variable {Q : Prog} (iq : ItQ Q) {base : Nat} {H : AHeap} {l : List Cel}
include iq
set_option maxRecDepth 100000 in
set_option maxHeartbeats 4000000 in
theorem len_spec {n : Nat} (h : n < 65536) : FnTo Q 78 [.int .u64 n] H (fun r H' => r = .int .i64 (((if 256 ≤ n then 8 + len8N (n / 256) else len8N n : Nat)) : Int) ∧ H' = H) := by
  refine fn_wp (iq.ho 78 rfl _) iq.q78 (by simp [A78]) ?_
  have d1 : decide ((4294967296 : Int) ≤ n) = false := decide_eq_false (by omega)
  have d2 : decide ((65536 : Int) ≤ n) = false := decide_eq_false (by omega)
  by_cases c : 256 ≤ n
  · have d3 : decide ((256 : Int) ≤ n) = true := decide_eq_true (by omega)
    have sh : binV .shr (.int .u64 (n : Int)) (.int .u64 8) = some (.int .u64 ((n / 256 : Nat) : Int)) := shrN .u64 .u64 n 8 (by decide)
    have hm : n / 256 < 256 := by omega
    generalize n / 256 = m at sh hm ⊢
    have w1 : IntKind.wrap .u8 (m : Int) = m := wrapU8i (by omega) (by omega)
    have at8 := len8_at hm
    have hl := len8_le m
    have w2 : IntKind.wrap .i64 ((len8N m : Nat) : Int) = ((len8N m : Nat) : Int) := wrapI64 (by omega) (by omega)
    have w3 : IntKind.wrap .i64 (8 + ((len8N m : Nat) : Int)) = ((8 + len8N m : Nat) : Int) := by rw [wrapI64 (by omega) (by omega)]; rfl
    have w4 : IntKind.wrap .i64 (0 + 8) = 8 := rfl
    unfold len8 at at8
    simp only [A78, d1, d2, d3, sh, w1, at8, w2, w3, w4, SX, Opd.ev, resVal, resVals, ARes.val, Bool.false_eq_true, Bool.not_false, Bool.not_true, List.getD_cons_succ, List.getD_cons_zero, List.map_cons, List.map_nil, Nat.add_zero, Nat.zero_add, Option.map_none, Option.map_some, Option.some.injEq, and_true, decide_false, decide_true, true_and, reduceCtorEq, Nat.reduceEqDiff, ↓reduceIte, Int.reduceEq, Int.reduceLT, Int.reduceLE, Nat.reduceAdd]
    rw [if_pos c]
  · have d3 : decide ((256 : Int) ≤ n) = false := decide_eq_false (by omega)
    have w1 : IntKind.wrap .u8 (n : Int) = n := wrapU8i (by omega) (by omega)
    have at8 := len8_at (m := n) (by omega)
    have hl := len8_le n
    have w2 : IntKind.wrap .i64 ((len8N n : Nat) : Int) = ((len8N n : Nat) : Int) := wrapI64 (by omega) (by omega)
    have w3 : IntKind.wrap .i64 (0 + ((len8N n : Nat) : Int)) = ((len8N n : Nat) : Int) := by rw [wrapI64 (by omega) (by omega)]; omega
    unfold len8 at at8
    simp only [A78, d1, d2, d3, w1, at8, w2, w3, SX, Opd.ev, resVal, resVals, ARes.val, Bool.false_eq_true, Bool.not_false, Bool.not_true, List.getD_cons_succ, List.getD_cons_zero, List.map_cons, List.map_nil, Nat.add_zero, Nat.zero_add, Option.map_none, Option.map_some, Option.some.injEq, and_true, decide_false, decide_true, true_and, reduceCtorEq, Nat.reduceEqDiff, ↓reduceIte, Int.reduceEq, Int.reduceLT, Int.reduceLE, Nat.reduceAdd]
    rw [if_neg c]
theorem log_spec {x : Nat} (h : x ≤ 64) : FnTo Q 77 [.int .i64 x] H (fun r H' => r = .int .i64 ((x * 78913 / 262144 : Nat) : Int) ∧ H' = H) := by
  refine fn_wp (iq.ho 77 rfl _) iq.q77 (by simp [A77]) ?_
  have w1 : IntKind.wrap .i64 ((x : Int) * 78913) = ((x * 78913 : Nat) : Int) := by rw [wrapI64 (by omega) (by omega)]; rfl
  have sh : binV .shr (.int .i64 ((x * 78913 : Nat) : Int)) (.int .u64 18) = some (.int .i64 ((x * 78913 / 262144 : Nat) : Int)) := shrN .i64 .u64 (x * 78913) 18 (by decide)
  simp only [A77, w1, sh, SX, Opd.ev, resVal, resVals, ARes.val, Bool.false_eq_true, Bool.not_false, Bool.not_true, List.getD_cons_succ, List.getD_cons_zero, List.map_cons, List.map_nil, Nat.add_zero, Nat.zero_add, Option.map_none, Option.map_some, Option.some.injEq, and_true, decide_false, decide_true, true_and, reduceCtorEq, Nat.reduceEqDiff, ↓reduceIte, Int.reduceEq, Int.reduceLT, Int.reduceLE, Nat.reduceAdd]
theorem bool2_spec (b : Bool) : FnTo Q 79 [.bool b] H (fun r H' => r = .int .i64 (((if b then 1 else 0 : Nat)) : Int) ∧ H' = H) := by
  refine fn_wp (iq.ho 79 rfl _) iq.q79 (by simp [A79]) ?_
  cases b <;> simp only [A79, SX, Opd.ev, resVal, resVals, ARes.val, Bool.false_eq_true, Bool.not_false, Bool.not_true, List.getD_cons_succ, List.getD_cons_zero, List.map_cons, List.map_nil, Nat.add_zero, Nat.zero_add, Option.map_none, Option.map_some, Option.some.injEq, and_true, decide_false, decide_true, true_and, reduceCtorEq, Nat.reduceEqDiff, ↓reduceIte, Int.reduceEq, Int.reduceLT, Int.reduceLE, Nat.reduceAdd] <;> rfl
theorem num_spec (hp : ∀ (i : Nat) (z : Int), zp10[i]? = some z → loadV H none (.ptr 1 i) = some (.int .u64 z)) {n : Nat} (h0 : 100 ≤ n) (h1 : n < 10000) : FnTo Q 59 [.int .u64 n] H (fun r H' => r = .int .i64 (((if n < 1000 then 3 else 4 : Nat)) : Int) ∧ H' = H) := by
  refine fn_wp (iq.ho 59 rfl _) iq.q59 (by simp [A59]) ?_
  obtain ⟨nd1, nd2⟩ := nd_eq h0 h1
  simp only [A59, SX, Opd.ev, resVal, resVals, ARes.val, Bool.false_eq_true, Bool.not_false, Bool.not_true, List.getD_cons_succ, List.getD_cons_zero, List.map_cons, List.map_nil, Nat.add_zero, Nat.zero_add, Option.map_none, Option.map_some, Option.some.injEq, and_true, decide_false, decide_true, true_and, reduceCtorEq, Nat.reduceEqDiff, ↓reduceIte, Int.reduceEq, Int.reduceLT, Int.reduceLE, Nat.reduceAdd]
  refine (len_spec iq (n := n) (by omega)).mono ?_
  rintro _ H2 ⟨rfl, hx⟩
  subst hx
  have hl : (if 256 ≤ n then 8 + len8N (n / 256) else len8N n) ≤ 64 := by have := len8_le (n / 256); have := len8_le n; split <;> omega
  simp only [SX, Opd.ev, resVal, resVals, ARes.val, Bool.false_eq_true, Bool.not_false, Bool.not_true, List.getD_cons_succ, List.getD_cons_zero, List.map_cons, List.map_nil, Nat.add_zero, Nat.zero_add, Option.map_none, Option.map_some, Option.some.injEq, and_true, decide_false, decide_true, true_and, reduceCtorEq, Nat.reduceEqDiff, ↓reduceIte, Int.reduceEq, Int.reduceLT, Int.reduceLE, Nat.reduceAdd]
  refine (log_spec iq hl).mono ?_
  rintro _ H3 ⟨rfl, hx⟩
  subst hx
  have e : (if 256 ≤ n then 8 + len8N (n / 256) else len8N n) * 78913 / 262144 = logP n := rfl
  rw [e]
  have hz : zp10[logP n]? = some zp10[logP n] := List.getElem?_eq_getElem (by show logP n < 20; exact nd1)
  have ld := hp _ _ hz
  have ix : idxAV 20 1 (.ptr 1 0) (.int .i64 ((logP n : Nat) : Int)) = some (.ptr 1 (logP n)) := by
    simp only [idxAV, ROp.run, Opd.ev, inIndex, if_pos (show 0 ≤ ((logP n : Nat) : Int) ∧ ((logP n : Nat) : Int) < ((20 : Nat) : Int) by omega), Int.toNat_natCast, Nat.mul_one, Nat.zero_add]
  simp only [ix, ld, SX, Opd.ev, resVal, resVals, ARes.val, Bool.false_eq_true, Bool.not_false, Bool.not_true, List.getD_cons_succ, List.getD_cons_zero, List.map_cons, List.map_nil, Nat.add_zero, Nat.zero_add, Option.map_none, Option.map_some, Option.some.injEq, and_true, decide_false, decide_true, true_and, reduceCtorEq, Nat.reduceEqDiff, ↓reduceIte, Int.reduceEq, Int.reduceLT, Int.reduceLE, Nat.reduceAdd]
  refine (bool2_spec iq _).mono ?_
  rintro _ H4 ⟨rfl, hx⟩
  subst hx
  have hg : zp10.getD (logP n) 0 = zp10[logP n] := by rw [List.getD_eq_getElem?_getD, hz]; rfl
  have hr : logP n + (if decide (zp10[logP n] ≤ (n : Int)) = true then 1 else 0) = if n < 1000 then 3 else 4 := by
    rw [← nd2]; unfold ndP; rw [hg]
    by_cases c : zp10[logP n] ≤ (n : Int)
    · rw [if_pos (by simpa using c), if_pos c]
    · rw [if_neg (by simpa using c), if_neg c]
  have w : IntKind.wrap .i64 (((logP n : Nat) : Int) + (((if decide (zp10[logP n] ≤ (n : Int)) = true then 1 else 0 : Nat)) : Int)) = (((if n < 1000 then 3 else 4 : Nat)) : Int) := by
    rw [← hr]
    have : (if decide (zp10[logP n] ≤ (n : Int)) = true then 1 else 0 : Nat) ≤ 1 := by split <;> omega
    generalize (if decide (zp10[logP n] ≤ (n : Int)) = true then 1 else 0 : Nat) = z at this ⊢
    rw [wrapI64 (by omega) (by omega)]; omega
  simp only [w, SX, Opd.ev, resVal, resVals, ARes.val, Bool.false_eq_true, Bool.not_false, Bool.not_true, List.getD_cons_succ, List.getD_cons_zero, List.map_cons, List.map_nil, Nat.add_zero, Nat.zero_add, Option.map_none, Option.map_some, Option.some.injEq, and_true, decide_false, decide_true, true_and, reduceCtorEq, Nat.reduceEqDiff, ↓reduceIte, Int.reduceEq, Int.reduceLT, Int.reduceLE, Nat.reduceAdd]
set_option maxRecDepth 100000 in
set_option maxHeartbeats 16000000 in
theorem base10_spec {b n : Nat} (h : Hp base H (⟨b, 1, zero24⟩ :: l)) (h0 : 100 ≤ n) (h1 : n < 10000) : FnTo Q 60 [.slc b 1 (if n < 1000 then 3 else 4) 23, .int .u64 n] H (fun r H' => r = .tup [] ∧ Hp base H' (⟨b, 1, if n < 1000 then put3 (ch (n / 100)) (ch (n % 100 / 10)) (ch (n % 100 % 10)) else put4 (ch (n / 100 / 10)) (ch (n / 100 % 10)) (ch (n % 100 / 10)) (ch (n % 100 % 10))⟩ :: l) ∧ Keep base H H' ∧ H'.next = H.next) := by
  refine fn_wp (iq.ho 60 rfl _) iq.q60 (show 2 ≤ 167 by omega) ?_
  have wn : IntKind.wrap .u32 (n : Int) = n := wrapU32i (by omega) (by omega)
  have rm : binV .rem (.int .u32 (n : Int)) (.int .u32 100) = some (.int .u32 ((n % 100 : Nat) : Int)) := remN n 100 (by omega)
  have qm : binV .quo (.int .u32 (n : Int)) (.int .u32 100) = some (.int .u32 ((n / 100 : Nat) : Int)) := quoN n 100 (by omega) (by omega)
  obtain ⟨a1, a2⟩ := smAt (q := n % 100) (by omega)
  have m1 : IntKind.wrap .u32 (((n % 100 : Nat) : Int) * 2) = ((n % 100 * 2 : Nat) : Int) := by rw [wrapU32i (by omega) (by omega)]; rfl
  have m2 : IntKind.wrap .u32 (((n % 100 * 2 : Nat) : Int) + 1) = ((n % 100 * 2 + 1 : Nat) : Int) := by rw [wrapU32i (by omega) (by omega)]; rfl
  have w0 : IntKind.wrap .i64 (4 - 4) = 0 := rfl
  have i3 : idxSV 1 (.slc b 1 4 23) (.int .i64 3) = some (.ptr b 4) := idxSV_slc (i := 3) (by omega)
  have i2 : idxSV 1 (.slc b 1 4 23) (.int .i64 2) = some (.ptr b 3) := idxSV_slc (i := 2) (by omega)
  have i1 : idxSV 1 (.slc b 1 4 23) (.int .i64 1) = some (.ptr b 2) := idxSV_slc (i := 1) (by omega)
  have i0 : idxSV 1 (.slc b 1 4 23) (.int .i64 0) = some (.ptr b 1) := idxSV_slc (i := 0) (by omega)
  have j2 : idxSV 1 (.slc b 1 3 23) (.int .i64 2) = some (.ptr b 3) := idxSV_slc (i := 2) (by omega)
  have j1 : idxSV 1 (.slc b 1 3 23) (.int .i64 1) = some (.ptr b 2) := idxSV_slc (i := 1) (by omega)
  have j0 : idxSV 1 (.slc b 1 3 23) (.int .i64 0) = some (.ptr b 1) := idxSV_slc (i := 0) (by omega)
  have s41 : IntKind.wrap .i64 (4 - 1) = 3 := rfl
  have s42 : IntKind.wrap .i64 (4 - 2) = 2 := rfl
  have s43 : IntKind.wrap .i64 (4 - 3) = 1 := rfl
  have s31 : IntKind.wrap .i64 (3 - 1) = 2 := rfl
  have s32 : IntKind.wrap .i64 (3 - 2) = 1 := rfl
  obtain ⟨nd, hnd⟩ : ∃ nd : Nat, (if n < 1000 then 3 else 4) = nd := ⟨_, rfl⟩
  have hnd2 : nd = 3 ∨ nd = 4 := by rw [← hnd]; split <;> omega
  rw [hnd]
  have ln : ∀ H', lngV H' 1 (.slc b 1 nd 23) = some (.int .i64 nd) := fun _ => rfl
  have d8 : decide ((8 : Int) ≤ (nd : Int)) = false := decide_eq_false (by omega)
  simp only [A60, ln, SX, Opd.ev, resVal, resVals, ARes.val, Bool.false_eq_true, Bool.not_false, Bool.not_true, List.getD_cons_succ, List.getD_cons_zero, List.map_cons, List.map_nil, Nat.add_zero, Nat.zero_add, Option.map_none, Option.map_some, Option.some.injEq, and_true, decide_false, decide_true, true_and, reduceCtorEq, Nat.reduceEqDiff, ↓reduceIte, Int.reduceEq, Int.reduceLT, Int.reduceLE, Nat.reduceAdd]
  obtain ⟨I, hI⟩ : ∃ I : Nat → Env → AHeap → Prop, ∀ m e H', I m e H' ↔ (H' = H ∧ Env.get e 0 = .slc b 1 nd 23 ∧ Env.get e 1 = .int .u64 n ∧ Env.get e 4 = .int .i64 nd) := ⟨_, fun _ _ _ => Iff.rfl⟩
  refine loop_by I 0 ((hI _ _ _).2 (by simp only [SX, Opd.ev, resVal, resVals, ARes.val, Bool.false_eq_true, Bool.not_false, Bool.not_true, List.getD_cons_succ, List.getD_cons_zero, List.map_cons, List.map_nil, Nat.add_zero, Nat.zero_add, Option.map_none, Option.map_some, Option.some.injEq, and_true, decide_false, decide_true, true_and, reduceCtorEq, Nat.reduceEqDiff, ↓reduceIte, Int.reduceEq, Int.reduceLT, Int.reduceLE, Nat.reduceAdd])) ?_
  intro m e H' hinv
  obtain ⟨hx, e0, e1, e4⟩ := (hI _ _ _).1 hinv
  subst hx
  simp only [e0, e1, e4, d8, wn, SX, Opd.ev, resVal, resVals, ARes.val, Bool.false_eq_true, Bool.not_false, Bool.not_true, List.getD_cons_succ, List.getD_cons_zero, List.map_cons, List.map_nil, Nat.add_zero, Nat.zero_add, Option.map_none, Option.map_some, Option.some.injEq, and_true, decide_false, decide_true, true_and, reduceCtorEq, Nat.reduceEqDiff, ↓reduceIte, Int.reduceEq, Int.reduceLT, Int.reduceLE, Nat.reduceAdd]
  by_cases c : n < 1000
  · rw [if_pos c] at hnd
    subst hnd
    obtain ⟨H1, s1, h1', k1, n1⟩ := h.store (o := 3) (v := ch (n % 100 % 10)) rfl (show 3 < 24 by omega)
    have h1' : Hp base H1 (⟨b, 1, put3 z0 z0 (ch (n % 100 % 10))⟩ :: l) := h1'
    obtain ⟨H2, s2, h2, k2, n2⟩ := h1'.store (o := 2) (v := ch (n % 100 / 10)) rfl (show 2 < 24 by omega)
    have h2 : Hp base H2 (⟨b, 1, put3 z0 (ch (n % 100 / 10)) (ch (n % 100 % 10))⟩ :: l) := h2
    obtain ⟨H3, s3, h3, k3, n3⟩ := h2.store (o := 1) (v := ch (n / 100)) rfl (show 1 < 24 by omega)
    have h3 : Hp base H3 (⟨b, 1, put3 (ch (n / 100)) (ch (n % 100 / 10)) (ch (n % 100 % 10))⟩ :: l) := h3
    have dg4 : decide ((4 : Int) ≤ ((3 : Nat) : Int)) = false := rfl
    have dg2 : decide ((2 : Int) ≤ ((3 : Nat) : Int)) = true := rfl
    have t31 : IntKind.wrap .i64 (((3 : Nat) : Int) - 1) = 2 := rfl
    have t32 : IntKind.wrap .i64 (((3 : Nat) : Int) - 2) = 1 := rfl
    have dg0 : decide ((0 : Int) < 1) = true := rfl
    have wc : IntKind.wrap .u32 (48 + ((n / 100 : Nat) : Int)) = ((48 + n / 100 : Nat) : Int) := by rw [wrapU32i (by omega) (by omega)]; rfl
    have wc8 : IntKind.wrap .u8 ((48 + n / 100 : Nat) : Int) = ((48 + n / 100 : Nat) : Int) := wrapU8i (by omega) (by omega)
    unfold smalls at a1 a2
    simp only [e0, e1, e4, dg4, dg2, rm, qm, m1, m2, a1, a2, t31, t32, j2, j1, j0, s1, s2, s3, dg0, wc, wc8, resNil', SX, Opd.ev, resVal, resVals, ARes.val, Bool.false_eq_true, Bool.not_false, Bool.not_true, List.getD_cons_succ, List.getD_cons_zero, List.map_cons, List.map_nil, Nat.add_zero, Nat.zero_add, Option.map_none, Option.map_some, Option.some.injEq, and_true, decide_false, decide_true, true_and, reduceCtorEq, Nat.reduceEqDiff, ↓reduceIte, Int.reduceEq, Int.reduceLT, Int.reduceLE, Nat.reduceAdd]
    rw [if_pos c]
    exact ⟨h3, (k1.trans k2).trans k3, by omega⟩
  · rw [if_neg c] at hnd
    subst hnd
    obtain ⟨b1, b2⟩ := smAt (q := n / 100) (by omega)
    have p1 : IntKind.wrap .u32 (((n / 100 : Nat) : Int) * 2) = ((n / 100 * 2 : Nat) : Int) := by rw [wrapU32i (by omega) (by omega)]; rfl
    have p2 : IntKind.wrap .u32 (((n / 100 * 2 : Nat) : Int) + 1) = ((n / 100 * 2 + 1 : Nat) : Int) := by rw [wrapU32i (by omega) (by omega)]; rfl
    have rk : binV .rem (.int .u32 (n : Int)) (.int .u32 10000) = some (.int .u32 (n : Int)) := by
      have := remN n 10000 (by omega)
      rw [Nat.mod_eq_of_lt h1] at this; exact this
    have qk : binV .quo (.int .u32 (n : Int)) (.int .u32 10000) = some (.int .u32 0) := by
      have := quoN n 10000 (by omega) (by omega)
      rw [Nat.div_eq_of_lt h1] at this; exact this
    obtain ⟨H1, s1, h1', k1, n1⟩ := h.store (o := 4) (v := ch (n % 100 % 10)) rfl (show 4 < 24 by omega)
    have h1' : Hp base H1 (⟨b, 1, put4 z0 z0 z0 (ch (n % 100 % 10))⟩ :: l) := h1'
    obtain ⟨H2, s2, h2, k2, n2⟩ := h1'.store (o := 3) (v := ch (n % 100 / 10)) rfl (show 3 < 24 by omega)
    have h2 : Hp base H2 (⟨b, 1, put4 z0 z0 (ch (n % 100 / 10)) (ch (n % 100 % 10))⟩ :: l) := h2
    obtain ⟨H3, s3, h3, k3, n3⟩ := h2.store (o := 2) (v := ch (n / 100 % 10)) rfl (show 2 < 24 by omega)
    have h3 : Hp base H3 (⟨b, 1, put4 z0 (ch (n / 100 % 10)) (ch (n % 100 / 10)) (ch (n % 100 % 10))⟩ :: l) := h3
    obtain ⟨H4, s4, h4, k4, n4⟩ := h3.store (o := 1) (v := ch (n / 100 / 10)) rfl (show 1 < 24 by omega)
    have h4 : Hp base H4 (⟨b, 1, put4 (ch (n / 100 / 10)) (ch (n / 100 % 10)) (ch (n % 100 / 10)) (ch (n % 100 % 10))⟩ :: l) := h4
    have dg4 : decide ((4 : Int) ≤ ((4 : Nat) : Int)) = true := rfl
    have t41 : IntKind.wrap .i64 (((4 : Nat) : Int) - 1) = 3 := rfl
    have t42 : IntKind.wrap .i64 (((4 : Nat) : Int) - 2) = 2 := rfl
    have t43 : IntKind.wrap .i64 (((4 : Nat) : Int) - 3) = 1 := rfl
    have t44 : IntKind.wrap .i64 (((4 : Nat) : Int) - 4) = 0 := rfl
    have dg0 : decide ((2 : Int) ≤ 0) = false := rfl
    have dg00 : decide ((0 : Int) < 0) = false := rfl
    unfold smalls at a1 a2 b1 b2
    simp only [e0, e1, e4, dg4, rk, qk, rm, qm, m1, m2, p1, p2, a1, a2, b1, b2, t41, t42, t43, t44, i3, i2, i1, i0, s1, s2, s3, s4, dg0, dg00, resNil', SX, Opd.ev, resVal, resVals, ARes.val, Bool.false_eq_true, Bool.not_false, Bool.not_true, List.getD_cons_succ, List.getD_cons_zero, List.map_cons, List.map_nil, Nat.add_zero, Nat.zero_add, Option.map_none, Option.map_some, Option.some.injEq, and_true, decide_false, decide_true, true_and, reduceCtorEq, Nat.reduceEqDiff, ↓reduceIte, Int.reduceEq, Int.reduceLT, Int.reduceLE, Nat.reduceAdd]
    rw [if_neg c]
    exact ⟨h4, ((k1.trans k2).trans k3).trans k4, by omega⟩
end
theorem sob_bytes {base : Nat} {H : AHeap} {l : List Cel} {b k nd : Nat} {cs : List AV} {r : List UInt8} (h : Hp base H (⟨b, k, cs⟩ :: l)) (hc : (match AM.cut cs 1 nd with | some x => bytesOf x | none => none) = some r) : strOfBytesV H (.slc b 1 nd 23) = some (.str r) := by
  obtain ⟨B, hr, hB⟩ := h.rowOf (List.mem_cons_self ..)
  simp only [strOfBytesV, ROp.run, Opd.ev, hr, hB]
  split at hc
  · rename_i x hx
    rw [hx]
    simp only [hc]
  · cases hc
theorem put3_str (a b c : Nat) : (match AM.cut (put3 (ch a) (ch b) (ch c)) 1 3 with | some x => bytesOf x | none => none) = some [UInt8.ofNat (48 + a), UInt8.ofNat (48 + b), UInt8.ofNat (48 + c)] := rfl
theorem put4_str (a b c d : Nat) : (match AM.cut (put4 (ch a) (ch b) (ch c) (ch d)) 1 4 with | some x => bytesOf x | none => none) = some [UInt8.ofNat (48 + a), UInt8.ofNat (48 + b), UInt8.ofNat (48 + c), UInt8.ofNat (48 + d)] := rfl
section
variable {Q : Prog} (iq : ItQ Q) {H : AHeap}
include iq
set_option maxRecDepth 100000 in
set_option maxHeartbeats 4000000 in
theorem fmt_spec (hp : ∀ (i : Nat) (z : Int), zp10[i]? = some z → ∃ B, H.get 1 = some (.row B) ∧ B.live = true ∧ B.cells[i]? = some (.int .u64 z)) {n : Nat} (hn : n < 10000) (hf : Fr H) : FnTo Q 46 [.int .i64 n, .int .i64 10] H (fun r H' => r = .str (DI n) ∧ Gr H H') := by
  refine fn_wp (iq.ho 46 rfl _) iq.q46 (show 2 ≤ 54 by omega) ?_
  have d0 : decide ((0 : Int) ≤ (n : Int)) = true := decide_eq_true (by omega)
  by_cases c : n < 100
  · have d1 : decide ((n : Int) < 100) = true := decide_eq_true (by omega)
    simp only [A46, d0, d1, wantU, SX, Opd.ev, resVal, resVals, ARes.val, Bool.false_eq_true, Bool.not_false, Bool.not_true, List.getD_cons_succ, List.getD_cons_zero, List.map_cons, List.map_nil, Nat.add_zero, Nat.zero_add, Option.map_none, Option.map_some, Option.some.injEq, and_true, decide_false, decide_true, true_and, reduceCtorEq, Nat.reduceEqDiff, ↓reduceIte, Int.reduceEq, Int.reduceLT, Int.reduceLE, Nat.reduceAdd]
    refine (small_spec iq c).mono ?_
    rintro _ H2 ⟨rfl, hx⟩
    subst hx
    simp only [SX, Opd.ev, resVal, resVals, ARes.val, Bool.false_eq_true, Bool.not_false, Bool.not_true, List.getD_cons_succ, List.getD_cons_zero, List.map_cons, List.map_nil, Nat.add_zero, Nat.zero_add, Option.map_none, Option.map_some, Option.some.injEq, and_true, decide_false, decide_true, true_and, reduceCtorEq, Nat.reduceEqDiff, ↓reduceIte, Int.reduceEq, Int.reduceLT, Int.reduceLE, Nat.reduceAdd]
    exact Gr.refl hf
  · have d1 : decide ((n : Int) < 100) = false := decide_eq_false (by omega)
    have d2 : decide ((n : Int) < 0) = false := decide_eq_false (by omega)
    obtain ⟨H1, s1, h1, k1⟩ := (Hp.nil H hf).make zero24 1
    have g1 := h1.gr k1
    have w1 : IntKind.wrap .u64 (n : Int) = n := wrapU64 (by omega) (by omega)
    have hz : ∀ (i : Nat) (z : Int), zp10[i]? = some z → loadV H1 none (.ptr 1 i) = some (.int .u64 z) := fun i z hiz => by
      obtain ⟨B, b1, b2, b3⟩ := hp i z hiz
      have := g1.get hf b1
      simp only [loadV, ROp.run, Opd.ev, AHeap.row, this, b2, if_true, b3]
    have zl : H.alloc (.row ⟨[.int .u8 0, .int .u8 0, .int .u8 0, .int .u8 0, .int .u8 0, .int .u8 0, .int .u8 0, .int .u8 0, .int .u8 0, .int .u8 0, .int .u8 0, .int .u8 0, .int .u8 0, .int .u8 0, .int .u8 0, .int .u8 0, .int .u8 0, .int .u8 0, .int .u8 0, .int .u8 0, .int .u8 0, .int .u8 0, .int .u8 0, .int .u8 0], 0, false, true⟩) = H1 := s1
    simp only [A46, d0, d1, d2, run_allocL, zl, w1, wantU, SX, Opd.ev, resVal, resVals, ARes.val, Bool.false_eq_true, Bool.not_false, Bool.not_true, List.getD_cons_succ, List.getD_cons_zero, List.map_cons, List.map_nil, Nat.add_zero, Nat.zero_add, Option.map_none, Option.map_some, Option.some.injEq, and_true, decide_false, decide_true, true_and, reduceCtorEq, Nat.reduceEqDiff, ↓reduceIte, Int.reduceEq, Int.reduceLT, Int.reduceLE, Nat.reduceAdd]
    refine (num_spec iq hz (by omega) hn).mono ?_
    rintro _ H2 ⟨rfl, hx⟩
    subst hx
    obtain ⟨nd, hnd⟩ : ∃ nd : Nat, (if n < 1000 then 3 else 4) = nd := ⟨_, rfl⟩
    have hnd2 : nd = 3 ∨ nd = 4 := by rw [← hnd]; split <;> omega
    have b10 := base10_spec iq h1 (by omega) hn
    rw [hnd] at b10 ⊢
    have wa : IntKind.wrap .i64 (1 + (nd : Int)) = ((1 + nd : Nat) : Int) := by rw [wrapI64 (by omega) (by omega)]; rfl
    have sa := slA_at (b := H.next) (lo := 1) (hi := 1 + nd) (by omega) (by omega)
    rw [show 1 + nd - 1 = nd by omega] at sa
    have sa : slAV' 24 1 (.ptr H.next 0) (some (.int .i64 1)) (some (.int .i64 ((1 + nd : Nat) : Int))) = some (.slc H.next 1 nd 23) := sa
    simp only [wa, run_slA', sa, SX, Opd.ev, resVal, resVals, ARes.val, Bool.false_eq_true, Bool.not_false, Bool.not_true, List.getD_cons_succ, List.getD_cons_zero, List.map_cons, List.map_nil, Nat.add_zero, Nat.zero_add, Option.map_none, Option.map_some, Option.some.injEq, and_true, decide_false, decide_true, true_and, reduceCtorEq, Nat.reduceEqDiff, ↓reduceIte, Int.reduceEq, Int.reduceLT, Int.reduceLE, Nat.reduceAdd]
    refine b10.mono ?_
    rintro _ H3 ⟨rfl, h3, k3, n3⟩
    have sb : strOfBytesV H3 (.slc H.next 1 nd 23) = some (.str (DI n)) := by
      by_cases c3 : n < 1000
      · rw [if_pos c3] at h3 hnd
        subst hnd
        rw [DI3 (by omega) c3]
        exact sob_bytes h3 (put3_str _ _ _)
      · rw [if_neg c3] at h3 hnd
        subst hnd
        rw [DI4 (by omega) hn]
        exact sob_bytes h3 (put4_str _ _ _ _)
    simp only [d2, wa, run_slA', sa, sb, SX, Opd.ev, resVal, resVals, ARes.val, Bool.false_eq_true, Bool.not_false, Bool.not_true, List.getD_cons_succ, List.getD_cons_zero, List.map_cons, List.map_nil, Nat.add_zero, Nat.zero_add, Option.map_none, Option.map_some, Option.some.injEq, and_true, decide_false, decide_true, true_and, reduceCtorEq, Nat.reduceEqDiff, ↓reduceIte, Int.reduceEq, Int.reduceLT, Int.reduceLE, Nat.reduceAdd]
    exact h3.gr (k1.trans k3)
theorem itoaW_spec (hp : ∀ (i : Nat) (z : Int), zp10[i]? = some z → ∃ B, H.get 1 = some (.row B) ∧ B.live = true ∧ B.cells[i]? = some (.int .u64 z)) {n : Nat} (hn : n < 10000) (hf : Fr H) : FnTo Q 11 [.int .i64 n] H (fun r H' => r = .str (DI n) ∧ Gr H H') := by
  refine fn_wp (iq.ho 11 rfl _) iq.q11 (show 1 ≤ 5 by omega) ?_
  simp only [A11, SX, Opd.ev, resVal, resVals, ARes.val, Bool.false_eq_true, Bool.not_false, Bool.not_true, List.getD_cons_succ, List.getD_cons_zero, List.map_cons, List.map_nil, Nat.add_zero, Nat.zero_add, Option.map_none, Option.map_some, Option.some.injEq, and_true, decide_false, decide_true, true_and, reduceCtorEq, Nat.reduceEqDiff, ↓reduceIte, Int.reduceEq, Int.reduceLT, Int.reduceLE, Nat.reduceAdd]
  refine FnTo.mono (fn_wp (iq.ho 26 rfl _) iq.q26 (show 1 ≤ 5 by omega) (K := fun r H' => r = .str (DI n) ∧ Gr H H') ?_) ?_
  · simp only [A26, SX, Opd.ev, resVal, resVals, ARes.val, Bool.false_eq_true, Bool.not_false, Bool.not_true, List.getD_cons_succ, List.getD_cons_zero, List.map_cons, List.map_nil, Nat.add_zero, Nat.zero_add, Option.map_none, Option.map_some, Option.some.injEq, and_true, decide_false, decide_true, true_and, reduceCtorEq, Nat.reduceEqDiff, ↓reduceIte, Int.reduceEq, Int.reduceLT, Int.reduceLE, Nat.reduceAdd]
    refine (fmt_spec iq hp hn hf).mono ?_
    rintro _ H2 ⟨rfl, g⟩
    simp only [SX, Opd.ev, resVal, resVals, ARes.val, Bool.false_eq_true, Bool.not_false, Bool.not_true, List.getD_cons_succ, List.getD_cons_zero, List.map_cons, List.map_nil, Nat.add_zero, Nat.zero_add, Option.map_none, Option.map_some, Option.some.injEq, and_true, decide_false, decide_true, true_and, reduceCtorEq, Nat.reduceEqDiff, ↓reduceIte, Int.reduceEq, Int.reduceLT, Int.reduceLE, Nat.reduceAdd]
    exact g
  · rintro _ H2 ⟨rfl, g⟩
    simp only [SX, Opd.ev, resVal, resVals, ARes.val, Bool.false_eq_true, Bool.not_false, Bool.not_true, List.getD_cons_succ, List.getD_cons_zero, List.map_cons, List.map_nil, Nat.add_zero, Nat.zero_add, Option.map_none, Option.map_some, Option.some.injEq, and_true, decide_false, decide_true, true_and, reduceCtorEq, Nat.reduceEqDiff, ↓reduceIte, Int.reduceEq, Int.reduceLT, Int.reduceLE, Nat.reduceAdd]
    exact g
end
theorem pow_of {H : AHeap} {T : List Tb} (hT : (⟨1, .u64, zp10⟩ : Tb) ∈ T) (h : hasTabs H T = true) : ∀ (i : Nat) (z : Int), zp10[i]? = some z → ∃ B, H.get 1 = some (.row B) ∧ B.live = true ∧ B.cells[i]? = some (.int .u64 z) := by
  intro i z hz
  have h1 := List.all_eq_true.1 h _ hT
  split at h1
  · rename_i B hB
    simp only [Bool.and_eq_true] at h1
    refine ⟨B, hB, h1.1, ?_⟩
    rw [sameL_eq1 h1.2]
    simp only [Tb.cs, List.getElem?_map, hz]; rfl
  · cases h1
end Go.Proofs.YtcfjjeipdacbcaaDoor.AM
