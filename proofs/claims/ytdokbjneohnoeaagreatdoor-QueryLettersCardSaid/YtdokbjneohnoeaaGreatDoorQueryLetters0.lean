/-
  The law QueryLetters: texts in letters are read again; walked.
-/
import Derived.Test.YtdokbjneohnoeaaGreatDoorQyB
set_option linter.unusedVariables false
set_option linter.unusedSimpArgs false
namespace Go.Proofs.YtdokbjneohnoeaaGreatDoor.AM
open Go
/-! ### What a letter stands for -/
def valP (c : Int) : Int :=
  if 65 ≤ c ∧ c ≤ 90 then c - 65 else if 97 ≤ c ∧ c ≤ 122 then c - 97 + 26 else if 48 ≤ c ∧ c ≤ 57 then c - 48 + 52 else if c = 43 then 62 else if c = 47 then 63 else -1
theorem val_let : ∀ n : Nat, n < 64 → valP (letN n).toNat = n ∧ letN n ≠ 61 := by decide +kernel
structure St where
  bits : Nat
  many : Nat
  out : List UInt8
def St.step (s : St) (v : Nat) : St :=
  if 8 ≤ s.many + 6 then ⟨(s.bits * 64 + v) % 2 ^ (s.many - 2), s.many - 2, s.out ++ [UInt8.ofNat ((s.bits * 64 + v) / 2 ^ (s.many - 2))]⟩ else ⟨s.bits * 64 + v, s.many + 6, s.out⟩
def decL : List UInt8 → St → Option St
  | [], s => some s
  | c :: r, s => if c = 61 then (if r.length > 1 ∨ (r.length = 1 ∧ r ≠ [61]) then none else decL r s) else if valP c.toNat < 0 then none else decL r (s.step (valP c.toNat).toNat)
theorem decL_let (n : Nat) (h : n < 64) (r : List UInt8) (s : St) : decL (letN n :: r) s = decL r (s.step n) := by
  obtain ⟨h1, h2⟩ := val_let n h
  rw [decL, if_neg h2, h1, if_neg (by omega)]
  rfl
theorem step0 (v : Nat) (o : List UInt8) : St.step ⟨0, 0, o⟩ v = ⟨v, 6, o⟩ := by simp [St.step]
theorem step6 (b v : Nat) (o : List UInt8) : St.step ⟨b, 6, o⟩ v = ⟨(b * 64 + v) % 16, 4, o ++ [UInt8.ofNat ((b * 64 + v) / 16)]⟩ := by simp [St.step]
theorem step4 (b v : Nat) (o : List UInt8) : St.step ⟨b, 4, o⟩ v = ⟨(b * 64 + v) % 4, 2, o ++ [UInt8.ofNat ((b * 64 + v) / 4)]⟩ := by simp [St.step]
theorem step2 (b v : Nat) (o : List UInt8) : St.step ⟨b, 2, o⟩ v = ⟨(b * 64 + v) % 1, 0, o ++ [UInt8.ofNat ((b * 64 + v) / 1)]⟩ := by simp [St.step]
theorem ofNat_of {n : Nat} {c : UInt8} (h : n = c.toNat) : UInt8.ofNat n = c := by subst h; simp
theorem dec_enc : ∀ (f : Nat) (r o : List UInt8), r.length ≤ f → ∃ m, decL (encF f r) ⟨0, 0, o⟩ = some ⟨0, m, o ++ r⟩
  | 0, r, o, h => by
    obtain rfl : r = [] := List.length_eq_zero_iff.1 (by omega)
    exact ⟨0, by simp [encF, decL]⟩
  | f + 1, [], o, h => ⟨0, by simp [encF, decL]⟩
  | f + 1, [a], o, h => by
    refine ⟨4, ?_⟩
    have ha := UInt8.toNat_lt a
    have hw : w3 [a] 3 = a.toNat * 65536 := by simp [w3]; omega
    have e : encF (f + 1) [a] = [letN (a.toNat * 65536 / 262144 % 64), letN (a.toNat * 65536 / 4096 % 64), 61, 61] := by
      simp only [encF, hw, quadOf, qat]
      simp [encF_nil]
    rw [e, decL_let _ (Nat.mod_lt _ (by omega)), decL_let _ (Nat.mod_lt _ (by omega)), step0, step6]
    have h1 : (a.toNat * 65536 / 262144 % 64 * 64 + a.toNat * 65536 / 4096 % 64) % 16 = 0 := by omega
    have h2 : (a.toNat * 65536 / 262144 % 64 * 64 + a.toNat * 65536 / 4096 % 64) / 16 = a.toNat := by omega
    rw [h1, ofNat_of h2]
    simp [decL]
  | f + 1, [a, b], o, h => by
    refine ⟨2, ?_⟩
    have ha := UInt8.toNat_lt a
    have hb := UInt8.toNat_lt b
    have hw : w3 [a, b] 3 = a.toNat * 65536 + b.toNat * 256 := by simp [w3]; omega
    obtain ⟨w, hw2⟩ : ∃ w, a.toNat * 65536 + b.toNat * 256 = w := ⟨_, rfl⟩
    have e : encF (f + 1) [a, b] = [letN (w / 262144 % 64), letN (w / 4096 % 64), letN (w / 64 % 64), 61] := by
      simp only [encF, hw, hw2, quadOf, qat]
      simp [encF_nil]
    rw [e, decL_let _ (Nat.mod_lt _ (by omega)), decL_let _ (Nat.mod_lt _ (by omega)), decL_let _ (Nat.mod_lt _ (by omega)), step0, step6, step4]
    have h2 : (w / 262144 % 64 * 64 + w / 4096 % 64) / 16 = a.toNat := by omega
    have h3 : ((w / 262144 % 64 * 64 + w / 4096 % 64) % 16 * 64 + w / 64 % 64) / 4 = b.toNat := by omega
    have h4 : ((w / 262144 % 64 * 64 + w / 4096 % 64) % 16 * 64 + w / 64 % 64) % 4 = 0 := by omega
    rw [h4, ofNat_of h2, ofNat_of h3]
    simp [decL]
  | f + 1, a :: b :: c :: r, o, h => by
    have ha := UInt8.toNat_lt a
    have hb := UInt8.toNat_lt b
    have hc := UInt8.toNat_lt c
    have hw : w3 (a :: b :: c :: r) 3 = a.toNat * 65536 + b.toNat * 256 + c.toNat := by simp [w3]; omega
    obtain ⟨w, hw2⟩ : ∃ w, a.toNat * 65536 + b.toNat * 256 + c.toNat = w := ⟨_, rfl⟩
    have hm : min (a :: b :: c :: r).length 3 = 3 := by simp only [List.length_cons]; omega
    have e : encF (f + 1) (a :: b :: c :: r) = letN (w / 262144 % 64) :: letN (w / 4096 % 64) :: letN (w / 64 % 64) :: letN (w % 64) :: encF f r := by
      rw [encF, if_neg (by simp), hm, hw, hw2]
      simp [quadOf, qat]
    obtain ⟨m, hm2⟩ := dec_enc f r (o ++ [a, b, c]) (by simp only [List.length_cons] at h; omega)
    refine ⟨m, ?_⟩
    rw [e, decL_let _ (Nat.mod_lt _ (by omega)), decL_let _ (Nat.mod_lt _ (by omega)), decL_let _ (Nat.mod_lt _ (by omega)), decL_let _ (Nat.mod_lt _ (by omega)), step0, step6, step4, step2]
    have h2 : (w / 262144 % 64 * 64 + w / 4096 % 64) / 16 = a.toNat := by omega
    have h3 : ((w / 262144 % 64 * 64 + w / 4096 % 64) % 16 * 64 + w / 64 % 64) / 4 = b.toNat := by omega
    have h4 : (((w / 262144 % 64 * 64 + w / 4096 % 64) % 16 * 64 + w / 64 % 64) % 4 * 64 + w % 64) / 1 = c.toNat := by omega
    have h5 : (((w / 262144 % 64 * 64 + w / 4096 % 64) % 16 * 64 + w / 64 % 64) % 4 * 64 + w % 64) % 1 = 0 := by omega
    rw [h5, ofNat_of h2, ofNat_of h3, ofNat_of h4]
    have e2 : o ++ [a] ++ [b] ++ [c] = o ++ [a, b, c] := by simp
    rw [e2, hm2]
    simp
/-! ### The walk -/
section
variable {Q : Prog} (lq : LtQ Q) {H : AHeap}
include lq
set_option maxHeartbeats 8000000 in
theorem value_spec (q13 : Q.fns 13 = some A13) (c : UInt8) : FnTo Q 13 [.int .u8 c.toNat] H (fun r H' => r = .int .i64 (valP c.toNat) ∧ H' = H) := by
  refine fn_wp (lq.ho 13 rfl _) q13 (by simp [A13]) ?_
  have hl : c.toNat < 256 := UInt8.toNat_lt c
  have wu : ∀ k : Nat, k ≤ c.toNat → IntKind.wrap .u8 ((c.toNat : Int) - (k : Int)) = ((c.toNat - k : Nat) : Int) := fun k hk => by
    simp [IntKind.wrap, IntKind.signed, IntKind.bits]
    omega
  have wi : ∀ k : Nat, k < 100000 → IntKind.wrap .i64 (k : Int) = k := fun k hk => wrapNat (by omega)
  by_cases a1 : (65 : Int) ≤ c.toNat
  · by_cases a2 : (c.toNat : Int) ≤ 90
    · have e1 : IntKind.wrap .u8 ((c.toNat : Int) - 65) = ((c.toNat - 65 : Nat) : Int) := wu 65 (by omega)
      have e2 := wi (c.toNat - 65) (by omega)
      have e3 : valP c.toNat = ((c.toNat - 65 : Nat) : Int) := by unfold valP; rw [if_pos ⟨a1, a2⟩]; omega
      simp only [A13, a1, a2, e1, e2, e3, wantV_undef, SX, Opd.ev, resVal, resVals, ARes.val, Bool.false_eq_true, Bool.not_false, Bool.not_true, List.getD_cons_succ, List.getD_cons_zero, List.map_cons, List.map_nil, Nat.add_zero, Nat.zero_add, Option.map_none, Option.map_some, Option.some.injEq, and_true, decide_false, decide_true, true_and, reduceCtorEq, Nat.reduceEqDiff, ↓reduceIte, Int.reduceEq, Int.reduceLT, Int.reduceLE, Nat.reduceAdd]
    · have ne : ¬ ((65 : Int) ≤ c.toNat ∧ (c.toNat : Int) ≤ 90) := fun h => a2 h.2
      have n48 : ¬ ((48 : Int) ≤ c.toNat ∧ (c.toNat : Int) ≤ 57) := by omega
      have b48 : (48 : Int) ≤ c.toNat := by omega
      have b57 : ¬ (c.toNat : Int) ≤ 57 := by omega
      have n43 : ¬ (c.toNat : Int) = 43 := by omega
      have n47 : ¬ (c.toNat : Int) = 47 := by omega
      by_cases a3 : (97 : Int) ≤ c.toNat
      · by_cases a4 : (c.toNat : Int) ≤ 122
        · have e1 : IntKind.wrap .u8 ((c.toNat : Int) - 97) = ((c.toNat - 97 : Nat) : Int) := wu 97 (by omega)
          have e2 := wi (c.toNat - 97) (by omega)
          have e4 : IntKind.wrap .i64 (((c.toNat - 97 : Nat) : Int) + 26) = ((c.toNat - 97 + 26 : Nat) : Int) := wi (c.toNat - 97 + 26) (by omega)
          have e3 : valP c.toNat = ((c.toNat - 97 + 26 : Nat) : Int) := by unfold valP; rw [if_neg ne, if_pos ⟨a3, a4⟩]; omega
          simp only [A13, a1, a2, a3, a4, e1, e2, e3, e4, wantV_undef, SX, Opd.ev, resVal, resVals, ARes.val, Bool.false_eq_true, Bool.not_false, Bool.not_true, List.getD_cons_succ, List.getD_cons_zero, List.map_cons, List.map_nil, Nat.add_zero, Nat.zero_add, Option.map_none, Option.map_some, Option.some.injEq, and_true, decide_false, decide_true, true_and, reduceCtorEq, Nat.reduceEqDiff, ↓reduceIte, Int.reduceEq, Int.reduceLT, Int.reduceLE, Nat.reduceAdd]
        · have e3 : valP c.toNat = -1 := by unfold valP; rw [if_neg ne, if_neg (by omega), if_neg n48, if_neg n43, if_neg n47]
          simp only [A13, a1, a2, a3, a4, b48, b57, n43, n47, e3, wantV_undef, SX, Opd.ev, resVal, resVals, ARes.val, Bool.false_eq_true, Bool.not_false, Bool.not_true, List.getD_cons_succ, List.getD_cons_zero, List.map_cons, List.map_nil, Nat.add_zero, Nat.zero_add, Option.map_none, Option.map_some, Option.some.injEq, and_true, decide_false, decide_true, true_and, reduceCtorEq, Nat.reduceEqDiff, ↓reduceIte, Int.reduceEq, Int.reduceLT, Int.reduceLE, Nat.reduceAdd]
      · have e3 : valP c.toNat = -1 := by unfold valP; rw [if_neg ne, if_neg (by omega), if_neg n48, if_neg n43, if_neg n47]
        simp only [A13, a1, a2, a3, b48, b57, n43, n47, e3, wantV_undef, SX, Opd.ev, resVal, resVals, ARes.val, Bool.false_eq_true, Bool.not_false, Bool.not_true, List.getD_cons_succ, List.getD_cons_zero, List.map_cons, List.map_nil, Nat.add_zero, Nat.zero_add, Option.map_none, Option.map_some, Option.some.injEq, and_true, decide_false, decide_true, true_and, reduceCtorEq, Nat.reduceEqDiff, ↓reduceIte, Int.reduceEq, Int.reduceLT, Int.reduceLE, Nat.reduceAdd]
  · have ne : ¬ ((65 : Int) ≤ c.toNat ∧ (c.toNat : Int) ≤ 90) := fun h => a1 h.1
    have n97 : ¬ (97 : Int) ≤ c.toNat := by omega
    have ne2 : ¬ ((97 : Int) ≤ c.toNat ∧ (c.toNat : Int) ≤ 122) := fun h => n97 h.1
    by_cases a5 : (48 : Int) ≤ c.toNat
    · by_cases a6 : (c.toNat : Int) ≤ 57
      · have e1 : IntKind.wrap .u8 ((c.toNat : Int) - 48) = ((c.toNat - 48 : Nat) : Int) := wu 48 (by omega)
        have e2 := wi (c.toNat - 48) (by omega)
        have e4 : IntKind.wrap .i64 (((c.toNat - 48 : Nat) : Int) + 52) = ((c.toNat - 48 + 52 : Nat) : Int) := wi (c.toNat - 48 + 52) (by omega)
        have e3 : valP c.toNat = ((c.toNat - 48 + 52 : Nat) : Int) := by unfold valP; rw [if_neg ne, if_neg ne2, if_pos ⟨a5, a6⟩]; omega
        simp only [A13, a1, a5, a6, n97, e1, e2, e3, e4, wantV_undef, SX, Opd.ev, resVal, resVals, ARes.val, Bool.false_eq_true, Bool.not_false, Bool.not_true, List.getD_cons_succ, List.getD_cons_zero, List.map_cons, List.map_nil, Nat.add_zero, Nat.zero_add, Option.map_none, Option.map_some, Option.some.injEq, and_true, decide_false, decide_true, true_and, reduceCtorEq, Nat.reduceEqDiff, ↓reduceIte, Int.reduceEq, Int.reduceLT, Int.reduceLE, Nat.reduceAdd]
      · have e3 : valP c.toNat = -1 := by unfold valP; rw [if_neg ne, if_neg ne2, if_neg (by omega), if_neg (by omega), if_neg (by omega)]
        have n43 : ¬ (c.toNat : Int) = 43 := by omega
        have n47 : ¬ (c.toNat : Int) = 47 := by omega
        simp only [A13, a1, a5, a6, n97, n43, n47, e3, wantV_undef, SX, Opd.ev, resVal, resVals, ARes.val, Bool.false_eq_true, Bool.not_false, Bool.not_true, List.getD_cons_succ, List.getD_cons_zero, List.map_cons, List.map_nil, Nat.add_zero, Nat.zero_add, Option.map_none, Option.map_some, Option.some.injEq, and_true, decide_false, decide_true, true_and, reduceCtorEq, Nat.reduceEqDiff, ↓reduceIte, Int.reduceEq, Int.reduceLT, Int.reduceLE, Nat.reduceAdd]
    · have ne3 : ¬ ((48 : Int) ≤ c.toNat ∧ (c.toNat : Int) ≤ 57) := fun h => a5 h.1
      by_cases a7 : (c.toNat : Int) = 43
      · have e3 : valP c.toNat = 62 := by unfold valP; rw [if_neg ne, if_neg ne2, if_neg ne3, if_pos a7]
        rw [e3]
        have b1 : ¬ (65 : Int) ≤ 43 := by omega
        simp only [A13, a7, wantV_undef, SX, Opd.ev, resVal, resVals, ARes.val, Bool.false_eq_true, Bool.not_false, Bool.not_true, List.getD_cons_succ, List.getD_cons_zero, List.map_cons, List.map_nil, Nat.add_zero, Nat.zero_add, Option.map_none, Option.map_some, Option.some.injEq, and_true, decide_false, decide_true, true_and, reduceCtorEq, Nat.reduceEqDiff, ↓reduceIte, Int.reduceEq, Int.reduceLT, Int.reduceLE, Nat.reduceAdd]
      · by_cases a8 : (c.toNat : Int) = 47
        · have e3 : valP c.toNat = 63 := by unfold valP; rw [if_neg ne, if_neg ne2, if_neg ne3, if_neg a7, if_pos a8]
          rw [e3]
          simp only [A13, a8, wantV_undef, SX, Opd.ev, resVal, resVals, ARes.val, Bool.false_eq_true, Bool.not_false, Bool.not_true, List.getD_cons_succ, List.getD_cons_zero, List.map_cons, List.map_nil, Nat.add_zero, Nat.zero_add, Option.map_none, Option.map_some, Option.some.injEq, and_true, decide_false, decide_true, true_and, reduceCtorEq, Nat.reduceEqDiff, ↓reduceIte, Int.reduceEq, Int.reduceLT, Int.reduceLE, Nat.reduceAdd]
        · have e3 : valP c.toNat = -1 := by unfold valP; rw [if_neg ne, if_neg ne2, if_neg ne3, if_neg a7, if_neg a8]
          simp only [A13, a1, n97, a5, a7, a8, e3, wantV_undef, SX, Opd.ev, resVal, resVals, ARes.val, Bool.false_eq_true, Bool.not_false, Bool.not_true, List.getD_cons_succ, List.getD_cons_zero, List.map_cons, List.map_nil, Nat.add_zero, Nat.zero_add, Option.map_none, Option.map_some, Option.some.injEq, and_true, decide_false, decide_true, true_and, reduceCtorEq, Nat.reduceEqDiff, ↓reduceIte, Int.reduceEq, Int.reduceLT, Int.reduceLE, Nat.reduceAdd]
set_option maxHeartbeats 16000000 in
theorem law5 (h5 : Q.fns 5 = some A5) (q13 : Q.fns 13 = some A13) (yes : Q.orc 12 [] = some (.bool true)) (hT : Q.tabs = []) (hf : Fr H) (s : List UInt8) (hs : s.length ≤ 9223372036854775807) : FnTo Q 5 [.str s] H (fun r _ => r = .bool true) := by
  refine fn_wp (lq.ho 5 rfl _) h5 (by simp [A5]) ?_
  have rest : ∀ (s : List UInt8) (e : Env), s.length ≤ 3000 → Env.get e 0 = .str s → ACode.wp Q A5_rest (fnK [.t 2] (fun r _ => r = .bool true)) e H := by
    intro s e hs e0
    simp only [A5_rest, e0, SX, Opd.ev, resVal, resVals, ARes.val, Bool.false_eq_true, Bool.not_false, Bool.not_true, List.getD_cons_succ, List.getD_cons_zero, List.map_cons, List.map_nil, Nat.add_zero, Nat.zero_add, Option.map_none, Option.map_some, Option.some.injEq, and_true, decide_false, decide_true, true_and, reduceCtorEq, Nat.reduceEqDiff, ↓reduceIte, Int.reduceEq, Int.reduceLT, Int.reduceLE, Nat.reduceAdd]
    refine (letters_spec lq (by omega) hf).mono ?_
    rintro _ H1 ⟨rfl, g1⟩
    obtain ⟨l, hl⟩ : ∃ l, encP s = l := ⟨_, rfl⟩
    obtain ⟨mm, hdec⟩ := dec_enc s.length s [] (Nat.le_refl _)
    rw [← encP, hl, List.nil_append] at hdec
    have hll : l.length = (s.length + 2) / 3 * 4 := by rw [← hl, encP, encF_len _ _ (Nat.le_refl _)]
    obtain ⟨q, hq⟩ : ∃ q, (s.length + 2) / 3 = q := ⟨_, rfl⟩
    have wa : IntKind.wrap .i64 ((s.length : Int) + 2) = ((s.length + 2 : Nat) : Int) := wrapNat (n := s.length + 2) (by omega)
    have q1 : binV .quo (.int .i64 ((s.length + 2 : Nat) : Int)) (.int .i64 3) = some (.int .i64 (q : Int)) := by
      have e : binV .quo (.int .i64 ((s.length + 2 : Nat) : Int)) (.int .i64 3) = some (.int .i64 (IntKind.wrap .i64 (((s.length + 2 : Nat) : Int).tdiv 3))) := by simp [binV, intBin]
      have e2 : (((s.length + 2 : Nat) : Int)).tdiv 3 = (((s.length + 2) / 3 : Nat) : Int) := rfl
      rw [e, e2, hq, wrapNat (by omega)]
    have m4 : IntKind.wrap .i64 ((q : Int) * 4) = (l.length : Int) := by rw [hll, hq]; exact wrapNat (n := q * 4) (by omega)
    have ll : l.length ≤ 100000 := by omega
    simp only [hl, e0, wa, q1, m4, SX, Opd.ev, resVal, resVals, ARes.val, Bool.false_eq_true, Bool.not_false, Bool.not_true, List.getD_cons_succ, List.getD_cons_zero, List.map_cons, List.map_nil, Nat.add_zero, Nat.zero_add, Option.map_none, Option.map_some, Option.some.injEq, and_true, decide_false, decide_true, true_and, reduceCtorEq, Nat.reduceEqDiff, ↓reduceIte, Int.reduceEq, Int.reduceLT, Int.reduceLE, Nat.reduceAdd]
    obtain ⟨I, hI⟩ : ∃ I : Nat → Env → AHeap → Prop, ∀ m e H', I m e H' ↔ (∃ (i : Nat) (st : St) (v : AV), m = l.length - i ∧ i ≤ l.length ∧ decL (l.drop i) st = some ⟨0, mm, s⟩ ∧ st.bits < 2 ^ st.many ∧ st.many ≤ 6 ∧ st.many % 2 = 0 ∧ st.out.length ≤ i ∧ OwnB 5 H.next H' v st.out [] ∧ Keep H.next H H' ∧
        Env.get e 0 = .str s ∧ Env.get e 3 = .str l ∧ Env.get e 4 = v ∧ Env.get e 5 = .int .i64 st.bits ∧ Env.get e 6 = .int .i64 st.many ∧ Env.get e 7 = .int .i64 i) := ⟨_, fun _ _ _ => Iff.rfl⟩
    refine loop_by I l.length ?_ ?_
    · refine (hI _ _ _).2 ⟨0, ⟨0, 0, []⟩, .nils, rfl, by omega, hdec, by simp, by simp, rfl, by simp, .inl ⟨rfl, rfl, (Hp.nil H1 g1.fr).lower g1.next⟩, g1.keep, (by first | (simp only [SX, Opd.ev, resVal, resVals, ARes.val, Bool.false_eq_true, Bool.not_false, Bool.not_true, List.getD_cons_succ, List.getD_cons_zero, List.map_cons, List.map_nil, Nat.add_zero, Nat.zero_add, Option.map_none, Option.map_some, Option.some.injEq, and_true, decide_false, decide_true, true_and, reduceCtorEq, Nat.reduceEqDiff, ↓reduceIte, Int.reduceEq, Int.reduceLT, Int.reduceLE, Nat.reduceAdd, e0]; done) | exact e0 | (simp only [SX, Opd.ev, resVal, resVals, ARes.val, Bool.false_eq_true, Bool.not_false, Bool.not_true, List.getD_cons_succ, List.getD_cons_zero, List.map_cons, List.map_nil, Nat.add_zero, Nat.zero_add, Option.map_none, Option.map_some, Option.some.injEq, and_true, decide_false, decide_true, true_and, reduceCtorEq, Nat.reduceEqDiff, ↓reduceIte, Int.reduceEq, Int.reduceLT, Int.reduceLE, Nat.reduceAdd, e0]; rfl)), (by first | (simp only [SX, Opd.ev, resVal, resVals, ARes.val, Bool.false_eq_true, Bool.not_false, Bool.not_true, List.getD_cons_succ, List.getD_cons_zero, List.map_cons, List.map_nil, Nat.add_zero, Nat.zero_add, Option.map_none, Option.map_some, Option.some.injEq, and_true, decide_false, decide_true, true_and, reduceCtorEq, Nat.reduceEqDiff, ↓reduceIte, Int.reduceEq, Int.reduceLT, Int.reduceLE, Nat.reduceAdd]; done) | (simp only [SX, Opd.ev, resVal, resVals, ARes.val, Bool.false_eq_true, Bool.not_false, Bool.not_true, List.getD_cons_succ, List.getD_cons_zero, List.map_cons, List.map_nil, Nat.add_zero, Nat.zero_add, Option.map_none, Option.map_some, Option.some.injEq, and_true, decide_false, decide_true, true_and, reduceCtorEq, Nat.reduceEqDiff, ↓reduceIte, Int.reduceEq, Int.reduceLT, Int.reduceLE, Nat.reduceAdd]; rfl) | rfl), (by first | (simp only [SX, Opd.ev, resVal, resVals, ARes.val, Bool.false_eq_true, Bool.not_false, Bool.not_true, List.getD_cons_succ, List.getD_cons_zero, List.map_cons, List.map_nil, Nat.add_zero, Nat.zero_add, Option.map_none, Option.map_some, Option.some.injEq, and_true, decide_false, decide_true, true_and, reduceCtorEq, Nat.reduceEqDiff, ↓reduceIte, Int.reduceEq, Int.reduceLT, Int.reduceLE, Nat.reduceAdd]; done) | (simp only [SX, Opd.ev, resVal, resVals, ARes.val, Bool.false_eq_true, Bool.not_false, Bool.not_true, List.getD_cons_succ, List.getD_cons_zero, List.map_cons, List.map_nil, Nat.add_zero, Nat.zero_add, Option.map_none, Option.map_some, Option.some.injEq, and_true, decide_false, decide_true, true_and, reduceCtorEq, Nat.reduceEqDiff, ↓reduceIte, Int.reduceEq, Int.reduceLT, Int.reduceLE, Nat.reduceAdd]; rfl) | rfl), (by first | (simp only [SX, Opd.ev, resVal, resVals, ARes.val, Bool.false_eq_true, Bool.not_false, Bool.not_true, List.getD_cons_succ, List.getD_cons_zero, List.map_cons, List.map_nil, Nat.add_zero, Nat.zero_add, Option.map_none, Option.map_some, Option.some.injEq, and_true, decide_false, decide_true, true_and, reduceCtorEq, Nat.reduceEqDiff, ↓reduceIte, Int.reduceEq, Int.reduceLT, Int.reduceLE, Nat.reduceAdd]; done) | (simp only [SX, Opd.ev, resVal, resVals, ARes.val, Bool.false_eq_true, Bool.not_false, Bool.not_true, List.getD_cons_succ, List.getD_cons_zero, List.map_cons, List.map_nil, Nat.add_zero, Nat.zero_add, Option.map_none, Option.map_some, Option.some.injEq, and_true, decide_false, decide_true, true_and, reduceCtorEq, Nat.reduceEqDiff, ↓reduceIte, Int.reduceEq, Int.reduceLT, Int.reduceLE, Nat.reduceAdd]; rfl) | rfl), (by first | (simp only [SX, Opd.ev, resVal, resVals, ARes.val, Bool.false_eq_true, Bool.not_false, Bool.not_true, List.getD_cons_succ, List.getD_cons_zero, List.map_cons, List.map_nil, Nat.add_zero, Nat.zero_add, Option.map_none, Option.map_some, Option.some.injEq, and_true, decide_false, decide_true, true_and, reduceCtorEq, Nat.reduceEqDiff, ↓reduceIte, Int.reduceEq, Int.reduceLT, Int.reduceLE, Nat.reduceAdd]; done) | (simp only [SX, Opd.ev, resVal, resVals, ARes.val, Bool.false_eq_true, Bool.not_false, Bool.not_true, List.getD_cons_succ, List.getD_cons_zero, List.map_cons, List.map_nil, Nat.add_zero, Nat.zero_add, Option.map_none, Option.map_some, Option.some.injEq, and_true, decide_false, decide_true, true_and, reduceCtorEq, Nat.reduceEqDiff, ↓reduceIte, Int.reduceEq, Int.reduceLT, Int.reduceLE, Nat.reduceAdd]; rfl) | rfl), (by first | (simp only [SX, Opd.ev, resVal, resVals, ARes.val, Bool.false_eq_true, Bool.not_false, Bool.not_true, List.getD_cons_succ, List.getD_cons_zero, List.map_cons, List.map_nil, Nat.add_zero, Nat.zero_add, Option.map_none, Option.map_some, Option.some.injEq, and_true, decide_false, decide_true, true_and, reduceCtorEq, Nat.reduceEqDiff, ↓reduceIte, Int.reduceEq, Int.reduceLT, Int.reduceLE, Nat.reduceAdd]; done) | (simp only [SX, Opd.ev, resVal, resVals, ARes.val, Bool.false_eq_true, Bool.not_false, Bool.not_true, List.getD_cons_succ, List.getD_cons_zero, List.map_cons, List.map_nil, Nat.add_zero, Nat.zero_add, Option.map_none, Option.map_some, Option.some.injEq, and_true, decide_false, decide_true, true_and, reduceCtorEq, Nat.reduceEqDiff, ↓reduceIte, Int.reduceEq, Int.reduceLT, Int.reduceLE, Nat.reduceAdd]; rfl) | rfl)⟩
    · intro m e H2 hinv
      obtain ⟨i, st, v, rfl, hi, hd, hb, hm6, hm2, ho, own, k2, e0, e3, e4, e5, e6, e7⟩ := (hI _ _ _).1 hinv
      by_cases d : (i : Int) < l.length
      · obtain ⟨c, hc⟩ : ∃ c, l[i]? = some c := ⟨_, List.getElem?_eq_getElem (by omega)⟩
        have hdr : l.drop i = c :: l.drop (i + 1) := by
          obtain ⟨h1, h2⟩ := List.getElem?_eq_some_iff.1 hc
          rw [List.drop_eq_getElem_cons h1, h2]
        have hdl : (l.drop (i + 1)).length = l.length - (i + 1) := List.length_drop ..
        have xi := idxStr_at hc .i64
        have w1 : IntKind.wrap .i64 ((i : Int) + 1) = ((i + 1 : Nat) : Int) := wrapNat (n := i + 1) (by omega)
        rw [hdr, decL] at hd
        by_cases c61 : c = 61
        · rw [if_pos c61] at hd
          by_cases hrem : (l.drop (i + 1)).length > 1 ∨ ((l.drop (i + 1)).length = 1 ∧ l.drop (i + 1) ≠ [61])
          · rw [if_pos hrem] at hd; cases hd
          · rw [if_neg hrem] at hd
            have d61 : (c.toNat : Int) = 61 := by rw [c61]; rfl
            have again : ∀ e', Env.get e' 0 = .str s → Env.get e' 3 = .str l → Env.get e' 4 = v → Env.get e' 5 = .int .i64 st.bits → Env.get e' 6 = .int .i64 st.many → Env.get e' 7 = .int .i64 ((i + 1 : Nat) : Int) → ∃ m', m' < l.length - i ∧ I m' e' H2 := fun e' a0 a3 a4 a5 a6 a7 =>
              ⟨l.length - (i + 1), by omega, (hI _ _ _).2 ⟨i + 1, st, v, rfl, by omega, hd, hb, hm6, hm2, by omega, own, k2, a0, a3, a4, a5, a6, a7⟩⟩
            have hgt : ¬ (l.drop (i + 1)).length > 1 := fun h => hrem (.inl h)
            have wl2 : IntKind.wrap .i64 ((l.length : Int) - 2) = (l.length : Int) - 2 := wrapI64 (by omega) (by omega)
            have c1 : ¬ (i : Int) < (l.length : Int) - 2 := by omega
            by_cases c2 : (i : Int) = (l.length : Int) - 2
            · have wl1 : IntKind.wrap .i64 ((l.length : Int) - 1) = ((l.length - 1 : Nat) : Int) := by rw [wrapI64 (by omega) (by omega)]; omega
              have hl1 : (l.drop (i + 1)) = [61] := Classical.byContradiction fun hh => hrem (.inr ⟨by omega, hh⟩)
              have hx : l[l.length - 1]? = some 61 := by
                have := congrArg (fun x : List UInt8 => x[0]?) hl1
                simp only [List.getElem?_drop, List.getElem?_cons_zero] at this
                rw [show l.length - 1 = i + 1 + 0 by omega]; exact this
              have xj := idxStr_at hx .i64
              have z61 : ((61 : UInt8).toNat : Int) = 61 := rfl
              rw [z61] at xj
              have c2' : decide ((i : Int) = (l.length : Int) - 2) = true := decide_eq_true c2
              simp only [e0, e3, e4, e5, e6, e7, d, xi, d61, wl2, c1, c2', wl1, xj, w1, wantV_undef, SX, Opd.ev, resVal, resVals, ARes.val, Bool.false_eq_true, Bool.not_false, Bool.not_true, List.getD_cons_succ, List.getD_cons_zero, List.map_cons, List.map_nil, Nat.add_zero, Nat.zero_add, Option.map_none, Option.map_some, Option.some.injEq, and_true, decide_false, decide_true, true_and, reduceCtorEq, Nat.reduceEqDiff, ↓reduceIte, Int.reduceEq, Int.reduceLT, Int.reduceLE, Nat.reduceAdd]
              exact again _ (by first | (simp only [SX, Opd.ev, resVal, resVals, ARes.val, Bool.false_eq_true, Bool.not_false, Bool.not_true, List.getD_cons_succ, List.getD_cons_zero, List.map_cons, List.map_nil, Nat.add_zero, Nat.zero_add, Option.map_none, Option.map_some, Option.some.injEq, and_true, decide_false, decide_true, true_and, reduceCtorEq, Nat.reduceEqDiff, ↓reduceIte, Int.reduceEq, Int.reduceLT, Int.reduceLE, Nat.reduceAdd, e0]; done) | exact e0 | (simp only [SX, Opd.ev, resVal, resVals, ARes.val, Bool.false_eq_true, Bool.not_false, Bool.not_true, List.getD_cons_succ, List.getD_cons_zero, List.map_cons, List.map_nil, Nat.add_zero, Nat.zero_add, Option.map_none, Option.map_some, Option.some.injEq, and_true, decide_false, decide_true, true_and, reduceCtorEq, Nat.reduceEqDiff, ↓reduceIte, Int.reduceEq, Int.reduceLT, Int.reduceLE, Nat.reduceAdd, e0]; rfl)) (by first | (simp only [SX, Opd.ev, resVal, resVals, ARes.val, Bool.false_eq_true, Bool.not_false, Bool.not_true, List.getD_cons_succ, List.getD_cons_zero, List.map_cons, List.map_nil, Nat.add_zero, Nat.zero_add, Option.map_none, Option.map_some, Option.some.injEq, and_true, decide_false, decide_true, true_and, reduceCtorEq, Nat.reduceEqDiff, ↓reduceIte, Int.reduceEq, Int.reduceLT, Int.reduceLE, Nat.reduceAdd, e3]; done) | exact e3 | (simp only [SX, Opd.ev, resVal, resVals, ARes.val, Bool.false_eq_true, Bool.not_false, Bool.not_true, List.getD_cons_succ, List.getD_cons_zero, List.map_cons, List.map_nil, Nat.add_zero, Nat.zero_add, Option.map_none, Option.map_some, Option.some.injEq, and_true, decide_false, decide_true, true_and, reduceCtorEq, Nat.reduceEqDiff, ↓reduceIte, Int.reduceEq, Int.reduceLT, Int.reduceLE, Nat.reduceAdd, e3]; rfl)) (by first | (simp only [SX, Opd.ev, resVal, resVals, ARes.val, Bool.false_eq_true, Bool.not_false, Bool.not_true, List.getD_cons_succ, List.getD_cons_zero, List.map_cons, List.map_nil, Nat.add_zero, Nat.zero_add, Option.map_none, Option.map_some, Option.some.injEq, and_true, decide_false, decide_true, true_and, reduceCtorEq, Nat.reduceEqDiff, ↓reduceIte, Int.reduceEq, Int.reduceLT, Int.reduceLE, Nat.reduceAdd, e4]; done) | exact e4 | (simp only [SX, Opd.ev, resVal, resVals, ARes.val, Bool.false_eq_true, Bool.not_false, Bool.not_true, List.getD_cons_succ, List.getD_cons_zero, List.map_cons, List.map_nil, Nat.add_zero, Nat.zero_add, Option.map_none, Option.map_some, Option.some.injEq, and_true, decide_false, decide_true, true_and, reduceCtorEq, Nat.reduceEqDiff, ↓reduceIte, Int.reduceEq, Int.reduceLT, Int.reduceLE, Nat.reduceAdd, e4]; rfl)) (by first | (simp only [SX, Opd.ev, resVal, resVals, ARes.val, Bool.false_eq_true, Bool.not_false, Bool.not_true, List.getD_cons_succ, List.getD_cons_zero, List.map_cons, List.map_nil, Nat.add_zero, Nat.zero_add, Option.map_none, Option.map_some, Option.some.injEq, and_true, decide_false, decide_true, true_and, reduceCtorEq, Nat.reduceEqDiff, ↓reduceIte, Int.reduceEq, Int.reduceLT, Int.reduceLE, Nat.reduceAdd, e5]; done) | exact e5 | (simp only [SX, Opd.ev, resVal, resVals, ARes.val, Bool.false_eq_true, Bool.not_false, Bool.not_true, List.getD_cons_succ, List.getD_cons_zero, List.map_cons, List.map_nil, Nat.add_zero, Nat.zero_add, Option.map_none, Option.map_some, Option.some.injEq, and_true, decide_false, decide_true, true_and, reduceCtorEq, Nat.reduceEqDiff, ↓reduceIte, Int.reduceEq, Int.reduceLT, Int.reduceLE, Nat.reduceAdd, e5]; rfl)) (by first | (simp only [SX, Opd.ev, resVal, resVals, ARes.val, Bool.false_eq_true, Bool.not_false, Bool.not_true, List.getD_cons_succ, List.getD_cons_zero, List.map_cons, List.map_nil, Nat.add_zero, Nat.zero_add, Option.map_none, Option.map_some, Option.some.injEq, and_true, decide_false, decide_true, true_and, reduceCtorEq, Nat.reduceEqDiff, ↓reduceIte, Int.reduceEq, Int.reduceLT, Int.reduceLE, Nat.reduceAdd, e6]; done) | exact e6 | (simp only [SX, Opd.ev, resVal, resVals, ARes.val, Bool.false_eq_true, Bool.not_false, Bool.not_true, List.getD_cons_succ, List.getD_cons_zero, List.map_cons, List.map_nil, Nat.add_zero, Nat.zero_add, Option.map_none, Option.map_some, Option.some.injEq, and_true, decide_false, decide_true, true_and, reduceCtorEq, Nat.reduceEqDiff, ↓reduceIte, Int.reduceEq, Int.reduceLT, Int.reduceLE, Nat.reduceAdd, e6]; rfl)) (by first | (simp only [SX, Opd.ev, resVal, resVals, ARes.val, Bool.false_eq_true, Bool.not_false, Bool.not_true, List.getD_cons_succ, List.getD_cons_zero, List.map_cons, List.map_nil, Nat.add_zero, Nat.zero_add, Option.map_none, Option.map_some, Option.some.injEq, and_true, decide_false, decide_true, true_and, reduceCtorEq, Nat.reduceEqDiff, ↓reduceIte, Int.reduceEq, Int.reduceLT, Int.reduceLE, Nat.reduceAdd]; done) | (simp only [SX, Opd.ev, resVal, resVals, ARes.val, Bool.false_eq_true, Bool.not_false, Bool.not_true, List.getD_cons_succ, List.getD_cons_zero, List.map_cons, List.map_nil, Nat.add_zero, Nat.zero_add, Option.map_none, Option.map_some, Option.some.injEq, and_true, decide_false, decide_true, true_and, reduceCtorEq, Nat.reduceEqDiff, ↓reduceIte, Int.reduceEq, Int.reduceLT, Int.reduceLE, Nat.reduceAdd]; rfl) | rfl)
            · simp only [e0, e3, e4, e5, e6, e7, d, xi, d61, wl2, c1, c2, w1, wantV_undef, SX, Opd.ev, resVal, resVals, ARes.val, Bool.false_eq_true, Bool.not_false, Bool.not_true, List.getD_cons_succ, List.getD_cons_zero, List.map_cons, List.map_nil, Nat.add_zero, Nat.zero_add, Option.map_none, Option.map_some, Option.some.injEq, and_true, decide_false, decide_true, true_and, reduceCtorEq, Nat.reduceEqDiff, ↓reduceIte, Int.reduceEq, Int.reduceLT, Int.reduceLE, Nat.reduceAdd]
              exact again _ (by first | (simp only [SX, Opd.ev, resVal, resVals, ARes.val, Bool.false_eq_true, Bool.not_false, Bool.not_true, List.getD_cons_succ, List.getD_cons_zero, List.map_cons, List.map_nil, Nat.add_zero, Nat.zero_add, Option.map_none, Option.map_some, Option.some.injEq, and_true, decide_false, decide_true, true_and, reduceCtorEq, Nat.reduceEqDiff, ↓reduceIte, Int.reduceEq, Int.reduceLT, Int.reduceLE, Nat.reduceAdd, e0]; done) | exact e0 | (simp only [SX, Opd.ev, resVal, resVals, ARes.val, Bool.false_eq_true, Bool.not_false, Bool.not_true, List.getD_cons_succ, List.getD_cons_zero, List.map_cons, List.map_nil, Nat.add_zero, Nat.zero_add, Option.map_none, Option.map_some, Option.some.injEq, and_true, decide_false, decide_true, true_and, reduceCtorEq, Nat.reduceEqDiff, ↓reduceIte, Int.reduceEq, Int.reduceLT, Int.reduceLE, Nat.reduceAdd, e0]; rfl)) (by first | (simp only [SX, Opd.ev, resVal, resVals, ARes.val, Bool.false_eq_true, Bool.not_false, Bool.not_true, List.getD_cons_succ, List.getD_cons_zero, List.map_cons, List.map_nil, Nat.add_zero, Nat.zero_add, Option.map_none, Option.map_some, Option.some.injEq, and_true, decide_false, decide_true, true_and, reduceCtorEq, Nat.reduceEqDiff, ↓reduceIte, Int.reduceEq, Int.reduceLT, Int.reduceLE, Nat.reduceAdd, e3]; done) | exact e3 | (simp only [SX, Opd.ev, resVal, resVals, ARes.val, Bool.false_eq_true, Bool.not_false, Bool.not_true, List.getD_cons_succ, List.getD_cons_zero, List.map_cons, List.map_nil, Nat.add_zero, Nat.zero_add, Option.map_none, Option.map_some, Option.some.injEq, and_true, decide_false, decide_true, true_and, reduceCtorEq, Nat.reduceEqDiff, ↓reduceIte, Int.reduceEq, Int.reduceLT, Int.reduceLE, Nat.reduceAdd, e3]; rfl)) (by first | (simp only [SX, Opd.ev, resVal, resVals, ARes.val, Bool.false_eq_true, Bool.not_false, Bool.not_true, List.getD_cons_succ, List.getD_cons_zero, List.map_cons, List.map_nil, Nat.add_zero, Nat.zero_add, Option.map_none, Option.map_some, Option.some.injEq, and_true, decide_false, decide_true, true_and, reduceCtorEq, Nat.reduceEqDiff, ↓reduceIte, Int.reduceEq, Int.reduceLT, Int.reduceLE, Nat.reduceAdd, e4]; done) | exact e4 | (simp only [SX, Opd.ev, resVal, resVals, ARes.val, Bool.false_eq_true, Bool.not_false, Bool.not_true, List.getD_cons_succ, List.getD_cons_zero, List.map_cons, List.map_nil, Nat.add_zero, Nat.zero_add, Option.map_none, Option.map_some, Option.some.injEq, and_true, decide_false, decide_true, true_and, reduceCtorEq, Nat.reduceEqDiff, ↓reduceIte, Int.reduceEq, Int.reduceLT, Int.reduceLE, Nat.reduceAdd, e4]; rfl)) (by first | (simp only [SX, Opd.ev, resVal, resVals, ARes.val, Bool.false_eq_true, Bool.not_false, Bool.not_true, List.getD_cons_succ, List.getD_cons_zero, List.map_cons, List.map_nil, Nat.add_zero, Nat.zero_add, Option.map_none, Option.map_some, Option.some.injEq, and_true, decide_false, decide_true, true_and, reduceCtorEq, Nat.reduceEqDiff, ↓reduceIte, Int.reduceEq, Int.reduceLT, Int.reduceLE, Nat.reduceAdd, e5]; done) | exact e5 | (simp only [SX, Opd.ev, resVal, resVals, ARes.val, Bool.false_eq_true, Bool.not_false, Bool.not_true, List.getD_cons_succ, List.getD_cons_zero, List.map_cons, List.map_nil, Nat.add_zero, Nat.zero_add, Option.map_none, Option.map_some, Option.some.injEq, and_true, decide_false, decide_true, true_and, reduceCtorEq, Nat.reduceEqDiff, ↓reduceIte, Int.reduceEq, Int.reduceLT, Int.reduceLE, Nat.reduceAdd, e5]; rfl)) (by first | (simp only [SX, Opd.ev, resVal, resVals, ARes.val, Bool.false_eq_true, Bool.not_false, Bool.not_true, List.getD_cons_succ, List.getD_cons_zero, List.map_cons, List.map_nil, Nat.add_zero, Nat.zero_add, Option.map_none, Option.map_some, Option.some.injEq, and_true, decide_false, decide_true, true_and, reduceCtorEq, Nat.reduceEqDiff, ↓reduceIte, Int.reduceEq, Int.reduceLT, Int.reduceLE, Nat.reduceAdd, e6]; done) | exact e6 | (simp only [SX, Opd.ev, resVal, resVals, ARes.val, Bool.false_eq_true, Bool.not_false, Bool.not_true, List.getD_cons_succ, List.getD_cons_zero, List.map_cons, List.map_nil, Nat.add_zero, Nat.zero_add, Option.map_none, Option.map_some, Option.some.injEq, and_true, decide_false, decide_true, true_and, reduceCtorEq, Nat.reduceEqDiff, ↓reduceIte, Int.reduceEq, Int.reduceLT, Int.reduceLE, Nat.reduceAdd, e6]; rfl)) (by first | (simp only [SX, Opd.ev, resVal, resVals, ARes.val, Bool.false_eq_true, Bool.not_false, Bool.not_true, List.getD_cons_succ, List.getD_cons_zero, List.map_cons, List.map_nil, Nat.add_zero, Nat.zero_add, Option.map_none, Option.map_some, Option.some.injEq, and_true, decide_false, decide_true, true_and, reduceCtorEq, Nat.reduceEqDiff, ↓reduceIte, Int.reduceEq, Int.reduceLT, Int.reduceLE, Nat.reduceAdd]; done) | (simp only [SX, Opd.ev, resVal, resVals, ARes.val, Bool.false_eq_true, Bool.not_false, Bool.not_true, List.getD_cons_succ, List.getD_cons_zero, List.map_cons, List.map_nil, Nat.add_zero, Nat.zero_add, Option.map_none, Option.map_some, Option.some.injEq, and_true, decide_false, decide_true, true_and, reduceCtorEq, Nat.reduceEqDiff, ↓reduceIte, Int.reduceEq, Int.reduceLT, Int.reduceLE, Nat.reduceAdd]; rfl) | rfl)
        · rw [if_neg c61] at hd
          by_cases hneg : valP c.toNat < 0
          · rw [if_pos hneg] at hd; cases hd
          · rw [if_neg hneg] at hd
            obtain ⟨n, hn⟩ : ∃ n : Nat, valP c.toNat = n := ⟨(valP c.toNat).toNat, by omega⟩
            have hn64 : n < 64 := by
              have : valP c.toNat < 64 := by unfold valP; split <;> (try split) <;> (try split) <;> (try split) <;> (try split) <;> omega
              omega
            rw [hn, Int.toNat_natCast] at hd
            have d61 : ¬ (c.toNat : Int) = 61 := fun h => c61 (UInt8.toNat_inj.1 (by show c.toNat = 61; omega))
            have n0 : ¬ (n : Int) < 0 := by omega
            have bl : st.bits < 64 := Nat.lt_of_lt_of_le hb (by
              calc 2 ^ st.many ≤ 2 ^ 6 := Nat.pow_le_pow_right (by omega) hm6
                _ = 64 := rfl)
            have sh : binV .shl (.int .i64 (st.bits : Int)) (.int .u64 6) = some (.int .i64 ((st.bits * 64 : Nat) : Int)) := shlN (k := 6) (by omega) (by omega)
            have ou : binV .or (.int .i64 ((st.bits * 64 : Nat) : Int)) (.int .i64 (n : Int)) = some (.int .i64 ((st.bits * 64 + n : Nat) : Int)) := orN (k := 6) hn64 (by omega)
            have w6 : IntKind.wrap .i64 ((st.many : Int) + 6) = ((st.many + 6 : Nat) : Int) := wrapNat (n := st.many + 6) (by omega)
            obtain ⟨B, hB⟩ : ∃ B, st.bits * 64 + n = B := ⟨_, rfl⟩
            have hBl : B < 4096 := by omega
            simp only [e0, e3, e4, e5, e6, e7, d, xi, d61, SX, Opd.ev, resVal, resVals, ARes.val, Bool.false_eq_true, Bool.not_false, Bool.not_true, List.getD_cons_succ, List.getD_cons_zero, List.map_cons, List.map_nil, Nat.add_zero, Nat.zero_add, Option.map_none, Option.map_some, Option.some.injEq, and_true, decide_false, decide_true, true_and, reduceCtorEq, Nat.reduceEqDiff, ↓reduceIte, Int.reduceEq, Int.reduceLT, Int.reduceLE, Nat.reduceAdd]
            refine (value_spec lq q13 c).mono ?_
            rintro _ H3 ⟨rfl, rfl⟩
            rw [hn]
            by_cases c8 : (8 : Int) ≤ ((st.many + 6 : Nat) : Int)
            · obtain ⟨k, hk⟩ : ∃ k, st.many = k + 2 := ⟨st.many - 2, by omega⟩
              have stp : st.step n = ⟨B % 2 ^ k, k, st.out ++ [UInt8.ofNat (B / 2 ^ k)]⟩ := by
                unfold St.step
                rw [if_pos (by omega), hB, hk, Nat.add_sub_cancel]
              rw [stp] at hd
              have kle : k ≤ 4 := by omega
              have w8 : IntKind.wrap .i64 (((st.many + 6 : Nat) : Int) - 8) = (k : Int) := by rw [show ((st.many + 6 : Nat) : Int) - 8 = (k : Int) by omega]; exact wrapNat (by omega)
              have wk : IntKind.wrap .u64 (k : Int) = k := wrapU64N (by omega)
              have sr : binV .shr (.int .i64 (B : Int)) (.int .u64 (k : Int)) = some (.int .i64 ((B / 2 ^ k : Nat) : Int)) := shrN (by omega)
              have hp2 : 2 ^ k ≤ 16 := by
                calc 2 ^ k ≤ 2 ^ 4 := Nat.pow_le_pow_right (by omega) kle
                  _ = 16 := rfl
              have s1 : binV .shl (.int .i64 1) (.int .u64 (k : Int)) = some (.int .i64 ((1 * 2 ^ k : Nat) : Int)) := shlN (w := 1) (by omega) (by omega)
              have pos : 0 < 2 ^ k := Nat.two_pow_pos k
              have m1 : IntKind.wrap .i64 (((1 * 2 ^ k : Nat) : Int) - 1) = ((2 ^ k - 1 : Nat) : Int) := by rw [show ((1 * 2 ^ k : Nat) : Int) - 1 = ((2 ^ k - 1 : Nat) : Int) by omega]; exact wrapNat (by omega)
              have an : binV .and (.int .i64 (B : Int)) (.int .i64 ((2 ^ k - 1 : Nat) : Int)) = some (.int .i64 ((B % 2 ^ k : Nat) : Int)) := andN (by omega) (by omega)
              obtain ⟨H4, H5, w, p1, p2, own', k5⟩ := own.push (by omega) (UInt8.ofNat (B / 2 ^ k))
              have wu := wrapU8N (n := B / 2 ^ k)
              simp only [e0, e3, e4, e5, e6, e7, n0, sh, ou, hB, w6, c8, w8, wk, sr, wu, p1, wp_appendT, p2, s1, m1, an, w1, SX, Opd.ev, resVal, resVals, ARes.val, Bool.false_eq_true, Bool.not_false, Bool.not_true, List.getD_cons_succ, List.getD_cons_zero, List.map_cons, List.map_nil, Nat.add_zero, Nat.zero_add, Option.map_none, Option.map_some, Option.some.injEq, and_true, decide_false, decide_true, true_and, reduceCtorEq, Nat.reduceEqDiff, ↓reduceIte, Int.reduceEq, Int.reduceLT, Int.reduceLE, Nat.reduceAdd]
              refine ⟨l.length - (i + 1), by omega, (hI _ _ _).2 ⟨i + 1, _, w, rfl, by omega, hd, Nat.mod_lt _ pos, by simp only; omega, by simp only; omega, by simp; omega, own', k2.trans k5, (by first | (simp only [SX, Opd.ev, resVal, resVals, ARes.val, Bool.false_eq_true, Bool.not_false, Bool.not_true, List.getD_cons_succ, List.getD_cons_zero, List.map_cons, List.map_nil, Nat.add_zero, Nat.zero_add, Option.map_none, Option.map_some, Option.some.injEq, and_true, decide_false, decide_true, true_and, reduceCtorEq, Nat.reduceEqDiff, ↓reduceIte, Int.reduceEq, Int.reduceLT, Int.reduceLE, Nat.reduceAdd, e0]; done) | exact e0 | (simp only [SX, Opd.ev, resVal, resVals, ARes.val, Bool.false_eq_true, Bool.not_false, Bool.not_true, List.getD_cons_succ, List.getD_cons_zero, List.map_cons, List.map_nil, Nat.add_zero, Nat.zero_add, Option.map_none, Option.map_some, Option.some.injEq, and_true, decide_false, decide_true, true_and, reduceCtorEq, Nat.reduceEqDiff, ↓reduceIte, Int.reduceEq, Int.reduceLT, Int.reduceLE, Nat.reduceAdd, e0]; rfl)), (by first | (simp only [SX, Opd.ev, resVal, resVals, ARes.val, Bool.false_eq_true, Bool.not_false, Bool.not_true, List.getD_cons_succ, List.getD_cons_zero, List.map_cons, List.map_nil, Nat.add_zero, Nat.zero_add, Option.map_none, Option.map_some, Option.some.injEq, and_true, decide_false, decide_true, true_and, reduceCtorEq, Nat.reduceEqDiff, ↓reduceIte, Int.reduceEq, Int.reduceLT, Int.reduceLE, Nat.reduceAdd, e3]; done) | exact e3 | (simp only [SX, Opd.ev, resVal, resVals, ARes.val, Bool.false_eq_true, Bool.not_false, Bool.not_true, List.getD_cons_succ, List.getD_cons_zero, List.map_cons, List.map_nil, Nat.add_zero, Nat.zero_add, Option.map_none, Option.map_some, Option.some.injEq, and_true, decide_false, decide_true, true_and, reduceCtorEq, Nat.reduceEqDiff, ↓reduceIte, Int.reduceEq, Int.reduceLT, Int.reduceLE, Nat.reduceAdd, e3]; rfl)), (by first | (simp only [SX, Opd.ev, resVal, resVals, ARes.val, Bool.false_eq_true, Bool.not_false, Bool.not_true, List.getD_cons_succ, List.getD_cons_zero, List.map_cons, List.map_nil, Nat.add_zero, Nat.zero_add, Option.map_none, Option.map_some, Option.some.injEq, and_true, decide_false, decide_true, true_and, reduceCtorEq, Nat.reduceEqDiff, ↓reduceIte, Int.reduceEq, Int.reduceLT, Int.reduceLE, Nat.reduceAdd]; done) | (simp only [SX, Opd.ev, resVal, resVals, ARes.val, Bool.false_eq_true, Bool.not_false, Bool.not_true, List.getD_cons_succ, List.getD_cons_zero, List.map_cons, List.map_nil, Nat.add_zero, Nat.zero_add, Option.map_none, Option.map_some, Option.some.injEq, and_true, decide_false, decide_true, true_and, reduceCtorEq, Nat.reduceEqDiff, ↓reduceIte, Int.reduceEq, Int.reduceLT, Int.reduceLE, Nat.reduceAdd]; rfl) | rfl), (by first | (simp only [SX, Opd.ev, resVal, resVals, ARes.val, Bool.false_eq_true, Bool.not_false, Bool.not_true, List.getD_cons_succ, List.getD_cons_zero, List.map_cons, List.map_nil, Nat.add_zero, Nat.zero_add, Option.map_none, Option.map_some, Option.some.injEq, and_true, decide_false, decide_true, true_and, reduceCtorEq, Nat.reduceEqDiff, ↓reduceIte, Int.reduceEq, Int.reduceLT, Int.reduceLE, Nat.reduceAdd]; done) | (simp only [SX, Opd.ev, resVal, resVals, ARes.val, Bool.false_eq_true, Bool.not_false, Bool.not_true, List.getD_cons_succ, List.getD_cons_zero, List.map_cons, List.map_nil, Nat.add_zero, Nat.zero_add, Option.map_none, Option.map_some, Option.some.injEq, and_true, decide_false, decide_true, true_and, reduceCtorEq, Nat.reduceEqDiff, ↓reduceIte, Int.reduceEq, Int.reduceLT, Int.reduceLE, Nat.reduceAdd]; rfl) | rfl), (by first | (simp only [SX, Opd.ev, resVal, resVals, ARes.val, Bool.false_eq_true, Bool.not_false, Bool.not_true, List.getD_cons_succ, List.getD_cons_zero, List.map_cons, List.map_nil, Nat.add_zero, Nat.zero_add, Option.map_none, Option.map_some, Option.some.injEq, and_true, decide_false, decide_true, true_and, reduceCtorEq, Nat.reduceEqDiff, ↓reduceIte, Int.reduceEq, Int.reduceLT, Int.reduceLE, Nat.reduceAdd]; done) | (simp only [SX, Opd.ev, resVal, resVals, ARes.val, Bool.false_eq_true, Bool.not_false, Bool.not_true, List.getD_cons_succ, List.getD_cons_zero, List.map_cons, List.map_nil, Nat.add_zero, Nat.zero_add, Option.map_none, Option.map_some, Option.some.injEq, and_true, decide_false, decide_true, true_and, reduceCtorEq, Nat.reduceEqDiff, ↓reduceIte, Int.reduceEq, Int.reduceLT, Int.reduceLE, Nat.reduceAdd]; rfl) | rfl), (by first | (simp only [SX, Opd.ev, resVal, resVals, ARes.val, Bool.false_eq_true, Bool.not_false, Bool.not_true, List.getD_cons_succ, List.getD_cons_zero, List.map_cons, List.map_nil, Nat.add_zero, Nat.zero_add, Option.map_none, Option.map_some, Option.some.injEq, and_true, decide_false, decide_true, true_and, reduceCtorEq, Nat.reduceEqDiff, ↓reduceIte, Int.reduceEq, Int.reduceLT, Int.reduceLE, Nat.reduceAdd]; done) | (simp only [SX, Opd.ev, resVal, resVals, ARes.val, Bool.false_eq_true, Bool.not_false, Bool.not_true, List.getD_cons_succ, List.getD_cons_zero, List.map_cons, List.map_nil, Nat.add_zero, Nat.zero_add, Option.map_none, Option.map_some, Option.some.injEq, and_true, decide_false, decide_true, true_and, reduceCtorEq, Nat.reduceEqDiff, ↓reduceIte, Int.reduceEq, Int.reduceLT, Int.reduceLE, Nat.reduceAdd]; rfl) | rfl)⟩⟩
            · have stp : st.step n = ⟨B, st.many + 6, st.out⟩ := by
                unfold St.step
                rw [if_neg (by omega), hB]
              rw [stp] at hd
              have hm0 : st.many = 0 := by omega
              have hBb : B < 2 ^ (st.many + 6) := by rw [hm0] at hb ⊢; simp at hb ⊢; omega
              simp only [e0, e3, e4, e5, e6, e7, n0, sh, ou, hB, w6, c8, w1, SX, Opd.ev, resVal, resVals, ARes.val, Bool.false_eq_true, Bool.not_false, Bool.not_true, List.getD_cons_succ, List.getD_cons_zero, List.map_cons, List.map_nil, Nat.add_zero, Nat.zero_add, Option.map_none, Option.map_some, Option.some.injEq, and_true, decide_false, decide_true, true_and, reduceCtorEq, Nat.reduceEqDiff, ↓reduceIte, Int.reduceEq, Int.reduceLT, Int.reduceLE, Nat.reduceAdd]
              refine ⟨l.length - (i + 1), by omega, (hI _ _ _).2 ⟨i + 1, _, v, rfl, by omega, hd, hBb, by simp only; omega, by simp only; omega, by simp only; omega, own, k2, (by first | (simp only [SX, Opd.ev, resVal, resVals, ARes.val, Bool.false_eq_true, Bool.not_false, Bool.not_true, List.getD_cons_succ, List.getD_cons_zero, List.map_cons, List.map_nil, Nat.add_zero, Nat.zero_add, Option.map_none, Option.map_some, Option.some.injEq, and_true, decide_false, decide_true, true_and, reduceCtorEq, Nat.reduceEqDiff, ↓reduceIte, Int.reduceEq, Int.reduceLT, Int.reduceLE, Nat.reduceAdd, e0]; done) | exact e0 | (simp only [SX, Opd.ev, resVal, resVals, ARes.val, Bool.false_eq_true, Bool.not_false, Bool.not_true, List.getD_cons_succ, List.getD_cons_zero, List.map_cons, List.map_nil, Nat.add_zero, Nat.zero_add, Option.map_none, Option.map_some, Option.some.injEq, and_true, decide_false, decide_true, true_and, reduceCtorEq, Nat.reduceEqDiff, ↓reduceIte, Int.reduceEq, Int.reduceLT, Int.reduceLE, Nat.reduceAdd, e0]; rfl)), (by first | (simp only [SX, Opd.ev, resVal, resVals, ARes.val, Bool.false_eq_true, Bool.not_false, Bool.not_true, List.getD_cons_succ, List.getD_cons_zero, List.map_cons, List.map_nil, Nat.add_zero, Nat.zero_add, Option.map_none, Option.map_some, Option.some.injEq, and_true, decide_false, decide_true, true_and, reduceCtorEq, Nat.reduceEqDiff, ↓reduceIte, Int.reduceEq, Int.reduceLT, Int.reduceLE, Nat.reduceAdd, e3]; done) | exact e3 | (simp only [SX, Opd.ev, resVal, resVals, ARes.val, Bool.false_eq_true, Bool.not_false, Bool.not_true, List.getD_cons_succ, List.getD_cons_zero, List.map_cons, List.map_nil, Nat.add_zero, Nat.zero_add, Option.map_none, Option.map_some, Option.some.injEq, and_true, decide_false, decide_true, true_and, reduceCtorEq, Nat.reduceEqDiff, ↓reduceIte, Int.reduceEq, Int.reduceLT, Int.reduceLE, Nat.reduceAdd, e3]; rfl)), (by first | (simp only [SX, Opd.ev, resVal, resVals, ARes.val, Bool.false_eq_true, Bool.not_false, Bool.not_true, List.getD_cons_succ, List.getD_cons_zero, List.map_cons, List.map_nil, Nat.add_zero, Nat.zero_add, Option.map_none, Option.map_some, Option.some.injEq, and_true, decide_false, decide_true, true_and, reduceCtorEq, Nat.reduceEqDiff, ↓reduceIte, Int.reduceEq, Int.reduceLT, Int.reduceLE, Nat.reduceAdd, e4]; done) | exact e4 | (simp only [SX, Opd.ev, resVal, resVals, ARes.val, Bool.false_eq_true, Bool.not_false, Bool.not_true, List.getD_cons_succ, List.getD_cons_zero, List.map_cons, List.map_nil, Nat.add_zero, Nat.zero_add, Option.map_none, Option.map_some, Option.some.injEq, and_true, decide_false, decide_true, true_and, reduceCtorEq, Nat.reduceEqDiff, ↓reduceIte, Int.reduceEq, Int.reduceLT, Int.reduceLE, Nat.reduceAdd, e4]; rfl)), (by first | (simp only [SX, Opd.ev, resVal, resVals, ARes.val, Bool.false_eq_true, Bool.not_false, Bool.not_true, List.getD_cons_succ, List.getD_cons_zero, List.map_cons, List.map_nil, Nat.add_zero, Nat.zero_add, Option.map_none, Option.map_some, Option.some.injEq, and_true, decide_false, decide_true, true_and, reduceCtorEq, Nat.reduceEqDiff, ↓reduceIte, Int.reduceEq, Int.reduceLT, Int.reduceLE, Nat.reduceAdd]; done) | (simp only [SX, Opd.ev, resVal, resVals, ARes.val, Bool.false_eq_true, Bool.not_false, Bool.not_true, List.getD_cons_succ, List.getD_cons_zero, List.map_cons, List.map_nil, Nat.add_zero, Nat.zero_add, Option.map_none, Option.map_some, Option.some.injEq, and_true, decide_false, decide_true, true_and, reduceCtorEq, Nat.reduceEqDiff, ↓reduceIte, Int.reduceEq, Int.reduceLT, Int.reduceLE, Nat.reduceAdd]; rfl) | rfl), (by first | (simp only [SX, Opd.ev, resVal, resVals, ARes.val, Bool.false_eq_true, Bool.not_false, Bool.not_true, List.getD_cons_succ, List.getD_cons_zero, List.map_cons, List.map_nil, Nat.add_zero, Nat.zero_add, Option.map_none, Option.map_some, Option.some.injEq, and_true, decide_false, decide_true, true_and, reduceCtorEq, Nat.reduceEqDiff, ↓reduceIte, Int.reduceEq, Int.reduceLT, Int.reduceLE, Nat.reduceAdd]; done) | (simp only [SX, Opd.ev, resVal, resVals, ARes.val, Bool.false_eq_true, Bool.not_false, Bool.not_true, List.getD_cons_succ, List.getD_cons_zero, List.map_cons, List.map_nil, Nat.add_zero, Nat.zero_add, Option.map_none, Option.map_some, Option.some.injEq, and_true, decide_false, decide_true, true_and, reduceCtorEq, Nat.reduceEqDiff, ↓reduceIte, Int.reduceEq, Int.reduceLT, Int.reduceLE, Nat.reduceAdd]; rfl) | rfl), (by first | (simp only [SX, Opd.ev, resVal, resVals, ARes.val, Bool.false_eq_true, Bool.not_false, Bool.not_true, List.getD_cons_succ, List.getD_cons_zero, List.map_cons, List.map_nil, Nat.add_zero, Nat.zero_add, Option.map_none, Option.map_some, Option.some.injEq, and_true, decide_false, decide_true, true_and, reduceCtorEq, Nat.reduceEqDiff, ↓reduceIte, Int.reduceEq, Int.reduceLT, Int.reduceLE, Nat.reduceAdd]; done) | (simp only [SX, Opd.ev, resVal, resVals, ARes.val, Bool.false_eq_true, Bool.not_false, Bool.not_true, List.getD_cons_succ, List.getD_cons_zero, List.map_cons, List.map_nil, Nat.add_zero, Nat.zero_add, Option.map_none, Option.map_some, Option.some.injEq, and_true, decide_false, decide_true, true_and, reduceCtorEq, Nat.reduceEqDiff, ↓reduceIte, Int.reduceEq, Int.reduceLT, Int.reduceLE, Nat.reduceAdd]; rfl) | rfl)⟩⟩
      · obtain rfl : i = l.length := by omega
        rw [List.drop_length, decL] at hd
        obtain rfl := Option.some.inj hd
        have os := own.str
        have e5 : Env.get e 5 = .int .i64 0 := e5
        have eqs : binV .eql (.str s) (.str s) = some (.bool true) := by simp [binV, strBin]
        simp only [e0, e3, e4, e5, e6, e7, d, os, eqs, SX, Opd.ev, resVal, resVals, ARes.val, Bool.false_eq_true, Bool.not_false, Bool.not_true, List.getD_cons_succ, List.getD_cons_zero, List.map_cons, List.map_nil, Nat.add_zero, Nat.zero_add, Option.map_none, Option.map_some, Option.some.injEq, and_true, decide_false, decide_true, true_and, reduceCtorEq, Nat.reduceEqDiff, ↓reduceIte, Int.reduceEq, Int.reduceLT, Int.reduceLE, Nat.reduceAdd]
        refine fn_orc yes (by rw [hT]; rfl) ?_
        simp only [SX, Opd.ev, resVal, resVals, ARes.val, Bool.false_eq_true, Bool.not_false, Bool.not_true, List.getD_cons_succ, List.getD_cons_zero, List.map_cons, List.map_nil, Nat.add_zero, Nat.zero_add, Option.map_none, Option.map_some, Option.some.injEq, and_true, decide_false, decide_true, true_and, reduceCtorEq, Nat.reduceEqDiff, ↓reduceIte, Int.reduceEq, Int.reduceLT, Int.reduceLE, Nat.reduceAdd]
  by_cases d : (3000 : Int) < s.length
  · have st : slStrV (.str s) Option.none (some (.int .i64 3000)) = some (.str (s.take 3000)) := slStr_take (n := 3000) (by omega)
    simp only [A5, lngV_str, d, run_slStr, st, Option.map_none, Option.map_some, SX, Opd.ev, resVal, resVals, ARes.val, Bool.false_eq_true, Bool.not_false, Bool.not_true, List.getD_cons_succ, List.getD_cons_zero, List.map_cons, List.map_nil, Nat.add_zero, Nat.zero_add, Option.map_none, Option.map_some, Option.some.injEq, and_true, decide_false, decide_true, true_and, reduceCtorEq, Nat.reduceEqDiff, ↓reduceIte, Int.reduceEq, Int.reduceLT, Int.reduceLE, Nat.reduceAdd]
    refine rest (s.take 3000) _ (by rw [List.length_take]; omega) ?_
    simp only [SX, Opd.ev, resVal, resVals, ARes.val, Bool.false_eq_true, Bool.not_false, Bool.not_true, List.getD_cons_succ, List.getD_cons_zero, List.map_cons, List.map_nil, Nat.add_zero, Nat.zero_add, Option.map_none, Option.map_some, Option.some.injEq, and_true, decide_false, decide_true, true_and, reduceCtorEq, Nat.reduceEqDiff, ↓reduceIte, Int.reduceEq, Int.reduceLT, Int.reduceLE, Nat.reduceAdd]
  · simp only [A5, lngV_str, d, SX, Opd.ev, resVal, resVals, ARes.val, Bool.false_eq_true, Bool.not_false, Bool.not_true, List.getD_cons_succ, List.getD_cons_zero, List.map_cons, List.map_nil, Nat.add_zero, Nat.zero_add, Option.map_none, Option.map_some, Option.some.injEq, and_true, decide_false, decide_true, true_and, reduceCtorEq, Nat.reduceEqDiff, ↓reduceIte, Int.reduceEq, Int.reduceLT, Int.reduceLE, Nat.reduceAdd]
    refine rest s _ (by omega) ?_
    simp only [SX, Opd.ev, resVal, resVals, ARes.val, Bool.false_eq_true, Bool.not_false, Bool.not_true, List.getD_cons_succ, List.getD_cons_zero, List.map_cons, List.map_nil, Nat.add_zero, Nat.zero_add, Option.map_none, Option.map_some, Option.some.injEq, and_true, decide_false, decide_true, true_and, reduceCtorEq, Nat.reduceEqDiff, ↓reduceIte, Int.reduceEq, Int.reduceLT, Int.reduceLE, Nat.reduceAdd]
end
end Go.Proofs.YtdokbjneohnoeaaGreatDoor.AM
