/-
  EventsLong: the same of long strings; the law's walk on the abstract machine.
-/
import Derived.Test.YteockjhckmlclaaEventsTell0
import Derived.Lib.Repeat
set_option linter.unusedVariables false
set_option linter.unusedSimpArgs false
namespace Go.Proofs.Yteockjhckmlclaa.AM
open Go
section
variable {Q : Prog} (er : EvR Q) {H : AHeap}
include er
set_option maxHeartbeats 8000000 in
theorem law10 (q10 : Q.fns 10 = some A10) (q5 : Q.fns 5 = some A5) (ha : Q.orc 11 [] = some (.bool true))
    (hrep : ∀ (s : List UInt8) (c : Nat), s.length * c ≤ 140737488355328 → c ≤ 9223372036854775807 → Q.orc 24 [.str s, .int .i64 (c : Int)] = some (.str (Lib.repeatL s c)))
    (hf : Fr H) {c n : Int} {a b : List UInt8} (hc : 0 ≤ c ∧ c ≤ 255) (hn : 0 ≤ n ∧ n ≤ 65535) :
    FnTo Q 10 [.int .u8 c, .int .u16 n, .str a, .str b] H (fun r H' => r = .bool true) := by
  refine fn_wp (er.eq.ho 10 rfl _) q10 (by simp [A10]) ?_
  simp only [A10, SX, Opd.ev, resVal, resVals, ARes.val, Bool.false_eq_true, Bool.not_false, Bool.not_true, List.getD_cons_succ, List.getD_cons_zero, List.map_cons, List.map_nil, Nat.add_zero, Nat.zero_add, Option.map_none, Option.map_some, Option.some.injEq, and_true, decide_false, decide_true, true_and, reduceCtorEq, Nat.reduceEqDiff, ↓reduceIte, Int.reduceEq, Int.reduceLT, Int.reduceLE, Nat.reduceAdd]
  refine fn_orc ha ?_
  by_cases c1 : (300 : Int) < a.length
  · simp only [c1, lngV_str, wantV_undef, SX, Opd.ev, resVal, resVals, ARes.val, Bool.false_eq_true, Bool.not_false, Bool.not_true, List.getD_cons_succ, List.getD_cons_zero, List.map_cons, List.map_nil, Nat.add_zero, Nat.zero_add, Option.map_none, Option.map_some, Option.some.injEq, and_true, decide_false, decide_true, true_and, reduceCtorEq, Nat.reduceEqDiff, ↓reduceIte, Int.reduceEq, Int.reduceLT, Int.reduceLE, Nat.reduceAdd]
  by_cases c2 : (300 : Int) < b.length
  · have c1' : decide ((300 : Int) < a.length) = false := by simpa using c1
    have c2' : decide ((300 : Int) < b.length) = true := by simpa using c2
    simp only [c1', c2', lngV_str, wantV_undef, SX, Opd.ev, resVal, resVals, ARes.val, Bool.false_eq_true, Bool.not_false, Bool.not_true, List.getD_cons_succ, List.getD_cons_zero, List.map_cons, List.map_nil, Nat.add_zero, Nat.zero_add, Option.map_none, Option.map_some, Option.some.injEq, and_true, decide_false, decide_true, true_and, reduceCtorEq, Nat.reduceEqDiff, ↓reduceIte, Int.reduceEq, Int.reduceLT, Int.reduceLE, Nat.reduceAdd]
  have c1' : decide ((300 : Int) < a.length) = false := by simpa using c1
  have c2' : decide ((300 : Int) < b.length) = false := by simpa using c2
  obtain ⟨k, hk⟩ : ∃ k : Nat, n % 2048 = k := ⟨(n % 2048).toNat, by omega⟩
  have rm := bin_remK .u16 n 2048 (by omega)
  rw [Int.tmod_eq_emod_of_nonneg hn.1, hk] at rm
  have wk : IntKind.wrap .i64 (k : Int) = (k : Int) := wrapI64 (by omega) (by omega)
  obtain ⟨u, rfl⟩ : ∃ u : UInt8, c = u.toNat := ⟨UInt8.ofNat c.toNat, by
    have : (UInt8.ofNat c.toNat).toNat = c.toNat := by
      rw [UInt8.toNat_ofNat']; exact Nat.mod_eq_of_lt (by omega)
    rw [this]; omega⟩
  obtain ⟨H1, s1, t1, h1, k1⟩ := str_one (Hp.nil H hf) u
  have hr := hrep [u] k (by simp; omega) (by omega)
  have hl : (Lib.repeatL [u] k).length = k := by rw [Lib.repeatL_length]; simp
  generalize Lib.repeatL [u] k = R at hr hl
  have ad : ∀ x y : List UInt8, x.length + y.length ≤ 100000 → binV .add (.str x) (.str y) = some (.str (x ++ y)) := fun x y h => bin_adds x y (by omega)
  have a1 := ad a [27, 93] (by simp; omega)
  have a2 := ad (a ++ [27, 93]) R (by simp; omega)
  have a3 := ad (a ++ [27, 93] ++ R) [7] (by simp; omega)
  have a4 := ad (a ++ [27, 93] ++ R ++ [7]) b (by simp; omega)
  have b1 := ad a [27, 80, 49, 36, 113] (by simp; omega)
  have b2 := ad (a ++ [27, 80, 49, 36, 113]) R (by simp; omega)
  have b3 := ad (a ++ [27, 80, 49, 36, 113] ++ R) [27, 92] (by simp; omega)
  have b4 := ad (a ++ [27, 80, 49, 36, 113] ++ R ++ [27, 92]) b (by simp; omega)
  have d1 := ad a [27, 91] (by simp; omega)
  have d2 := ad (a ++ [27, 91]) R (by simp; omega)
  have d3 := ad (a ++ [27, 91] ++ R) [109] (by simp; omega)
  have d4 := ad (a ++ [27, 91] ++ R ++ [109]) b (by simp; omega)
  have f1 := ad [27] R (by simp; omega)
  have f2 := ad ([27] ++ R) [48] (by simp; omega)
  have f3 := ad ([27] ++ R ++ [48]) b (by simp; omega)
  simp only [c1', c2', lngV_str, wantV_undef, s1, t1, rm, wk, SX, Opd.ev, resVal, resVals, ARes.val, Bool.false_eq_true, Bool.not_false, Bool.not_true, List.getD_cons_succ, List.getD_cons_zero, List.map_cons, List.map_nil, Nat.add_zero, Nat.zero_add, Option.map_none, Option.map_some, Option.some.injEq, and_true, decide_false, decide_true, true_and, reduceCtorEq, Nat.reduceEqDiff, ↓reduceIte, Int.reduceEq, Int.reduceLT, Int.reduceLE, Nat.reduceAdd]
  refine fn_orc hr ?_
  simp only [a1, a2, a3, a4, SX, Opd.ev, resVal, resVals, ARes.val, Bool.false_eq_true, Bool.not_false, Bool.not_true, List.getD_cons_succ, List.getD_cons_zero, List.map_cons, List.map_nil, Nat.add_zero, Nat.zero_add, Option.map_none, Option.map_some, Option.some.injEq, and_true, decide_false, decide_true, true_and, reduceCtorEq, Nat.reduceEqDiff, ↓reduceIte, Int.reduceEq, Int.reduceLT, Int.reduceLE, Nat.reduceAdd]
  refine (law5 er q5 ha h1.fr).mono ?_
  rintro r H2 ⟨rfl, g2⟩
  simp only [b1, b2, b3, b4, SX, Opd.ev, resVal, resVals, ARes.val, Bool.false_eq_true, Bool.not_false, Bool.not_true, List.getD_cons_succ, List.getD_cons_zero, List.map_cons, List.map_nil, Nat.add_zero, Nat.zero_add, Option.map_none, Option.map_some, Option.some.injEq, and_true, decide_false, decide_true, true_and, reduceCtorEq, Nat.reduceEqDiff, ↓reduceIte, Int.reduceEq, Int.reduceLT, Int.reduceLE, Nat.reduceAdd]
  refine (law5 er q5 ha g2).mono ?_
  rintro r H3 ⟨rfl, g3⟩
  simp only [d1, d2, d3, d4, SX, Opd.ev, resVal, resVals, ARes.val, Bool.false_eq_true, Bool.not_false, Bool.not_true, List.getD_cons_succ, List.getD_cons_zero, List.map_cons, List.map_nil, Nat.add_zero, Nat.zero_add, Option.map_none, Option.map_some, Option.some.injEq, and_true, decide_false, decide_true, true_and, reduceCtorEq, Nat.reduceEqDiff, ↓reduceIte, Int.reduceEq, Int.reduceLT, Int.reduceLE, Nat.reduceAdd]
  refine (law5 er q5 ha g3).mono ?_
  rintro r H4 ⟨rfl, g4⟩
  simp only [f1, f2, f3, SX, Opd.ev, resVal, resVals, ARes.val, Bool.false_eq_true, Bool.not_false, Bool.not_true, List.getD_cons_succ, List.getD_cons_zero, List.map_cons, List.map_nil, Nat.add_zero, Nat.zero_add, Option.map_none, Option.map_some, Option.some.injEq, and_true, decide_false, decide_true, true_and, reduceCtorEq, Nat.reduceEqDiff, ↓reduceIte, Int.reduceEq, Int.reduceLT, Int.reduceLE, Nat.reduceAdd]
  refine (law5 er q5 ha g4).mono ?_
  rintro r H5 ⟨rfl, g5⟩
  simp only [SX, Opd.ev, resVal, resVals, ARes.val, Bool.false_eq_true, Bool.not_false, Bool.not_true, List.getD_cons_succ, List.getD_cons_zero, List.map_cons, List.map_nil, Nat.add_zero, Nat.zero_add, Option.map_none, Option.map_some, Option.some.injEq, and_true, decide_false, decide_true, true_and, reduceCtorEq, Nat.reduceEqDiff, ↓reduceIte, Int.reduceEq, Int.reduceLT, Int.reduceLE, Nat.reduceAdd]
end
end Go.Proofs.Yteockjhckmlclaa.AM
