/-
  The law AttrApplies, walked on the abstract machine.
-/
import Derived.Test.YtcfjjeipdacbcaaDoorAtAll
set_option linter.unusedVariables false
set_option linter.unusedSimpArgs false
namespace Go.Proofs.YtcfjjeipdacbcaaDoor.AM
open Go
theorem law5 {Q : Prog} (aq : AtQ Q) (h5 : Q.fns 5 = some A5) (yes : Q.orc 16 [] = some (.bool true)) (hT : Q.tabs = TT) {H : AHeap} (ht : hasTabs H TT = true) {a : At} (hfl : FlOk a.fl) {v : AV} {L : List (List Int)} (hv : IsL H v L) (hf : Fr H) : FnTo Q 5 [a.val, v] H (fun r _ => r = .bool true) := by
  refine fn_wp (aq.ho 5 rfl _) h5 (by simp [A5]) ?_
  obtain ⟨H1, s1, h1, k1⟩ := (Hp.nil H hf).make a.cs 5
  have g1 := h1.gr k1
  have hv1 := hv.grow hf g1
  have ht1 := g1.tabs hf ht
  simp only [A5, box_at, run_box, run_allocL, s1, SX, Opd.ev, resVal, resVals, ARes.val, Bool.false_eq_true, Bool.not_false, Bool.not_true, List.getD_cons_succ, List.getD_cons_zero, List.map_cons, List.map_nil, Nat.add_zero, Nat.zero_add, Option.map_none, Option.map_some, Option.some.injEq, and_true, decide_false, decide_true, true_and, reduceCtorEq, Nat.reduceEqDiff, ↓reduceIte, Int.reduceEq, Int.reduceLT, Int.reduceLE, Nat.reduceAdd]
  refine fn_orc yes (by rw [hT]; exact ht1) ?_
  simp only [SX, Opd.ev, resVal, resVals, ARes.val, Bool.false_eq_true, Bool.not_false, Bool.not_true, List.getD_cons_succ, List.getD_cons_zero, List.map_cons, List.map_nil, Nat.add_zero, Nat.zero_add, Option.map_none, Option.map_some, Option.some.injEq, and_true, decide_false, decide_true, true_and, reduceCtorEq, Nat.reduceEqDiff, ↓reduceIte, Int.reduceEq, Int.reduceLT, Int.reduceLE, Nat.reduceAdd]
  refine (great_spec aq hv1).mono ?_
  rintro _ H2 ⟨hx, rfl | ⟨rfl, hL, hp⟩⟩
  · simp only [resVal, resVals, ARes.val, SX, Opd.ev, resVal, resVals, ARes.val, Bool.false_eq_true, Bool.not_false, Bool.not_true, List.getD_cons_succ, List.getD_cons_zero, List.map_cons, List.map_nil, Nat.add_zero, Nat.zero_add, Option.map_none, Option.map_some, Option.some.injEq, and_true, decide_false, decide_true, true_and, reduceCtorEq, Nat.reduceEqDiff, ↓reduceIte, Int.reduceEq, Int.reduceLT, Int.reduceLE, Nat.reduceAdd]
  · replace hx := hx.symm
    subst hx
    have l5 : ∀ {H'}, Gr H1 H' → loadV H' (some 5) (.ptr H.next 0) = some a.val := fun {H'} g => (h1.keep g.keep g.next g.fr).loadN (List.mem_cons_self ..) rfl
    have l50 := l5 (Gr.refl g1.fr)
    simp only [l50, SX, Opd.ev, resVal, resVals, ARes.val, Bool.false_eq_true, Bool.not_false, Bool.not_true, List.getD_cons_succ, List.getD_cons_zero, List.map_cons, List.map_nil, Nat.add_zero, Nat.zero_add, Option.map_none, Option.map_some, Option.some.injEq, and_true, decide_false, decide_true, true_and, reduceCtorEq, Nat.reduceEqDiff, ↓reduceIte, Int.reduceEq, Int.reduceLT, Int.reduceLE, Nat.reduceAdd]
    refine (apply_spec aq (a := a) hv1 (by omega) (fun p h => by have := hp p h; omega) g1.fr ht1).mono ?_
    rintro _ H3 ⟨rfl, g3⟩
    have l53 := l5 g3
    refine ⟨by simp only [echoOk, l53, SX, Opd.ev, resVal, resVals, ARes.val, Bool.false_eq_true, Bool.not_false, Bool.not_true, List.getD_cons_succ, List.getD_cons_zero, List.map_cons, List.map_nil, Nat.add_zero, Nat.zero_add, Option.map_none, Option.map_some, Option.some.injEq, and_true, decide_false, decide_true, true_and, reduceCtorEq, Nat.reduceEqDiff, ↓reduceIte, Int.reduceEq, Int.reduceLT, Int.reduceLE, Nat.reduceAdd]; simp [same_at], ?_⟩
    simp only [SX, Opd.ev, resVal, resVals, ARes.val, Bool.false_eq_true, Bool.not_false, Bool.not_true, List.getD_cons_succ, List.getD_cons_zero, List.map_cons, List.map_nil, Nat.add_zero, Nat.zero_add, Option.map_none, Option.map_some, Option.some.injEq, and_true, decide_false, decide_true, true_and, reduceCtorEq, Nat.reduceEqDiff, ↓reduceIte, Int.reduceEq, Int.reduceLT, Int.reduceLE, Nat.reduceAdd]
    refine (applyR_spec aq (a := a) (hv1.grow g1.fr g3) (by omega) (fun p h => by have := hp p h; omega) g3.fr).mono ?_
    rintro _ H4 ⟨rfl, g4⟩
    have l54 := l5 (g3.trans g4)
    rw [applyRP_eq hfl]
    simp only [seq_at, l54, wantV_undef, SX, Opd.ev, resVal, resVals, ARes.val, Bool.false_eq_true, Bool.not_false, Bool.not_true, List.getD_cons_succ, List.getD_cons_zero, List.map_cons, List.map_nil, Nat.add_zero, Nat.zero_add, Option.map_none, Option.map_some, Option.some.injEq, and_true, decide_false, decide_true, true_and, reduceCtorEq, Nat.reduceEqDiff, ↓reduceIte, Int.reduceEq, Int.reduceLT, Int.reduceLE, Nat.reduceAdd]
    refine (right_spec aq a g4.fr).mono ?_
    rintro _ H5 ⟨rfl, g5⟩
    have l55 := l5 ((g3.trans g4).trans g5)
    refine ⟨by simp only [echoOk, l55, SX, Opd.ev, resVal, resVals, ARes.val, Bool.false_eq_true, Bool.not_false, Bool.not_true, List.getD_cons_succ, List.getD_cons_zero, List.map_cons, List.map_nil, Nat.add_zero, Nat.zero_add, Option.map_none, Option.map_some, Option.some.injEq, and_true, decide_false, decide_true, true_and, reduceCtorEq, Nat.reduceEqDiff, ↓reduceIte, Int.reduceEq, Int.reduceLT, Int.reduceLE, Nat.reduceAdd]; simp [same_at], ?_⟩
    simp only [SX, Opd.ev, resVal, resVals, ARes.val, Bool.false_eq_true, Bool.not_false, Bool.not_true, List.getD_cons_succ, List.getD_cons_zero, List.map_cons, List.map_nil, Nat.add_zero, Nat.zero_add, Option.map_none, Option.map_some, Option.some.injEq, and_true, decide_false, decide_true, true_and, reduceCtorEq, Nat.reduceEqDiff, ↓reduceIte, Int.reduceEq, Int.reduceLT, Int.reduceLE, Nat.reduceAdd]
    refine (rightR_spec aq a g5.fr).mono ?_
    rintro _ H6 ⟨rfl, g6⟩
    cases hb : rightP a <;> simp only [wantV_undef, resVal, resVals, ARes.val, SX, Opd.ev, resVal, resVals, ARes.val, Bool.false_eq_true, Bool.not_false, Bool.not_true, List.getD_cons_succ, List.getD_cons_zero, List.map_cons, List.map_nil, Nat.add_zero, Nat.zero_add, Option.map_none, Option.map_some, Option.some.injEq, and_true, decide_false, decide_true, true_and, reduceCtorEq, Nat.reduceEqDiff, ↓reduceIte, Int.reduceEq, Int.reduceLT, Int.reduceLE, Nat.reduceAdd] <;> rfl
end Go.Proofs.YtcfjjeipdacbcaaDoor.AM
