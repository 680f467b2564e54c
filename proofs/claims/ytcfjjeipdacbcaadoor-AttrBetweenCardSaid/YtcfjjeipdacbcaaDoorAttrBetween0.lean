/-
  The law AttrBetween, walked on the abstract machine.
-/
import Derived.Test.YtcfjjeipdacbcaaDoorBtAll
set_option linter.unusedVariables false
set_option linter.unusedSimpArgs false
namespace Go.Proofs.YtcfjjeipdacbcaaDoor.AM
open Go
theorem betP_eq {a b : At} (hb : 0 ≤ b.fl) : betP a b (sA b.fl 8) = betP a b (sD b.fl 9) := by
  unfold betP
  split
  · rfl
  · rename_i h
    have hr : rightP b = true := by
      cases hr : rightP b with
      | true => rfl
      | false => exact absurd (.inr hr) h
    simp only [rightP, Bool.and_eq_true, decide_eq_true_eq] at hr
    rw [sEq hb hr.1]
theorem bin_eqlS (a : List UInt8) : binV .eql (.str a) (.str a) = some (.bool true) := by simp [binV, strBin]
set_option maxHeartbeats 4000000 in
theorem law7 {Q : Prog} (bq : BtQ Q) (h7 : Q.fns 7 = some A7) (yes : Q.orc 16 [] = some (.bool true)) {H : AHeap} (ht : hasTabs H TT = true) {a b : At} (hb0 : 0 ≤ b.fl) (hb1 : 0 ≤ b.fn) (hb2 : 0 ≤ b.bn) (hf : Fr H) : FnTo Q 7 [a.val, b.val] H (fun r _ => r = .bool true) := by
  refine fn_wp (bq.at_.ho 7 rfl _) h7 (by simp [A7]) ?_
  obtain ⟨H1, s1, h1, k1⟩ := (Hp.nil H hf).make a.cs 5
  obtain ⟨H2, s2, h2, k2⟩ := h1.make b.cs 5
  have g2 : Gr H H2 := h2.gr (k1.trans k2)
  have ht2 := g2.tabs hf ht
  have la : ∀ {H'}, Gr H2 H' → loadV H' (some 5) (.ptr H.next 0) = some a.val := fun {H'} g => (h2.keep g.keep g.next g.fr).loadN (k := 5) (List.mem_of_getElem? (i := 1) rfl) rfl
  have lb : ∀ {H'}, Gr H2 H' → loadV H' (some 5) (.ptr H1.next 0) = some b.val := fun {H'} g => (h2.keep g.keep g.next g.fr).loadN (k := 5) (List.mem_of_getElem? (i := 0) rfl) rfl
  simp only [A7, box_at, run_box, run_allocL, s1, s2, SX, Opd.ev, resVal, resVals, ARes.val, Bool.false_eq_true, Bool.not_false, Bool.not_true, List.getD_cons_succ, List.getD_cons_zero, List.map_cons, List.map_nil, Nat.add_zero, Nat.zero_add, Option.map_none, Option.map_some, Option.some.injEq, and_true, decide_false, decide_true, true_and, reduceCtorEq, Nat.reduceEqDiff, ↓reduceIte, Int.reduceEq, Int.reduceLT, Int.reduceLE, Nat.reduceAdd]
  refine fn_orc yes (by rw [bq.tb]; exact ht2) ?_
  have la0 := la (Gr.refl g2.fr)
  have lb0 := lb (Gr.refl g2.fr)
  simp only [la0, lb0, wantV_undef, SX, Opd.ev, resVal, resVals, ARes.val, Bool.false_eq_true, Bool.not_false, Bool.not_true, List.getD_cons_succ, List.getD_cons_zero, List.map_cons, List.map_nil, Nat.add_zero, Nat.zero_add, Option.map_none, Option.map_some, Option.some.injEq, and_true, decide_false, decide_true, true_and, reduceCtorEq, Nat.reduceEqDiff, ↓reduceIte, Int.reduceEq, Int.reduceLT, Int.reduceLE, Nat.reduceAdd]
  refine (between_spec bq (a := a) (b := b) hb1 hb2 g2.fr ht2).mono ?_
  rintro _ H3 ⟨rfl, g3⟩
  have la3 := la g3
  have lb3 := lb g3
  refine ⟨by simp only [echoOk, la3, lb3, same_at, Bool.and_self, SX, Opd.ev, resVal, resVals, ARes.val, Bool.false_eq_true, Bool.not_false, Bool.not_true, List.getD_cons_succ, List.getD_cons_zero, List.map_cons, List.map_nil, Nat.add_zero, Nat.zero_add, Option.map_none, Option.map_some, Option.some.injEq, and_true, decide_false, decide_true, true_and, reduceCtorEq, Nat.reduceEqDiff, ↓reduceIte, Int.reduceEq, Int.reduceLT, Int.reduceLE, Nat.reduceAdd], ?_⟩
  simp only [wantV_undef, SX, Opd.ev, resVal, resVals, ARes.val, Bool.false_eq_true, Bool.not_false, Bool.not_true, List.getD_cons_succ, List.getD_cons_zero, List.map_cons, List.map_nil, Nat.add_zero, Nat.zero_add, Option.map_none, Option.map_some, Option.some.injEq, and_true, decide_false, decide_true, true_and, reduceCtorEq, Nat.reduceEqDiff, ↓reduceIte, Int.reduceEq, Int.reduceLT, Int.reduceLE, Nat.reduceAdd]
  refine (betweenR_spec bq (a := a) (b := b) hb1 hb2 g3.fr).mono ?_
  rintro _ H4 ⟨rfl, g4⟩
  rw [betP_eq hb0]
  have la4 := la (g3.trans g4)
  simp only [bin_eqlS, la4, wantV_undef, SX, Opd.ev, resVal, resVals, ARes.val, Bool.false_eq_true, Bool.not_false, Bool.not_true, List.getD_cons_succ, List.getD_cons_zero, List.map_cons, List.map_nil, Nat.add_zero, Nat.zero_add, Option.map_none, Option.map_some, Option.some.injEq, and_true, decide_false, decide_true, true_and, reduceCtorEq, Nat.reduceEqDiff, ↓reduceIte, Int.reduceEq, Int.reduceLT, Int.reduceLE, Nat.reduceAdd]
  refine (right_spec bq.at_ a g4.fr).mono ?_
  rintro _ H5 ⟨rfl, g5⟩
  have la5 := la ((g3.trans g4).trans g5)
  refine ⟨by simp only [echoOk, la5, same_at, Bool.and_self, wantV_undef, SX, Opd.ev, resVal, resVals, ARes.val, Bool.false_eq_true, Bool.not_false, Bool.not_true, List.getD_cons_succ, List.getD_cons_zero, List.map_cons, List.map_nil, Nat.add_zero, Nat.zero_add, Option.map_none, Option.map_some, Option.some.injEq, and_true, decide_false, decide_true, true_and, reduceCtorEq, Nat.reduceEqDiff, ↓reduceIte, Int.reduceEq, Int.reduceLT, Int.reduceLE, Nat.reduceAdd], ?_⟩
  simp only [wantV_undef, SX, Opd.ev, resVal, resVals, ARes.val, Bool.false_eq_true, Bool.not_false, Bool.not_true, List.getD_cons_succ, List.getD_cons_zero, List.map_cons, List.map_nil, Nat.add_zero, Nat.zero_add, Option.map_none, Option.map_some, Option.some.injEq, and_true, decide_false, decide_true, true_and, reduceCtorEq, Nat.reduceEqDiff, ↓reduceIte, Int.reduceEq, Int.reduceLT, Int.reduceLE, Nat.reduceAdd]
  refine (rightR_spec bq.at_ a g5.fr).mono ?_
  rintro _ H6 ⟨rfl, g6⟩
  have lb6 := lb (((g3.trans g4).trans g5).trans g6)
  have beq : ∀ x : Bool, beqV false (.bool x) (.bool x) = some (.bool true) := fun x => by cases x <;> rfl
  simp only [beq, lb6, wantV_undef, SX, Opd.ev, resVal, resVals, ARes.val, Bool.false_eq_true, Bool.not_false, Bool.not_true, List.getD_cons_succ, List.getD_cons_zero, List.map_cons, List.map_nil, Nat.add_zero, Nat.zero_add, Option.map_none, Option.map_some, Option.some.injEq, and_true, decide_false, decide_true, true_and, reduceCtorEq, Nat.reduceEqDiff, ↓reduceIte, Int.reduceEq, Int.reduceLT, Int.reduceLE, Nat.reduceAdd]
  refine (right_spec bq.at_ b g6.fr).mono ?_
  rintro _ H7 ⟨rfl, g7⟩
  have lb7 := lb ((((g3.trans g4).trans g5).trans g6).trans g7)
  refine ⟨by simp only [echoOk, lb7, same_at, Bool.and_self, wantV_undef, SX, Opd.ev, resVal, resVals, ARes.val, Bool.false_eq_true, Bool.not_false, Bool.not_true, List.getD_cons_succ, List.getD_cons_zero, List.map_cons, List.map_nil, Nat.add_zero, Nat.zero_add, Option.map_none, Option.map_some, Option.some.injEq, and_true, decide_false, decide_true, true_and, reduceCtorEq, Nat.reduceEqDiff, ↓reduceIte, Int.reduceEq, Int.reduceLT, Int.reduceLE, Nat.reduceAdd], ?_⟩
  simp only [wantV_undef, SX, Opd.ev, resVal, resVals, ARes.val, Bool.false_eq_true, Bool.not_false, Bool.not_true, List.getD_cons_succ, List.getD_cons_zero, List.map_cons, List.map_nil, Nat.add_zero, Nat.zero_add, Option.map_none, Option.map_some, Option.some.injEq, and_true, decide_false, decide_true, true_and, reduceCtorEq, Nat.reduceEqDiff, ↓reduceIte, Int.reduceEq, Int.reduceLT, Int.reduceLE, Nat.reduceAdd]
  refine (rightR_spec bq.at_ b g7.fr).mono ?_
  rintro _ H8 ⟨rfl, g8⟩
  simp only [beq, wantV_undef, resVal, resVals, ARes.val, SX, Opd.ev, resVal, resVals, ARes.val, Bool.false_eq_true, Bool.not_false, Bool.not_true, List.getD_cons_succ, List.getD_cons_zero, List.map_cons, List.map_nil, Nat.add_zero, Nat.zero_add, Option.map_none, Option.map_some, Option.some.injEq, and_true, decide_false, decide_true, true_and, reduceCtorEq, Nat.reduceEqDiff, ↓reduceIte, Int.reduceEq, Int.reduceLT, Int.reduceLE, Nat.reduceAdd]
end Go.Proofs.YtcfjjeipdacbcaaDoor.AM
