/-
  EventsNobody: a nil parser tells nothing, one that nobody made is like a new one; the law's walk on the abstract machine.
-/
import Derived.Test.YteockjhckmlclaaEvW
set_option linter.unusedVariables false
set_option linter.unusedSimpArgs false
namespace Go.Proofs.Yteockjhckmlclaa.AM
open Go
section
variable {Q : Prog} (er : EvR Q) {H : AHeap} {s : List UInt8}
include er
theorem feed_nil : FnTo Q 14 [.nilp, .str s] H (fun r H' => H' = H) := by
  refine fn_wp (er.eq.ho 14 rfl _) er.eq.q14 (by simp [A14]) ?_
  simp only [A14, resNil, SX, Opd.ev, resVal, resVals, ARes.val, Bool.false_eq_true, Bool.not_false, Bool.not_true, List.getD_cons_succ, List.getD_cons_zero, List.map_cons, List.map_nil, Nat.add_zero, Nat.zero_add, Option.map_none, Option.map_some, Option.some.injEq, and_true, decide_false, decide_true, true_and, reduceCtorEq, Nat.reduceEqDiff, ↓reduceIte, Int.reduceEq, Int.reduceLT, Int.reduceLE, Nat.reduceAdd]
theorem end_nil : FnTo Q 19 [.nilp] H (fun r H' => H' = H) := by
  refine fn_wp (er.eq.ho 19 rfl _) er.eq.q19 (by simp [A19]) ?_
  simp only [A19, resNil, SX, Opd.ev, resVal, resVals, ARes.val, Bool.false_eq_true, Bool.not_false, Bool.not_true, List.getD_cons_succ, List.getD_cons_zero, List.map_cons, List.map_nil, Nat.add_zero, Nat.zero_add, Option.map_none, Option.map_some, Option.some.injEq, and_true, decide_false, decide_true, true_and, reduceCtorEq, Nat.reduceEqDiff, ↓reduceIte, Int.reduceEq, Int.reduceLT, Int.reduceLE, Nat.reduceAdd]
theorem state_nil : FnTo Q 18 [.nilp] H (fun r H' => r = .int .i64 0 ∧ H' = H) := by
  refine fn_wp (er.eq.ho 18 rfl _) er.eq.q18 (by simp [A18]) ?_
  simp only [A18, SX, Opd.ev, resVal, resVals, ARes.val, Bool.false_eq_true, Bool.not_false, Bool.not_true, List.getD_cons_succ, List.getD_cons_zero, List.map_cons, List.map_nil, Nat.add_zero, Nat.zero_add, Option.map_none, Option.map_some, Option.some.injEq, and_true, decide_false, decide_true, true_and, reduceCtorEq, Nat.reduceEqDiff, ↓reduceIte, Int.reduceEq, Int.reduceLT, Int.reduceLE, Nat.reduceAdd]
theorem waits_nil : FnTo Q 16 [.nilp] H (fun r H' => r = .bool false ∧ H' = H) := by
  refine fn_wp (er.eq.ho 16 rfl _) er.eq.q16 (by simp [A16]) ?_
  simp only [A16, wantV_undef, SX, Opd.ev, resVal, resVals, ARes.val, Bool.false_eq_true, Bool.not_false, Bool.not_true, List.getD_cons_succ, List.getD_cons_zero, List.map_cons, List.map_nil, Nat.add_zero, Nat.zero_add, Option.map_none, Option.map_some, Option.some.injEq, and_true, decide_false, decide_true, true_and, reduceCtorEq, Nat.reduceEqDiff, ↓reduceIte, Int.reduceEq, Int.reduceLT, Int.reduceLE, Nat.reduceAdd]
set_option maxHeartbeats 2000000 in
theorem next_nil (hf : Fr H) : FnTo Q 22 [.nilp] H (fun r H' => r = .tup [.agg zeroE, .bool false] ∧ Fr H') := by
  refine fn_wp (er.eq.ho 22 rfl _) er.eq.q22 (by simp [A22]) ?_
  obtain ⟨H1, s1, g1, k1⟩ := (Hp.nil H hf).make zeroE 6
  obtain ⟨H2, s2, g2, k2, n2⟩ := g1.storeN (n := 6) (new := zeroE) rfl rfl rfl
  have l2 := g2.loadN (b := H.next) (k := 6) (cs := zeroE) (List.mem_cons_self ..) (n := 6) rfl
  simp only [A22, hzE, run_allocL, s1, wantV_undef, run_build0, s2, l2, resVal, resVals, ARes.val, SX, Opd.ev, resVal, resVals, ARes.val, Bool.false_eq_true, Bool.not_false, Bool.not_true, List.getD_cons_succ, List.getD_cons_zero, List.map_cons, List.map_nil, Nat.add_zero, Nat.zero_add, Option.map_none, Option.map_some, Option.some.injEq, and_true, decide_false, decide_true, true_and, reduceCtorEq, Nat.reduceEqDiff, ↓reduceIte, Int.reduceEq, Int.reduceLT, Int.reduceLE, Nat.reduceAdd]
  exact g2.fr
set_option maxHeartbeats 8000000 in
theorem law6 (q6 : Q.fns 6 = some A6) (ha : Q.orc 11 [] = some (.bool true)) (hf : Fr H) :
    FnTo Q 6 [.str s] H (fun r H' => r = .bool true) := by
  refine fn_wp (er.eq.ho 6 rfl _) q6 (by simp [A6]) ?_
  simp only [A6, SX, Opd.ev, resVal, resVals, ARes.val, Bool.false_eq_true, Bool.not_false, Bool.not_true, List.getD_cons_succ, List.getD_cons_zero, List.map_cons, List.map_nil, Nat.add_zero, Nat.zero_add, Option.map_none, Option.map_some, Option.some.injEq, and_true, decide_false, decide_true, true_and, reduceCtorEq, Nat.reduceEqDiff, ↓reduceIte, Int.reduceEq, Int.reduceLT, Int.reduceLE, Nat.reduceAdd]
  refine fn_orc ha ?_
  by_cases c1 : (2000 : Int) < s.length
  · simp only [c1, SX, Opd.ev, resVal, resVals, ARes.val, Bool.false_eq_true, Bool.not_false, Bool.not_true, List.getD_cons_succ, List.getD_cons_zero, List.map_cons, List.map_nil, Nat.add_zero, Nat.zero_add, Option.map_none, Option.map_some, Option.some.injEq, and_true, decide_false, decide_true, true_and, reduceCtorEq, Nat.reduceEqDiff, ↓reduceIte, Int.reduceEq, Int.reduceLT, Int.reduceLE, Nat.reduceAdd]
  simp only [c1, SX, Opd.ev, resVal, resVals, ARes.val, Bool.false_eq_true, Bool.not_false, Bool.not_true, List.getD_cons_succ, List.getD_cons_zero, List.map_cons, List.map_nil, Nat.add_zero, Nat.zero_add, Option.map_none, Option.map_some, Option.some.injEq, and_true, decide_false, decide_true, true_and, reduceCtorEq, Nat.reduceEqDiff, ↓reduceIte, Int.reduceEq, Int.reduceLT, Int.reduceLE, Nat.reduceAdd]
  refine (feed_nil er).mono ?_
  rintro r H1 rfl
  simp only [SX, Opd.ev, resVal, resVals, ARes.val, Bool.false_eq_true, Bool.not_false, Bool.not_true, List.getD_cons_succ, List.getD_cons_zero, List.map_cons, List.map_nil, Nat.add_zero, Nat.zero_add, Option.map_none, Option.map_some, Option.some.injEq, and_true, decide_false, decide_true, true_and, reduceCtorEq, Nat.reduceEqDiff, ↓reduceIte, Int.reduceEq, Int.reduceLT, Int.reduceLE, Nat.reduceAdd]
  refine (end_nil er).mono ?_
  rintro r H2 rfl
  simp only [SX, Opd.ev, resVal, resVals, ARes.val, Bool.false_eq_true, Bool.not_false, Bool.not_true, List.getD_cons_succ, List.getD_cons_zero, List.map_cons, List.map_nil, Nat.add_zero, Nat.zero_add, Option.map_none, Option.map_some, Option.some.injEq, and_true, decide_false, decide_true, true_and, reduceCtorEq, Nat.reduceEqDiff, ↓reduceIte, Int.reduceEq, Int.reduceLT, Int.reduceLE, Nat.reduceAdd]
  refine (next_nil er hf).mono ?_
  rintro r H3 ⟨rfl, f3⟩
  obtain ⟨H4, s4, g4, k4⟩ := (Hp.nil H3 f3).make zeroE 6
  obtain ⟨H5, s5, g5, k5, n5⟩ := g4.storeN (n := 6) (new := zeroE) rfl rfl rfl
  obtain ⟨H6, s6, g6, k6⟩ := g5.make zero15 1
  have hb : boxV (.agg zero15) = some (.row ⟨zero15, 0, false, true⟩, .ptr) := rfl
  have hz : [AV.int .i64 0, .int .i64 0, .int .u8 0, .int .u8 0, .int .i32 0, .int .i64 0, .nils, .bool false, .bool false, .str [], .bool false, .int .u8 0, .nils, .bool false, .nils] = zero15 := rfl
  simp only [ex0, ex1, hzE, hz, hb, run_allocL, run_build0, run_box, s4, s5, s6, SX, Opd.ev, resVal, resVals, ARes.val, Bool.false_eq_true, Bool.not_false, Bool.not_true, List.getD_cons_succ, List.getD_cons_zero, List.map_cons, List.map_nil, Nat.add_zero, Nat.zero_add, Option.map_none, Option.map_some, Option.some.injEq, and_true, decide_false, decide_true, true_and, reduceCtorEq, Nat.reduceEqDiff, ↓reduceIte, Int.reduceEq, Int.reduceLT, Int.reduceLE, Nat.reduceAdd]
  have par6 := par_new g6
  have sm := Sm.feed (t := s) sm_new
  obtain ⟨gd1, tl1, tx1⟩ := Good.feed (t := s) new_good
  have hn0 : PSt.new.told.length = 0 ∧ PSt.new.text.length = 0 := ⟨rfl, rfl⟩
  have ok1 : TOk (PSt.new.feed s) := TOk.feed new_good new_ok
  have hT : refTold s = ((PSt.new.feed s).endS).told := by
    unfold refTold
    rw [sm.o.endS.told]
  refine (feed_spec er.eq (t := s) new_good par6 (by omega) (by omega)).mono ?_
  rintro r H7 ⟨par7, k7⟩
  obtain ⟨S1, hS1⟩ : ∃ S1, PSt.new.feed s = S1 := ⟨_, rfl⟩
  rw [hS1] at par7 gd1 tl1 tx1 ok1 hT
  simp only [SX, Opd.ev, resVal, resVals, ARes.val, Bool.false_eq_true, Bool.not_false, Bool.not_true, List.getD_cons_succ, List.getD_cons_zero, List.map_cons, List.map_nil, Nat.add_zero, Nat.zero_add, Option.map_none, Option.map_some, Option.some.injEq, and_true, decide_false, decide_true, true_and, reduceCtorEq, Nat.reduceEqDiff, ↓reduceIte, Int.reduceEq, Int.reduceLT, Int.reduceLE, Nat.reduceAdd]
  refine (endS_spec er.eq par7 (by omega)).mono ?_
  rintro r H8 ⟨par8, k8⟩
  have tl6 : S1.endS.told.length ≤ 30000 := by
    unfold PSt.endS; split <;> first | omega | (simp; omega)
  have ok6 : TOk S1.endS := ok1.endS
  simp only [SX, Opd.ev, resVal, resVals, ARes.val, Bool.false_eq_true, Bool.not_false, Bool.not_true, List.getD_cons_succ, List.getD_cons_zero, List.map_cons, List.map_nil, Nat.add_zero, Nat.zero_add, Option.map_none, Option.map_some, Option.some.injEq, and_true, decide_false, decide_true, true_and, reduceCtorEq, Nat.reduceEqDiff, ↓reduceIte, Int.reduceEq, Int.reduceLT, Int.reduceLE, Nat.reduceAdd]
  refine (waits_nil er).mono ?_
  rintro r H9 ⟨rfl, rfl⟩
  simp only [SX, Opd.ev, resVal, resVals, ARes.val, Bool.false_eq_true, Bool.not_false, Bool.not_true, List.getD_cons_succ, List.getD_cons_zero, List.map_cons, List.map_nil, Nat.add_zero, Nat.zero_add, Option.map_none, Option.map_some, Option.some.injEq, and_true, decide_false, decide_true, true_and, reduceCtorEq, Nat.reduceEqDiff, ↓reduceIte, Int.reduceEq, Int.reduceLT, Int.reduceLE, Nat.reduceAdd]
  refine (state_nil er).mono ?_
  rintro r H10 ⟨rfl, rfl⟩
  have d0 : decide ((0 : Int) = 0) = true := rfl
  simp only [d0, SX, Opd.ev, resVal, resVals, ARes.val, Bool.false_eq_true, Bool.not_false, Bool.not_true, List.getD_cons_succ, List.getD_cons_zero, List.map_cons, List.map_nil, Nat.add_zero, Nat.zero_add, Option.map_none, Option.map_some, Option.some.injEq, and_true, decide_false, decide_true, true_and, reduceCtorEq, Nat.reduceEqDiff, ↓reduceIte, Int.reduceEq, Int.reduceLT, Int.reduceLE, Nat.reduceAdd]
  refine (take_spec er.eq er.q15 par8 (by omega)).mono ?_
  rintro r7 H11 ⟨k11, F, fcl, tF, hF, pF, par11⟩
  simp only [SX, Opd.ev, resVal, resVals, ARes.val, Bool.false_eq_true, Bool.not_false, Bool.not_true, List.getD_cons_succ, List.getD_cons_zero, List.map_cons, List.map_nil, Nat.add_zero, Nat.zero_add, Option.map_none, Option.map_some, Option.some.injEq, and_true, decide_false, decide_true, true_and, reduceCtorEq, Nat.reduceEqDiff, ↓reduceIte, Int.reduceEq, Int.reduceLT, Int.reduceLE, Nat.reduceAdd]
  refine (allR_spec er (t := s) (by omega) par11.hp).mono ?_
  rintro r8 H12 ⟨G, gcl, tG, hG, pG, hp12, k12⟩
  simp only [SX, Opd.ev, resVal, resVals, ARes.val, Bool.false_eq_true, Bool.not_false, Bool.not_true, List.getD_cons_succ, List.getD_cons_zero, List.map_cons, List.map_nil, Nat.add_zero, Nat.zero_add, Option.map_none, Option.map_some, Option.some.injEq, and_true, decide_false, decide_true, true_and, reduceCtorEq, Nat.reduceEqDiff, ↓reduceIte, Int.reduceEq, Int.reduceLT, Int.reduceLE, Nat.reduceAdd]
  have heq : F.map (fun a => a.1.pure) = G.map (fun a => a.1.pure) := by rw [hF, hG, hT]
  refine (sameAll_spec er.eq (A := A20) rfl (f := 20) rfl er.q20 er.q12 er.q25 er.q26 hp12 tF tG (fun x hx => ?_) (fun x hx => ?_) pF pG heq ?_ ?_).mono ?_
  · exact List.mem_append_right _ (List.mem_append_left _ hx)
  · exact List.mem_append_left _ hx
  · intro a ha
    refine ok6 _ ?_
    rw [← hF]
    exact List.mem_map.2 ⟨a, ha, rfl⟩
  · have : F.length = S1.endS.told.length := by rw [← hF]; simp
    omega
  rintro r9 H13 ⟨rfl, g13⟩
  simp only [SX, Opd.ev, resVal, resVals, ARes.val, Bool.false_eq_true, Bool.not_false, Bool.not_true, List.getD_cons_succ, List.getD_cons_zero, List.map_cons, List.map_nil, Nat.add_zero, Nat.zero_add, Option.map_none, Option.map_some, Option.some.injEq, and_true, decide_false, decide_true, true_and, reduceCtorEq, Nat.reduceEqDiff, ↓reduceIte, Int.reduceEq, Int.reduceLT, Int.reduceLE, Nat.reduceAdd]
end
end Go.Proofs.Yteockjhckmlclaa.AM
