/-
  EventsTell, EventsLong: the events of any bytes are the document's; the laws' walks on the abstract machine.
-/
import Derived.Test.YteockjhckmlclaaEvW
set_option linter.unusedVariables false
set_option linter.unusedSimpArgs false
namespace Go.Proofs.Yteockjhckmlclaa.AM
open Go

def RParC (p : Nat) (S : RSt) (cs : List Cel) : Prop := ∃ c : RCel, c.ok S ∧ cs = ⟨p, 1, rcs S c.tv⟩ :: c.tcl
theorem RPar.get {base : Nat} {H : AHeap} {p : Nat} {S : RSt} {l : List Cel} (h : RPar base H p S l) : ∃ cs, RParC p S cs ∧ Hp base H (cs ++ l) := by
  obtain ⟨c, ok, hp⟩ := h
  exact ⟨_, ⟨c, ok, rfl⟩, hp⟩
theorem RParC.par {base : Nat} {H : AHeap} {p : Nat} {S : RSt} {cs l : List Cel} (h : RParC p S cs) (hp : Hp base H (cs ++ l)) : RPar base H p S l := by
  obtain ⟨c, ok, rfl⟩ := h
  exact ⟨c, ok, hp⟩
section
variable {Q : Prog} (er : EvR Q) {H : AHeap} {s : List UInt8}
include er
set_option maxHeartbeats 8000000 in
theorem law5 (q5 : Q.fns 5 = some A5) (ha : Q.orc 11 [] = some (.bool true)) (hf : Fr H) :
    FnTo Q 5 [.str s] H (fun r H' => r = .bool true ∧ Fr H') := by
  refine fn_wp (er.eq.ho 5 rfl _) q5 (by simp [A5]) ?_
  simp only [A5, SX, Opd.ev, resVal, resVals, ARes.val, Bool.false_eq_true, Bool.not_false, Bool.not_true, List.getD_cons_succ, List.getD_cons_zero, List.map_cons, List.map_nil, Nat.add_zero, Nat.zero_add, Option.map_none, Option.map_some, Option.some.injEq, and_true, decide_false, decide_true, true_and, reduceCtorEq, Nat.reduceEqDiff, ↓reduceIte, Int.reduceEq, Int.reduceLT, Int.reduceLE, Nat.reduceAdd]
  refine fn_orc ha ?_
  by_cases c1 : (5000 : Int) < s.length
  · simp only [c1, SX, Opd.ev, resVal, resVals, ARes.val, Bool.false_eq_true, Bool.not_false, Bool.not_true, List.getD_cons_succ, List.getD_cons_zero, List.map_cons, List.map_nil, Nat.add_zero, Nat.zero_add, Option.map_none, Option.map_some, Option.some.injEq, and_true, decide_false, decide_true, true_and, reduceCtorEq, Nat.reduceEqDiff, ↓reduceIte, Int.reduceEq, Int.reduceLT, Int.reduceLE, Nat.reduceAdd]
    exact hf
  obtain ⟨H1, s1, p1, k1⟩ := RPar.init (Hp.nil H hf)
  simp only [c1, run_build0, run_box, boxR, s1, SX, Opd.ev, resVal, resVals, ARes.val, Bool.false_eq_true, Bool.not_false, Bool.not_true, List.getD_cons_succ, List.getD_cons_zero, List.map_cons, List.map_nil, Nat.add_zero, Nat.zero_add, Option.map_none, Option.map_some, Option.some.injEq, and_true, decide_false, decide_true, true_and, reduceCtorEq, Nat.reduceEqDiff, ↓reduceIte, Int.reduceEq, Int.reduceLT, Int.reduceLE, Nat.reduceAdd]
  obtain ⟨I, hI⟩ : ∃ I : Nat → Env → AHeap → Prop, ∀ m e H', I m e H' ↔ (Keep H.next H H' ∧ ∃ i : Nat, m = s.length - i ∧ i ≤ s.length ∧ RPar H.next H' H.next (RSt.new.feed (s.take i)) [] ∧ Env.get e 0 = .str s ∧ Env.get e 3 = .ptr H.next 0 ∧ Env.get e 4 = .int .i64 i) := ⟨_, fun _ _ _ => Iff.rfl⟩
  refine loop_by I s.length ?_ ?_
  · refine (hI _ _ _).2 ⟨k1, 0, rfl, by omega, by rw [List.take_zero]; exact p1, ?_⟩
    simp only [SX, Opd.ev, resVal, resVals, ARes.val, Bool.false_eq_true, Bool.not_false, Bool.not_true, List.getD_cons_succ, List.getD_cons_zero, List.map_cons, List.map_nil, Nat.add_zero, Nat.zero_add, Option.map_none, Option.map_some, Option.some.injEq, and_true, decide_false, decide_true, true_and, reduceCtorEq, Nat.reduceEqDiff, ↓reduceIte, Int.reduceEq, Int.reduceLT, Int.reduceLE, Nat.reduceAdd]; rfl
  · intro m e H2 hinv
    obtain ⟨k2, i, rfl, hi, p2, e0, e3, e4⟩ := (hI _ _ _).1 hinv
    obtain ⟨q1, q2, q3, q4⟩ := rfeed_facts (s.take i)
    have hil : (s.take i).length = i := by simp; omega
    rw [hil] at q3 q4
    by_cases d : (i : Int) < s.length
    · obtain ⟨b, hb⟩ : ∃ b, s[i]? = some b := ⟨_, List.getElem?_eq_getElem (by omega)⟩
      have hix := idxStr_at hb .i64
      have w1 : IntKind.wrap .i64 ((i : Int) + 1) = ((i + 1 : Nat) : Int) := by rw [wrapI64 (by omega) (by omega)]; rfl
      simp only [e0, e3, e4, lngV_str, d, hix, SX, Opd.ev, resVal, resVals, ARes.val, Bool.false_eq_true, Bool.not_false, Bool.not_true, List.getD_cons_succ, List.getD_cons_zero, List.map_cons, List.map_nil, Nat.add_zero, Nat.zero_add, Option.map_none, Option.map_some, Option.some.injEq, and_true, decide_false, decide_true, true_and, reduceCtorEq, Nat.reduceEqDiff, ↓reduceIte, Int.reduceEq, Int.reduceLT, Int.reduceLE, Nat.reduceAdd]
      refine (byteR_spec er q1 q2 q3 (by omega) p2 (by omega)).mono ?_
      rintro r H3 ⟨p3, k3⟩
      simp only [e0, e3, e4, w1, SX, Opd.ev, resVal, resVals, ARes.val, Bool.false_eq_true, Bool.not_false, Bool.not_true, List.getD_cons_succ, List.getD_cons_zero, List.map_cons, List.map_nil, Nat.add_zero, Nat.zero_add, Option.map_none, Option.map_some, Option.some.injEq, and_true, decide_false, decide_true, true_and, reduceCtorEq, Nat.reduceEqDiff, ↓reduceIte, Int.reduceEq, Int.reduceLT, Int.reduceLE, Nat.reduceAdd]
      refine ⟨s.length - (i + 1), by omega, (hI _ _ _).2 ⟨k2.trans k3, i + 1, rfl, by omega, by rw [rfeed_snoc _ _ hb]; exact p3, ?_⟩⟩
      simp only [e0, e3, e4, SX, Opd.ev, resVal, resVals, ARes.val, Bool.false_eq_true, Bool.not_false, Bool.not_true, List.getD_cons_succ, List.getD_cons_zero, List.map_cons, List.map_nil, Nat.add_zero, Nat.zero_add, Option.map_none, Option.map_some, Option.some.injEq, and_true, decide_false, decide_true, true_and, reduceCtorEq, Nat.reduceEqDiff, ↓reduceIte, Int.reduceEq, Int.reduceLT, Int.reduceLE, Nat.reduceAdd]
    · have hil2 : i = s.length := by omega
      rw [hil2, List.take_length] at p2 q1 q2 q3 q4
      have sm := Sm.feed (t := s) sm_new
      obtain ⟨gd1, tl1, tx1⟩ := Good.feed (t := s) new_good
      have hn0 : PSt.new.told.length = 0 ∧ PSt.new.text.length = 0 := ⟨rfl, rfl⟩
      have ok1 : TOk (PSt.new.feed s) := TOk.feed new_good new_ok
      have hT : refTold s = ((PSt.new.feed s).endS).told := by
        unfold refTold
        rw [sm.o.endS.told]
      obtain ⟨rc, rpc, hp2⟩ := p2.get
      rw [List.append_nil] at hp2
      simp only [e0, e3, e4, lngV_str, d, SX, Opd.ev, resVal, resVals, ARes.val, Bool.false_eq_true, Bool.not_false, Bool.not_true, List.getD_cons_succ, List.getD_cons_zero, List.map_cons, List.map_nil, Nat.add_zero, Nat.zero_add, Option.map_none, Option.map_some, Option.some.injEq, and_true, decide_false, decide_true, true_and, reduceCtorEq, Nat.reduceEqDiff, ↓reduceIte, Int.reduceEq, Int.reduceLT, Int.reduceLE, Nat.reduceAdd]
      refine (new_spec er.eq er.q13 hp2).mono ?_
      rintro r H3 ⟨p, rfl, par3, k3⟩
      simp only [e0, e3, e4, SX, Opd.ev, resVal, resVals, ARes.val, Bool.false_eq_true, Bool.not_false, Bool.not_true, List.getD_cons_succ, List.getD_cons_zero, List.map_cons, List.map_nil, Nat.add_zero, Nat.zero_add, Option.map_none, Option.map_some, Option.some.injEq, and_true, decide_false, decide_true, true_and, reduceCtorEq, Nat.reduceEqDiff, ↓reduceIte, Int.reduceEq, Int.reduceLT, Int.reduceLE, Nat.reduceAdd]
      refine (feed_spec er.eq (t := s) new_good par3 (by omega) (by omega)).mono ?_
      rintro r H4 ⟨par4, k4⟩
      obtain ⟨S1, hS1⟩ : ∃ S1, PSt.new.feed s = S1 := ⟨_, rfl⟩
      obtain ⟨R1, hR1⟩ : ∃ R1, RSt.new.feed s = R1 := ⟨_, rfl⟩
      rw [hS1] at par4 gd1 tl1 tx1 ok1 sm hT
      rw [hR1] at rpc sm
      have ldR : ∀ (H' : AHeap) (l : List Cel), Hp H.next H' l → (∀ x ∈ rc, x ∈ l) → loadV H' Option.none (.ptr H.next 0) = some (.int .i64 R1.st) ∧ loadV H' Option.none (.ptr H.next 1) = some (.str R1.kept) := by
        intro H' l hl hsub
        obtain ⟨c, ok, rfl⟩ := rpc
        exact ⟨hl.load (b := H.next) (k := 1) (cs := rcs R1 c.tv) (hsub _ (by simp)) rfl, hl.load (b := H.next) (k := 1) (cs := rcs R1 c.tv) (hsub _ (by simp)) rfl⟩
      obtain ⟨r40, r41⟩ := ldR H4 rc par4.hp (fun x hx => hx)
      have hst := sm.o.st
      have hkp : (0 < S1.d.kept) ↔ ¬ R1.kept = [] := by
        have hn := sm.o.d.nil
        have hg := gd1.d
        constructor
        · intro h hh; have := hn.1 hh; omega
        · intro h
          have h0 : S1.d.kept ≠ 0 := fun hh => h (hn.2 hh)
          rcases sm.o.d with ⟨h1, _⟩ | ⟨L, _, c, t, h1, _, _, h2, _⟩
          · exact absurd h1 h
          · rw [h2, h1, List.length_cons]; omega
      have rest : ∀ e' : Env, Env.get e' 0 = .str s → Env.get e' 3 = .ptr H.next 0 → Env.get e' 5 = .ptr p 0 → ACode.wp Q A5_tail (fnK [.t 2] (fun r H' => r = .bool true ∧ Fr H')) e' H4 := by
        intro e' f0 f3 f5
        simp only [A5_tail, f0, f3, f5, SX, Opd.ev, resVal, resVals, ARes.val, Bool.false_eq_true, Bool.not_false, Bool.not_true, List.getD_cons_succ, List.getD_cons_zero, List.map_cons, List.map_nil, Nat.add_zero, Nat.zero_add, Option.map_none, Option.map_some, Option.some.injEq, and_true, decide_false, decide_true, true_and, reduceCtorEq, Nat.reduceEqDiff, ↓reduceIte, Int.reduceEq, Int.reduceLT, Int.reduceLE, Nat.reduceAdd]
        refine (endS_spec er.eq par4 (by omega)).mono ?_
        rintro r H6 ⟨par6, k6⟩
        have tl6 : S1.endS.told.length ≤ 30000 := by
          unfold PSt.endS; split <;> first | omega | (simp; omega)
        have ok6 : TOk S1.endS := ok1.endS
        simp only [f0, f3, f5, SX, Opd.ev, resVal, resVals, ARes.val, Bool.false_eq_true, Bool.not_false, Bool.not_true, List.getD_cons_succ, List.getD_cons_zero, List.map_cons, List.map_nil, Nat.add_zero, Nat.zero_add, Option.map_none, Option.map_some, Option.some.injEq, and_true, decide_false, decide_true, true_and, reduceCtorEq, Nat.reduceEqDiff, ↓reduceIte, Int.reduceEq, Int.reduceLT, Int.reduceLE, Nat.reduceAdd]
        refine (take_spec er.eq er.q15 par6 (by omega)).mono ?_
        rintro r7 H7 ⟨k7, F, fcl, tF, hF, pF, par7⟩
        obtain ⟨pc, ppc, hp7⟩ := par7.get
        simp only [f0, f3, f5, SX, Opd.ev, resVal, resVals, ARes.val, Bool.false_eq_true, Bool.not_false, Bool.not_true, List.getD_cons_succ, List.getD_cons_zero, List.map_cons, List.map_nil, Nat.add_zero, Nat.zero_add, Option.map_none, Option.map_some, Option.some.injEq, and_true, decide_false, decide_true, true_and, reduceCtorEq, Nat.reduceEqDiff, ↓reduceIte, Int.reduceEq, Int.reduceLT, Int.reduceLE, Nat.reduceAdd]
        refine (allR_spec er (t := s) (by omega) hp7).mono ?_
        rintro r8 H8 ⟨G, gcl, tG, hG, pG, hp8, k8⟩
        simp only [f0, f3, f5, SX, Opd.ev, resVal, resVals, ARes.val, Bool.false_eq_true, Bool.not_false, Bool.not_true, List.getD_cons_succ, List.getD_cons_zero, List.map_cons, List.map_nil, Nat.add_zero, Nat.zero_add, Option.map_none, Option.map_some, Option.some.injEq, and_true, decide_false, decide_true, true_and, reduceCtorEq, Nat.reduceEqDiff, ↓reduceIte, Int.reduceEq, Int.reduceLT, Int.reduceLE, Nat.reduceAdd]
        have heq : F.map (fun a => a.1.pure) = G.map (fun a => a.1.pure) := by rw [hF, hG, hT]
        refine (sameAll_spec er.eq (A := A20) rfl (f := 20) rfl er.q20 er.q12 er.q25 er.q26 hp8 tF tG (fun x hx => ?_) (fun x hx => ?_) pF pG heq ?_ ?_).mono ?_
        · exact List.mem_append_right _ (List.mem_append_right _ (List.mem_append_left _ hx))
        · exact List.mem_append_left _ hx
        · intro a ha
          refine ok6 _ ?_
          rw [← hF]
          exact List.mem_map.2 ⟨a, ha, rfl⟩
        · have : F.length = S1.endS.told.length := by rw [← hF]; simp
          omega
        rintro r9 H9 ⟨rfl, g9⟩
        have hp9 := hp8.keep g9.keep g9.next g9.fr
        obtain ⟨r90, r91⟩ := ldR H9 _ hp9 (fun x hx => List.mem_append_right _ (List.mem_append_right _ (List.mem_append_right _ hx)))
        simp only [f0, f3, f5, r90, SX, Opd.ev, resVal, resVals, ARes.val, Bool.false_eq_true, Bool.not_false, Bool.not_true, List.getD_cons_succ, List.getD_cons_zero, List.map_cons, List.map_nil, Nat.add_zero, Nat.zero_add, Option.map_none, Option.map_some, Option.some.injEq, and_true, decide_false, decide_true, true_and, reduceCtorEq, Nat.reduceEqDiff, ↓reduceIte, Int.reduceEq, Int.reduceLT, Int.reduceLE, Nat.reduceAdd]
        refine (state_spec er.eq (ppc.par (l := gcl ++ (fcl ++ rc)) (hp9.re fun a => by simp only [cnt_append]; omega))).mono ?_
        rintro r H10 ⟨rfl, rfl⟩
        refine ⟨by simp only [echoOk, SX, Opd.ev, resVal, resVals, ARes.val, Bool.false_eq_true, Bool.not_false, Bool.not_true, List.getD_cons_succ, List.getD_cons_zero, List.map_cons, List.map_nil, Nat.add_zero, Nat.zero_add, Option.map_none, Option.map_some, Option.some.injEq, and_true, decide_false, decide_true, true_and, reduceCtorEq, Nat.reduceEqDiff, ↓reduceIte, Int.reduceEq, Int.reduceLT, Int.reduceLE, Nat.reduceAdd, r90]; simp [AV.same, AV.same1], ?_⟩
        have hes : S1.endS.st = R1.st := by
          have : S1.endS.st = S1.st := by unfold PSt.endS; split <;> rfl
          rw [this, hst]
        have de : decide (S1.endS.st = R1.st) = true := by simp [hes]
        simp only [f0, f3, f5, r90, de, SX, Opd.ev, resVal, resVals, ARes.val, Bool.false_eq_true, Bool.not_false, Bool.not_true, List.getD_cons_succ, List.getD_cons_zero, List.map_cons, List.map_nil, Nat.add_zero, Nat.zero_add, Option.map_none, Option.map_some, Option.some.injEq, and_true, decide_false, decide_true, true_and, reduceCtorEq, Nat.reduceEqDiff, ↓reduceIte, Int.reduceEq, Int.reduceLT, Int.reduceLE, Nat.reduceAdd]
        exact hp9.fr
      have bff : xor true (false == false) = false := rfl
      have btt : xor true (true == true) = false := rfl
      by_cases d2 : R1.st = 0
      · have d2' : (!decide (R1.st = 0)) = false := by simp [d2]
        by_cases d3 : R1.kept = []
        · have d3' : (!decide (R1.kept = [])) = false := by simp [d3]
          have dw : decide (S1.st ≠ 0 ∨ 0 < S1.d.kept) = false := decide_eq_false (fun hh => hh.elim (fun x => x (hst.trans d2)) (fun x => hkp.1 x d3))
          simp only [e0, e3, e4, r40, SX, Opd.ev, resVal, resVals, ARes.val, Bool.false_eq_true, Bool.not_false, Bool.not_true, List.getD_cons_succ, List.getD_cons_zero, List.map_cons, List.map_nil, Nat.add_zero, Nat.zero_add, Option.map_none, Option.map_some, Option.some.injEq, and_true, decide_false, decide_true, true_and, reduceCtorEq, Nat.reduceEqDiff, ↓reduceIte, Int.reduceEq, Int.reduceLT, Int.reduceLE, Nat.reduceAdd]
          refine (state_spec er.eq par4).mono ?_
          rintro r H5 ⟨rfl, rfl⟩
          refine ⟨by simp only [echoOk, SX, Opd.ev, resVal, resVals, ARes.val, Bool.false_eq_true, Bool.not_false, Bool.not_true, List.getD_cons_succ, List.getD_cons_zero, List.map_cons, List.map_nil, Nat.add_zero, Nat.zero_add, Option.map_none, Option.map_some, Option.some.injEq, and_true, decide_false, decide_true, true_and, reduceCtorEq, Nat.reduceEqDiff, ↓reduceIte, Int.reduceEq, Int.reduceLT, Int.reduceLE, Nat.reduceAdd, r40]; simp [AV.same, AV.same1], ?_⟩
          have dst : (!decide (S1.st = R1.st)) = false := by simp [hst]
          simp only [e0, e3, e4, r40, dst, wantV_undef, SX, Opd.ev, resVal, resVals, ARes.val, Bool.false_eq_true, Bool.not_false, Bool.not_true, List.getD_cons_succ, List.getD_cons_zero, List.map_cons, List.map_nil, Nat.add_zero, Nat.zero_add, Option.map_none, Option.map_some, Option.some.injEq, and_true, decide_false, decide_true, true_and, reduceCtorEq, Nat.reduceEqDiff, ↓reduceIte, Int.reduceEq, Int.reduceLT, Int.reduceLE, Nat.reduceAdd]
          refine (waits_spec er.eq par4).mono ?_
          rintro r H5' ⟨rfl, rfl⟩
          refine ⟨by simp only [echoOk, SX, Opd.ev, resVal, resVals, ARes.val, Bool.false_eq_true, Bool.not_false, Bool.not_true, List.getD_cons_succ, List.getD_cons_zero, List.map_cons, List.map_nil, Nat.add_zero, Nat.zero_add, Option.map_none, Option.map_some, Option.some.injEq, and_true, decide_false, decide_true, true_and, reduceCtorEq, Nat.reduceEqDiff, ↓reduceIte, Int.reduceEq, Int.reduceLT, Int.reduceLE, Nat.reduceAdd, r40, dst]; simp [AV.same, AV.same1], ?_⟩
          simp only [e0, e3, e4, r40, r41, dst, dw, bff, btt, d2', bin_neqb, d3', wantV_undef, SX, Opd.ev, resVal, resVals, ARes.val, Bool.false_eq_true, Bool.not_false, Bool.not_true, List.getD_cons_succ, List.getD_cons_zero, List.map_cons, List.map_nil, Nat.add_zero, Nat.zero_add, Option.map_none, Option.map_some, Option.some.injEq, and_true, decide_false, decide_true, true_and, reduceCtorEq, Nat.reduceEqDiff, ↓reduceIte, Int.reduceEq, Int.reduceLT, Int.reduceLE, Nat.reduceAdd]
          refine rest _ ?_ ?_ ?_ <;> simp only [e0, e3, e4, SX, Opd.ev, resVal, resVals, ARes.val, Bool.false_eq_true, Bool.not_false, Bool.not_true, List.getD_cons_succ, List.getD_cons_zero, List.map_cons, List.map_nil, Nat.add_zero, Nat.zero_add, Option.map_none, Option.map_some, Option.some.injEq, and_true, decide_false, decide_true, true_and, reduceCtorEq, Nat.reduceEqDiff, ↓reduceIte, Int.reduceEq, Int.reduceLT, Int.reduceLE, Nat.reduceAdd]
        · have d3' : (!decide (R1.kept = [])) = true := by simp [d3]
          have dw : decide (S1.st ≠ 0 ∨ 0 < S1.d.kept) = true := decide_eq_true (.inr (hkp.2 d3))
          simp only [e0, e3, e4, r40, SX, Opd.ev, resVal, resVals, ARes.val, Bool.false_eq_true, Bool.not_false, Bool.not_true, List.getD_cons_succ, List.getD_cons_zero, List.map_cons, List.map_nil, Nat.add_zero, Nat.zero_add, Option.map_none, Option.map_some, Option.some.injEq, and_true, decide_false, decide_true, true_and, reduceCtorEq, Nat.reduceEqDiff, ↓reduceIte, Int.reduceEq, Int.reduceLT, Int.reduceLE, Nat.reduceAdd]
          refine (state_spec er.eq par4).mono ?_
          rintro r H5 ⟨rfl, rfl⟩
          refine ⟨by simp only [echoOk, SX, Opd.ev, resVal, resVals, ARes.val, Bool.false_eq_true, Bool.not_false, Bool.not_true, List.getD_cons_succ, List.getD_cons_zero, List.map_cons, List.map_nil, Nat.add_zero, Nat.zero_add, Option.map_none, Option.map_some, Option.some.injEq, and_true, decide_false, decide_true, true_and, reduceCtorEq, Nat.reduceEqDiff, ↓reduceIte, Int.reduceEq, Int.reduceLT, Int.reduceLE, Nat.reduceAdd, r40]; simp [AV.same, AV.same1], ?_⟩
          have dst : (!decide (S1.st = R1.st)) = false := by simp [hst]
          simp only [e0, e3, e4, r40, dst, wantV_undef, SX, Opd.ev, resVal, resVals, ARes.val, Bool.false_eq_true, Bool.not_false, Bool.not_true, List.getD_cons_succ, List.getD_cons_zero, List.map_cons, List.map_nil, Nat.add_zero, Nat.zero_add, Option.map_none, Option.map_some, Option.some.injEq, and_true, decide_false, decide_true, true_and, reduceCtorEq, Nat.reduceEqDiff, ↓reduceIte, Int.reduceEq, Int.reduceLT, Int.reduceLE, Nat.reduceAdd]
          refine (waits_spec er.eq par4).mono ?_
          rintro r H5' ⟨rfl, rfl⟩
          refine ⟨by simp only [echoOk, SX, Opd.ev, resVal, resVals, ARes.val, Bool.false_eq_true, Bool.not_false, Bool.not_true, List.getD_cons_succ, List.getD_cons_zero, List.map_cons, List.map_nil, Nat.add_zero, Nat.zero_add, Option.map_none, Option.map_some, Option.some.injEq, and_true, decide_false, decide_true, true_and, reduceCtorEq, Nat.reduceEqDiff, ↓reduceIte, Int.reduceEq, Int.reduceLT, Int.reduceLE, Nat.reduceAdd, r40, dst]; simp [AV.same, AV.same1], ?_⟩
          simp only [e0, e3, e4, r40, r41, dst, dw, bff, btt, d2', bin_neqb, d3', wantV_undef, SX, Opd.ev, resVal, resVals, ARes.val, Bool.false_eq_true, Bool.not_false, Bool.not_true, List.getD_cons_succ, List.getD_cons_zero, List.map_cons, List.map_nil, Nat.add_zero, Nat.zero_add, Option.map_none, Option.map_some, Option.some.injEq, and_true, decide_false, decide_true, true_and, reduceCtorEq, Nat.reduceEqDiff, ↓reduceIte, Int.reduceEq, Int.reduceLT, Int.reduceLE, Nat.reduceAdd]
          refine rest _ ?_ ?_ ?_ <;> simp only [e0, e3, e4, SX, Opd.ev, resVal, resVals, ARes.val, Bool.false_eq_true, Bool.not_false, Bool.not_true, List.getD_cons_succ, List.getD_cons_zero, List.map_cons, List.map_nil, Nat.add_zero, Nat.zero_add, Option.map_none, Option.map_some, Option.some.injEq, and_true, decide_false, decide_true, true_and, reduceCtorEq, Nat.reduceEqDiff, ↓reduceIte, Int.reduceEq, Int.reduceLT, Int.reduceLE, Nat.reduceAdd]
      · have d2' : (!decide (R1.st = 0)) = true := by simp [d2]
        have dw : decide (S1.st ≠ 0 ∨ 0 < S1.d.kept) = true := decide_eq_true (.inl (fun x => d2 (hst.symm.trans x)))
        simp only [e0, e3, e4, r40, SX, Opd.ev, resVal, resVals, ARes.val, Bool.false_eq_true, Bool.not_false, Bool.not_true, List.getD_cons_succ, List.getD_cons_zero, List.map_cons, List.map_nil, Nat.add_zero, Nat.zero_add, Option.map_none, Option.map_some, Option.some.injEq, and_true, decide_false, decide_true, true_and, reduceCtorEq, Nat.reduceEqDiff, ↓reduceIte, Int.reduceEq, Int.reduceLT, Int.reduceLE, Nat.reduceAdd]
        refine (state_spec er.eq par4).mono ?_
        rintro r H5 ⟨rfl, rfl⟩
        refine ⟨by simp only [echoOk, SX, Opd.ev, resVal, resVals, ARes.val, Bool.false_eq_true, Bool.not_false, Bool.not_true, List.getD_cons_succ, List.getD_cons_zero, List.map_cons, List.map_nil, Nat.add_zero, Nat.zero_add, Option.map_none, Option.map_some, Option.some.injEq, and_true, decide_false, decide_true, true_and, reduceCtorEq, Nat.reduceEqDiff, ↓reduceIte, Int.reduceEq, Int.reduceLT, Int.reduceLE, Nat.reduceAdd, r40]; simp [AV.same, AV.same1], ?_⟩
        have dst : (!decide (S1.st = R1.st)) = false := by simp [hst]
        simp only [e0, e3, e4, r40, dst, wantV_undef, SX, Opd.ev, resVal, resVals, ARes.val, Bool.false_eq_true, Bool.not_false, Bool.not_true, List.getD_cons_succ, List.getD_cons_zero, List.map_cons, List.map_nil, Nat.add_zero, Nat.zero_add, Option.map_none, Option.map_some, Option.some.injEq, and_true, decide_false, decide_true, true_and, reduceCtorEq, Nat.reduceEqDiff, ↓reduceIte, Int.reduceEq, Int.reduceLT, Int.reduceLE, Nat.reduceAdd]
        refine (waits_spec er.eq par4).mono ?_
        rintro r H5' ⟨rfl, rfl⟩
        refine ⟨by simp only [echoOk, SX, Opd.ev, resVal, resVals, ARes.val, Bool.false_eq_true, Bool.not_false, Bool.not_true, List.getD_cons_succ, List.getD_cons_zero, List.map_cons, List.map_nil, Nat.add_zero, Nat.zero_add, Option.map_none, Option.map_some, Option.some.injEq, and_true, decide_false, decide_true, true_and, reduceCtorEq, Nat.reduceEqDiff, ↓reduceIte, Int.reduceEq, Int.reduceLT, Int.reduceLE, Nat.reduceAdd, r40, dst]; simp [AV.same, AV.same1], ?_⟩
        simp only [e0, e3, e4, r40, r41, dst, dw, bff, btt, d2', bin_neqb, wantV_undef, SX, Opd.ev, resVal, resVals, ARes.val, Bool.false_eq_true, Bool.not_false, Bool.not_true, List.getD_cons_succ, List.getD_cons_zero, List.map_cons, List.map_nil, Nat.add_zero, Nat.zero_add, Option.map_none, Option.map_some, Option.some.injEq, and_true, decide_false, decide_true, true_and, reduceCtorEq, Nat.reduceEqDiff, ↓reduceIte, Int.reduceEq, Int.reduceLT, Int.reduceLE, Nat.reduceAdd]
        refine rest _ ?_ ?_ ?_ <;> simp only [e0, e3, e4, SX, Opd.ev, resVal, resVals, ARes.val, Bool.false_eq_true, Bool.not_false, Bool.not_true, List.getD_cons_succ, List.getD_cons_zero, List.map_cons, List.map_nil, Nat.add_zero, Nat.zero_add, Option.map_none, Option.map_some, Option.some.injEq, and_true, decide_false, decide_true, true_and, reduceCtorEq, Nat.reduceEqDiff, ↓reduceIte, Int.reduceEq, Int.reduceLT, Int.reduceLE, Nat.reduceAdd]
end
end Go.Proofs.Yteockjhckmlclaa.AM
