/-
  EventsPieces: however bytes are cut, the events are the same; the law's walk on the abstract machine.
-/
import Derived.Test.YteockjhckmlclaaEvC
set_option linter.unusedVariables false
set_option linter.unusedSimpArgs false
namespace Go.Proofs.Yteockjhckmlclaa.AM
open Go
def slStrV (x : AV) (lo hi : Option AV) : Option AV := ROp.run ⟨0, .nil⟩ .nil (.slStr (.c x) (lo.map .c) (hi.map .c))
theorem run_slStr (H : AHeap) (e : Env) (x : Opd) (lo hi : Option Opd) : ROp.run H e (.slStr x lo hi) = slStrV (x.ev e) (lo.map (·.ev e)) (hi.map (·.ev e)) := by
  cases lo <;> cases hi <;> rfl
theorem slStr_take {s : List UInt8} {n : Nat} (h : n ≤ s.length) : slStrV (.str s) Option.none (some (.int .i64 n)) = some (.str (s.take n)) := by
  simp only [slStrV, ROp.run, Opd.ev, Option.map_some, Option.map_none, bounds, bound, if_pos (show 0 ≤ (n : Int) ∧ (n : Int) ≤ (s.length : Int) by omega), Int.toNat_natCast]
  simp
theorem slStr_drop {s : List UInt8} {n : Nat} (h : n ≤ s.length) : slStrV (.str s) (some (.int .i64 n)) Option.none = some (.str (s.drop n)) := by
  simp only [slStrV, ROp.run, Opd.ev, Option.map_some, Option.map_none, bounds, bound, if_pos (show 0 ≤ (n : Int) ∧ (n : Int) ≤ ((s.length : Nat) : Int) by omega), Int.toNat_natCast]
  simp
theorem isU8_grow {H H' : AHeap} {v : AV} {l : List Int} (h : IsSl (IsK .u8) H v l) (hf : Fr H) (g : Gr H H') : IsSl (IsK .u8) H' v l := IsSl.grow (R := IsK .u8) (H := H) (H' := H') (fun _ _ h => h) h hf g
theorem bin_rem (k : IntKind) (a b : Int) (h : b ≠ 0) : binV .rem (.int k a) (.int k b) = some (.int k (a.tmod b)) := by simp [binV, intBin, h]
section
variable {Q : Prog} (eq : EvQ Q) (q13 : Q.fns 13 = some A13) (q15 : Q.fns 15 = some A15) (q23 : Q.fns 23 = some A23) (q12 : Q.fns 12 = some A12) (q25 : Q.fns 25 = some A25) (q26 : Q.fns 26 = some A26) {H : AHeap} {v : AV} {cuts : List Int} {s : List UInt8}
include eq q13 q15 q23 q12 q25 q26
set_option maxHeartbeats 8000000 in
theorem law7 (q7 : Q.fns 7 = some A7) (ha : Q.orc 11 [] = some (.bool true)) (hf : Fr H) (hv : IsSl (IsK .u8) H v cuts) (hG : ∀ x ∈ cuts, 0 ≤ x ∧ x ≤ 255) :
    FnTo Q 7 [.str s, v] H (fun r H' => r = .bool true) := by
  refine fn_wp (eq.ho 7 rfl _) q7 (by simp [A7]) ?_
  have lv := hv.len
  simp only [A7, SX, Opd.ev, resVal, resVals, ARes.val, Bool.false_eq_true, Bool.not_false, Bool.not_true, List.getD_cons_succ, List.getD_cons_zero, List.map_cons, List.map_nil, Nat.add_zero, Nat.zero_add, Option.map_none, Option.map_some, Option.some.injEq, and_true, decide_false, decide_true, true_and, reduceCtorEq, Nat.reduceEqDiff, ↓reduceIte, Int.reduceEq, Int.reduceLT, Int.reduceLE, Nat.reduceAdd]
  refine fn_orc ha ?_
  by_cases c1 : (5000 : Int) < s.length
  · simp only [c1, SX, Opd.ev, resVal, resVals, ARes.val, Bool.false_eq_true, Bool.not_false, Bool.not_true, List.getD_cons_succ, List.getD_cons_zero, List.map_cons, List.map_nil, Nat.add_zero, Nat.zero_add, Option.map_none, Option.map_some, Option.some.injEq, and_true, decide_false, decide_true, true_and, reduceCtorEq, Nat.reduceEqDiff, ↓reduceIte, Int.reduceEq, Int.reduceLT, Int.reduceLE, Nat.reduceAdd]
  by_cases c2 : (300 : Int) < cuts.length
  · simp only [c1, lv, c2, SX, Opd.ev, resVal, resVals, ARes.val, Bool.false_eq_true, Bool.not_false, Bool.not_true, List.getD_cons_succ, List.getD_cons_zero, List.map_cons, List.map_nil, Nat.add_zero, Nat.zero_add, Option.map_none, Option.map_some, Option.some.injEq, and_true, decide_false, decide_true, true_and, reduceCtorEq, Nat.reduceEqDiff, ↓reduceIte, Int.reduceEq, Int.reduceLT, Int.reduceLE, Nat.reduceAdd]
  simp only [c1, lv, c2, SX, Opd.ev, resVal, resVals, ARes.val, Bool.false_eq_true, Bool.not_false, Bool.not_true, List.getD_cons_succ, List.getD_cons_zero, List.map_cons, List.map_nil, Nat.add_zero, Nat.zero_add, Option.map_none, Option.map_some, Option.some.injEq, and_true, decide_false, decide_true, true_and, reduceCtorEq, Nat.reduceEqDiff, ↓reduceIte, Int.reduceEq, Int.reduceLT, Int.reduceLE, Nat.reduceAdd]
  refine (new_spec eq q13 (Hp.nil H hf)).mono ?_
  rintro r H1 ⟨p1, rfl, par1, k1⟩
  simp only [SX, Opd.ev, resVal, resVals, ARes.val, Bool.false_eq_true, Bool.not_false, Bool.not_true, List.getD_cons_succ, List.getD_cons_zero, List.map_cons, List.map_nil, Nat.add_zero, Nat.zero_add, Option.map_none, Option.map_some, Option.some.injEq, and_true, decide_false, decide_true, true_and, reduceCtorEq, Nat.reduceEqDiff, ↓reduceIte, Int.reduceEq, Int.reduceLT, Int.reduceLE, Nat.reduceAdd]
  have hn0 : PSt.new.told.length = 0 ∧ PSt.new.text.length = 0 := ⟨rfl, rfl⟩
  refine (feed_spec eq (t := s) new_good par1 (by omega) (by omega)).mono ?_
  rintro r H2 ⟨par2, k2⟩
  obtain ⟨S1, hS1⟩ : ∃ S1, PSt.new.feed s = S1 := ⟨_, rfl⟩
  obtain ⟨gd1, tl1, tx1⟩ := Good.feed (t := s) new_good
  have ok1 : TOk (PSt.new.feed s) := TOk.feed new_good new_ok
  rw [hS1] at par2 gd1 tl1 tx1 ok1
  obtain ⟨c1', pc1, hp2⟩ := par2.get
  simp only [SX, Opd.ev, resVal, resVals, ARes.val, Bool.false_eq_true, Bool.not_false, Bool.not_true, List.getD_cons_succ, List.getD_cons_zero, List.map_cons, List.map_nil, Nat.add_zero, Nat.zero_add, Option.map_none, Option.map_some, Option.some.injEq, and_true, decide_false, decide_true, true_and, reduceCtorEq, Nat.reduceEqDiff, ↓reduceIte, Int.reduceEq, Int.reduceLT, Int.reduceLE, Nat.reduceAdd]
  refine (new_spec eq q13 hp2).mono ?_
  rintro r H3 ⟨p2, rfl, par3, k3⟩
  obtain ⟨c2', pc2, hp3⟩ := par3.get
  simp only [SX, Opd.ev, resVal, resVals, ARes.val, Bool.false_eq_true, Bool.not_false, Bool.not_true, List.getD_cons_succ, List.getD_cons_zero, List.map_cons, List.map_nil, Nat.add_zero, Nat.zero_add, Option.map_none, Option.map_some, Option.some.injEq, and_true, decide_false, decide_true, true_and, reduceCtorEq, Nat.reduceEqDiff, ↓reduceIte, Int.reduceEq, Int.reduceLT, Int.reduceLE, Nat.reduceAdd]
  obtain ⟨I, hI⟩ : ∃ I : Nat → Env → AHeap → Prop, ∀ m e H', I m e H' ↔ (Keep H.next H H' ∧ ∃ (k j : Nat) (S : PSt) (vF : AV) (F : List EvC) (cs1 cs2 fcl : List Cel), m = cuts.length - k ∧ k ≤ cuts.length ∧ j ≤ s.length ∧ ParC p1 S1 cs1 ∧ ParC p2 S cs2 ∧ S.Good ∧ S.pre (F.map (fun a => a.1.pure)) = PSt.new.feed (s.take j) ∧ TRv vF F fcl ∧ (∀ a ∈ F, PRv a.1.v a.1.L a.2) ∧ Hp H.next H' (cs1 ++ (cs2 ++ fcl)) ∧ Env.get e 1 = v ∧ Env.get e 5 = .ptr p1 0 ∧ Env.get e 6 = .ptr p2 0 ∧ Env.get e 7 = vF ∧ Env.get e 8 = .str (s.drop j) ∧ Env.get e 9 = .int .i64 k) := ⟨_, fun _ _ _ => Iff.rfl⟩
  refine loop_by I cuts.length ?_ ?_
  · refine (hI _ _ _).2 ⟨(k1.trans k2).trans k3, 0, 0, PSt.new, .nils, [], c1', c2', [], rfl, by omega, by omega, pc1, pc2, new_good, rfl, .inl ⟨rfl, rfl, rfl⟩, fun a ha => by simp at ha, hp3.re fun a => by simp only [cnt_append, cnt_nil]; omega, ?_⟩
    simp only [List.drop_zero, SX, Opd.ev, resVal, resVals, ARes.val, Bool.false_eq_true, Bool.not_false, Bool.not_true, List.getD_cons_succ, List.getD_cons_zero, List.map_cons, List.map_nil, Nat.add_zero, Nat.zero_add, Option.map_none, Option.map_some, Option.some.injEq, and_true, decide_false, decide_true, true_and, reduceCtorEq, Nat.reduceEqDiff, ↓reduceIte, Int.reduceEq, Int.reduceLT, Int.reduceLE, Nat.reduceAdd]
    rfl
  · intro m e H4 hinv
    obtain ⟨k4, k, j, S, vF, F, cs1, cs2, fcl, rfl, hk, hj, pc1, pc2, gS, hS, tF, pF, hp4, e1, e5, e6, e7, e8, e9⟩ := (hI _ _ _).1 hinv
    have gr4 := hp4.gr k4
    have hv4 := isU8_grow hv hf gr4
    have lv4 := hv4.len
    have hjl : (s.take j).length = j := by simp; omega
    obtain ⟨gj, tj, xj⟩ := Good.feed (t := s.take j) new_good
    rw [hjl] at tj xj
    have hSt : F.length + S.told.length ≤ 4 * j := by
      rw [← hS] at tj
      simp only [PSt.pre, List.length_append, List.length_map] at tj
      omega
    have hSx : S.text.length ≤ j := by
      rw [← hS] at xj
      have : (S.pre (F.map (fun a => a.1.pure))).text = S.text := rfl
      rw [this] at xj
      omega
    have hfeed : ∀ n, (S.feed ((s.drop j).take n)).pre (F.map (fun a => a.1.pure)) = PSt.new.feed (s.take (j + n)) := by
      intro n
      rw [← pre_feed, hS, ← feed_app, ← List.take_add]
    by_cases d : (k : Int) < cuts.length
    · obtain ⟨x, hx⟩ : ∃ x, cuts[k]? = some x := ⟨_, List.getElem?_eq_getElem (by omega)⟩
      obtain ⟨x0, x1⟩ := hG x (List.mem_of_getElem? hx)
      have xi := hv4.at (i := (k : Int)) (by omega) (by omega) .i64
      obtain ⟨cx, lx, hcx⟩ := hv4.get (i := (k : Int)) (a := x) (by simpa using hx)
      cases hcx
      have hdl : ((s.drop j).length : Int) = s.length - j := by simp; omega
      have wx : IntKind.wrap .i64 x = x := wrapI64 (by omega) (by omega)
      have wl : IntKind.wrap .i64 (((s.drop j).length : Int) + 1) = ((s.drop j).length : Int) + 1 := wrapI64 (by omega) (by omega)
      have rm := bin_rem .i64 x (((s.drop j).length : Int) + 1) (by omega)
      have rm2 := bin_rem .u8 x 2 (by omega)
      obtain ⟨n, hn⟩ : ∃ n : Nat, x.tmod (((s.drop j).length : Int) + 1) = n := by
        have := Int.tmod_nonneg (((s.drop j).length : Int) + 1) x0
        exact ⟨(x.tmod (((s.drop j).length : Int) + 1)).toNat, by omega⟩
      have hnl : n ≤ (s.drop j).length := by
        have := Int.tmod_lt_of_pos x (show (0 : Int) < ((s.drop j).length : Int) + 1 by omega)
        omega
      rw [hn] at rm
      have st := slStr_take hnl
      have sd := slStr_drop hnl
      have w1 : IntKind.wrap .i64 ((k : Int) + 1) = ((k + 1 : Nat) : Int) := by rw [wrapI64 (by omega) (by omega)]; rfl
      have hjn : j + n ≤ s.length := by have : (s.drop j).length = s.length - j := by simp
                                        omega
      simp only [e1, e5, e6, e7, e8, e9, lv4, d, xi, lx, lngV_str, wx, wl, rm, run_slStr, st, sd, Option.map_some, Option.map_none, SX, Opd.ev, resVal, resVals, ARes.val, Bool.false_eq_true, Bool.not_false, Bool.not_true, List.getD_cons_succ, List.getD_cons_zero, List.map_cons, List.map_nil, Nat.add_zero, Nat.zero_add, Option.map_none, Option.map_some, Option.some.injEq, and_true, decide_false, decide_true, true_and, reduceCtorEq, Nat.reduceEqDiff, ↓reduceIte, Int.reduceEq, Int.reduceLT, Int.reduceLE, Nat.reduceAdd]
      have hpm : Hp H.next H4 (cs2 ++ (cs1 ++ fcl)) := hp4.re fun a => by simp only [cnt_append]; omega
      refine (feed_spec eq (t := (s.drop j).take n) gS (pc2.par hpm) (by simp; omega) (by simp; omega)).mono ?_
      rintro r H5 ⟨par5, k5⟩
      have gS5 := (Good.feed (t := (s.drop j).take n) gS).1
      have hf5 := hfeed n
      obtain ⟨S5, hS5⟩ : ∃ S5, S.feed ((s.drop j).take n) = S5 := ⟨_, rfl⟩
      rw [hS5] at par5 gS5 hf5
      have gr5 := (par5.hp).gr (k4.trans k5)
      have hv5 := isU8_grow hv hf gr5
      obtain ⟨cx, lx5, hcx⟩ := hv5.get (i := (k : Int)) (a := x) (by simpa using hx)
      cases hcx
      by_cases d2 : x.tmod 2 = 0
      · have d2' : decide (x.tmod 2 = 0) = true := by simpa using d2
        simp only [e1, e5, e6, e7, e8, e9, xi, lx5, run_slStr, sd, rm2, d2', Option.map_some, Option.map_none, SX, Opd.ev, resVal, resVals, ARes.val, Bool.false_eq_true, Bool.not_false, Bool.not_true, List.getD_cons_succ, List.getD_cons_zero, List.map_cons, List.map_nil, Nat.add_zero, Nat.zero_add, Option.map_none, Option.map_some, Option.some.injEq, and_true, decide_false, decide_true, true_and, reduceCtorEq, Nat.reduceEqDiff, ↓reduceIte, Int.reduceEq, Int.reduceLT, Int.reduceLE, Nat.reduceAdd]
        have ht5 : S5.told.length ≤ 90000 := by
          have := (Good.feed (t := s.take (j + n)) new_good).2.1
          rw [← hf5] at this
          simp only [PSt.pre, List.length_append, List.length_map, List.length_take] at this
          omega
        refine (take_spec eq q15 par5 ht5).mono ?_
        rintro r6 H6 ⟨k6, F2, fcl2, tF2, hF2, pF2, par6⟩
        obtain ⟨cs2', pc2', hp6⟩ := par6.get
        have hF2l : F2.length = S5.told.length := by rw [← hF2]; simp
        obtain ⟨v7, H7, cl7, s7, t7, hp7, k7⟩ := tF.pushAll tF2 (l := cs1 ++ cs2') (hp6.re fun a => by simp only [cnt_append]; omega) pF2 (by omega)
        simp only [e1, e5, e6, e7, e8, e9, s7, w1, SX, Opd.ev, resVal, resVals, ARes.val, Bool.false_eq_true, Bool.not_false, Bool.not_true, List.getD_cons_succ, List.getD_cons_zero, List.map_cons, List.map_nil, Nat.add_zero, Nat.zero_add, Option.map_none, Option.map_some, Option.some.injEq, and_true, decide_false, decide_true, true_and, reduceCtorEq, Nat.reduceEqDiff, ↓reduceIte, Int.reduceEq, Int.reduceLT, Int.reduceLE, Nat.reduceAdd]
        refine ⟨cuts.length - (k + 1), by omega, (hI _ _ _).2 ⟨((k4.trans k5).trans k6).trans k7, k + 1, j + n, { S5 with told := [] }, v7, F ++ F2, cs1, cs2', cl7, rfl, by omega, hjn, pc1, pc2', ⟨gS5.d, gS5.ps, gS5.st, gS5.mids⟩, ?_, t7, ?_, hp7.re fun a => by simp only [cnt_append]; omega, ?_⟩⟩
        · rw [← hf5]
          simp only [PSt.pre, List.map_append, hF2, List.append_nil]
        · intro a ha
          rcases List.mem_append.1 ha with ha | ha
          · exact pF a ha
          · exact pF2 a ha
        · simp only [e1, e5, e6, e7, e8, e9, List.drop_drop, SX, Opd.ev, resVal, resVals, ARes.val, Bool.false_eq_true, Bool.not_false, Bool.not_true, List.getD_cons_succ, List.getD_cons_zero, List.map_cons, List.map_nil, Nat.add_zero, Nat.zero_add, Option.map_none, Option.map_some, Option.some.injEq, and_true, decide_false, decide_true, true_and, reduceCtorEq, Nat.reduceEqDiff, ↓reduceIte, Int.reduceEq, Int.reduceLT, Int.reduceLE, Nat.reduceAdd]
      · have d2' : decide (x.tmod 2 = 0) = false := by simpa using d2
        simp only [e1, e5, e6, e7, e8, e9, xi, lx5, run_slStr, sd, rm2, d2', w1, Option.map_some, Option.map_none, SX, Opd.ev, resVal, resVals, ARes.val, Bool.false_eq_true, Bool.not_false, Bool.not_true, List.getD_cons_succ, List.getD_cons_zero, List.map_cons, List.map_nil, Nat.add_zero, Nat.zero_add, Option.map_none, Option.map_some, Option.some.injEq, and_true, decide_false, decide_true, true_and, reduceCtorEq, Nat.reduceEqDiff, ↓reduceIte, Int.reduceEq, Int.reduceLT, Int.reduceLE, Nat.reduceAdd]
        obtain ⟨cs2', pc2', hp6⟩ := par5.get
        refine ⟨cuts.length - (k + 1), by omega, (hI _ _ _).2 ⟨k4.trans k5, k + 1, j + n, S5, vF, F, cs1, cs2', fcl, rfl, by omega, hjn, pc1, pc2', gS5, hf5, tF, pF, hp6.re fun a => by simp only [cnt_append]; omega, ?_⟩⟩
        simp only [e1, e5, e6, e7, e8, e9, List.drop_drop, SX, Opd.ev, resVal, resVals, ARes.val, Bool.false_eq_true, Bool.not_false, Bool.not_true, List.getD_cons_succ, List.getD_cons_zero, List.map_cons, List.map_nil, Nat.add_zero, Nat.zero_add, Option.map_none, Option.map_some, Option.some.injEq, and_true, decide_false, decide_true, true_and, reduceCtorEq, Nat.reduceEqDiff, ↓reduceIte, Int.reduceEq, Int.reduceLT, Int.reduceLE, Nat.reduceAdd]
    · simp only [e1, e5, e6, e7, e8, e9, lv4, d, SX, Opd.ev, resVal, resVals, ARes.val, Bool.false_eq_true, Bool.not_false, Bool.not_true, List.getD_cons_succ, List.getD_cons_zero, List.map_cons, List.map_nil, Nat.add_zero, Nat.zero_add, Option.map_none, Option.map_some, Option.some.injEq, and_true, decide_false, decide_true, true_and, reduceCtorEq, Nat.reduceEqDiff, ↓reduceIte, Int.reduceEq, Int.reduceLT, Int.reduceLE, Nat.reduceAdd]
      have hpm : Hp H.next H4 (cs2 ++ (cs1 ++ fcl)) := hp4.re fun a => by simp only [cnt_append]; omega
      refine (feed_spec eq (t := s.drop j) gS (pc2.par hpm) (by simp; omega) (by simp; omega)).mono ?_
      rintro r H5 ⟨par5, k5⟩
      have gS5 := (Good.feed (t := s.drop j) gS).1
      have hf5 : (S.feed (s.drop j)).pre (F.map (fun a => a.1.pure)) = S1 := by
        rw [← hS1, ← pre_feed, hS, ← feed_app, List.take_append_drop]
      obtain ⟨S5, hS5⟩ : ∃ S5, S.feed (s.drop j) = S5 := ⟨_, rfl⟩
      rw [hS5] at par5 gS5 hf5
      have htold : F.map (fun a => a.1.pure) ++ S5.told = S1.told := by rw [← hf5]; rfl
      have ht1 : S1.told.length ≤ 20000 := by omega
      have ht5 : S5.told.length ≤ 20000 := by
        have := congrArg List.length htold
        simp only [List.length_append, List.length_map] at this
        omega
      simp only [e1, e5, e6, e7, e8, e9, SX, Opd.ev, resVal, resVals, ARes.val, Bool.false_eq_true, Bool.not_false, Bool.not_true, List.getD_cons_succ, List.getD_cons_zero, List.map_cons, List.map_nil, Nat.add_zero, Nat.zero_add, Option.map_none, Option.map_some, Option.some.injEq, and_true, decide_false, decide_true, true_and, reduceCtorEq, Nat.reduceEqDiff, ↓reduceIte, Int.reduceEq, Int.reduceLT, Int.reduceLE, Nat.reduceAdd]
      refine (take_spec eq q15 par5 (by omega)).mono ?_
      rintro r6 H6 ⟨k6, F2, fcl2, tF2, hF2, pF2, par6⟩
      obtain ⟨cs2', pc2', hp6⟩ := par6.get
      have hF2l : F2.length = S5.told.length := by rw [← hF2]; simp
      obtain ⟨v7, H7, cl7, s7, t7, hp7, k7⟩ := tF.pushAll tF2 (l := cs1 ++ cs2') (hp6.re fun a => by simp only [cnt_append]; omega) pF2 (by omega)
      simp only [e1, e5, e6, e7, e8, e9, s7, SX, Opd.ev, resVal, resVals, ARes.val, Bool.false_eq_true, Bool.not_false, Bool.not_true, List.getD_cons_succ, List.getD_cons_zero, List.map_cons, List.map_nil, Nat.add_zero, Nat.zero_add, Option.map_none, Option.map_some, Option.some.injEq, and_true, decide_false, decide_true, true_and, reduceCtorEq, Nat.reduceEqDiff, ↓reduceIte, Int.reduceEq, Int.reduceLT, Int.reduceLE, Nat.reduceAdd]
      have hpm7 : Hp H.next H7 (cs1 ++ (cs2' ++ cl7)) := hp7.re fun a => by simp only [cnt_append]; omega
      refine (take_spec eq q15 (pc1.par hpm7) (by omega)).mono ?_
      rintro r8 H8 ⟨k8, G, gcl, tG, hG2, pG, par8⟩
      obtain ⟨cs1', pc1', hp8⟩ := par8.get
      simp only [e1, e5, e6, e7, e8, e9, SX, Opd.ev, resVal, resVals, ARes.val, Bool.false_eq_true, Bool.not_false, Bool.not_true, List.getD_cons_succ, List.getD_cons_zero, List.map_cons, List.map_nil, Nat.add_zero, Nat.zero_add, Option.map_none, Option.map_some, Option.some.injEq, and_true, decide_false, decide_true, true_and, reduceCtorEq, Nat.reduceEqDiff, ↓reduceIte, Int.reduceEq, Int.reduceLT, Int.reduceLE, Nat.reduceAdd]
      have heq : G.map (fun a => a.1.pure) = (F ++ F2).map (fun a => a.1.pure) := by
        rw [hG2, List.map_append, hF2, htold]
      refine (sameAll_spec eq rfl (f := 23) rfl q23 q12 q25 q26 hp8 tG t7 (fun x hx => ?_) (fun x hx => ?_) pG ?_ heq ?_ ?_).mono ?_
      · exact List.mem_append_right _ (List.mem_append_left _ hx)
      · exact List.mem_append_right _ (List.mem_append_right _ (List.mem_append_right _ hx))
      · intro a ha
        rcases List.mem_append.1 ha with ha | ha
        · exact pF a ha
        · exact pF2 a ha
      · intro a ha
        refine ok1 _ ?_
        rw [← hG2]
        exact List.mem_map.2 ⟨a, ha, rfl⟩
      · have : G.length = S1.told.length := by rw [← hG2]; simp
        omega
      rintro r9 H9 ⟨rfl, g9⟩
      have hp9 := hp8.keep g9.keep g9.next g9.fr
      simp only [e1, e5, e6, e7, e8, e9, SX, Opd.ev, resVal, resVals, ARes.val, Bool.false_eq_true, Bool.not_false, Bool.not_true, List.getD_cons_succ, List.getD_cons_zero, List.map_cons, List.map_nil, Nat.add_zero, Nat.zero_add, Option.map_none, Option.map_some, Option.some.injEq, and_true, decide_false, decide_true, true_and, reduceCtorEq, Nat.reduceEqDiff, ↓reduceIte, Int.reduceEq, Int.reduceLT, Int.reduceLE, Nat.reduceAdd]
      refine (state_spec eq (pc1'.par hp9)).mono ?_
      rintro r H10 ⟨rfl, rfl⟩
      simp only [e1, e5, e6, e7, e8, e9, SX, Opd.ev, resVal, resVals, ARes.val, Bool.false_eq_true, Bool.not_false, Bool.not_true, List.getD_cons_succ, List.getD_cons_zero, List.map_cons, List.map_nil, Nat.add_zero, Nat.zero_add, Option.map_none, Option.map_some, Option.some.injEq, and_true, decide_false, decide_true, true_and, reduceCtorEq, Nat.reduceEqDiff, ↓reduceIte, Int.reduceEq, Int.reduceLT, Int.reduceLE, Nat.reduceAdd]
      refine (state_spec eq (pc2'.par (l := cs1' ++ (gcl ++ cl7)) (hp9.re fun a => by simp only [cnt_append]; omega))).mono ?_
      rintro r H11 ⟨rfl, rfl⟩
      have hst : S1.st = S5.st := by rw [← hf5]; rfl
      have hkp : S1.d.kept = S5.d.kept := by rw [← hf5]; rfl
      have dst : decide (S1.st = S5.st) = true := by simpa using hst
      simp only [e1, e5, e6, e7, e8, e9, dst, SX, Opd.ev, resVal, resVals, ARes.val, Bool.false_eq_true, Bool.not_false, Bool.not_true, List.getD_cons_succ, List.getD_cons_zero, List.map_cons, List.map_nil, Nat.add_zero, Nat.zero_add, Option.map_none, Option.map_some, Option.some.injEq, and_true, decide_false, decide_true, true_and, reduceCtorEq, Nat.reduceEqDiff, ↓reduceIte, Int.reduceEq, Int.reduceLT, Int.reduceLE, Nat.reduceAdd]
      refine (waits_spec eq (pc1'.par hp9)).mono ?_
      rintro r H10 ⟨rfl, rfl⟩
      simp only [e1, e5, e6, e7, e8, e9, SX, Opd.ev, resVal, resVals, ARes.val, Bool.false_eq_true, Bool.not_false, Bool.not_true, List.getD_cons_succ, List.getD_cons_zero, List.map_cons, List.map_nil, Nat.add_zero, Nat.zero_add, Option.map_none, Option.map_some, Option.some.injEq, and_true, decide_false, decide_true, true_and, reduceCtorEq, Nat.reduceEqDiff, ↓reduceIte, Int.reduceEq, Int.reduceLT, Int.reduceLE, Nat.reduceAdd]
      refine (waits_spec eq (pc2'.par (l := cs1' ++ (gcl ++ cl7)) (hp9.re fun a => by simp only [cnt_append]; omega))).mono ?_
      rintro r H11 ⟨rfl, rfl⟩
      simp only [e1, e5, e6, e7, e8, e9, SX, Opd.ev, resVal, resVals, ARes.val, Bool.false_eq_true, Bool.not_false, Bool.not_true, List.getD_cons_succ, List.getD_cons_zero, List.map_cons, List.map_nil, Nat.add_zero, Nat.zero_add, Option.map_none, Option.map_some, Option.some.injEq, and_true, decide_false, decide_true, true_and, reduceCtorEq, Nat.reduceEqDiff, ↓reduceIte, Int.reduceEq, Int.reduceLT, Int.reduceLE, Nat.reduceAdd]
      simp [hst, hkp]
end
end Go.Proofs.Yteockjhckmlclaa.AM
