/-
  The law AttrStays, walked on the abstract machine.
-/
import Derived.Test.YtcfjjeipdacbcaaDoorAtL
set_option linter.unusedVariables false
set_option linter.unusedSimpArgs false
namespace Go.Proofs.YtcfjjeipdacbcaaDoor.AM
open Go
theorem bin_rem8 (k : IntKind) (a b : Int) (h : b ≠ 0) : binV .rem (.int k a) (.int k b) = some (.int k (a.tmod b)) := by simp [binV, intBin, h]
set_option maxHeartbeats 8000000 in
theorem law8 {Q : Prog} (aq : AtQ Q) (h8 : Q.fns 8 = some A8) (yes : Q.orc 16 [] = some (.bool true)) (hT : Q.tabs = TT) {H : AHeap} (ht : hasTabs H TT = true) {a : At} (hfl : FlOk a.fl) {v : AV} {L : List (List Int)} (hv : IsL H v L) (hf : Fr H) {n : Int} (hn : 0 ≤ n ∧ n ≤ 255) : FnTo Q 8 [a.val, v, .int .u8 n] H (fun r _ => r = .bool true) := by
  refine fn_wp (aq.ho 8 rfl _) h8 (by simp [A8]) ?_
  obtain ⟨H1, s1, h1, k1⟩ := (Hp.nil H hf).make a.cs 5
  have g1 := h1.gr k1
  have hv1 := hv.grow hf g1
  have ht1 := g1.tabs hf ht
  simp only [A8, box_at, run_box, run_allocL, s1, SX, Opd.ev, resVal, resVals, ARes.val, Bool.false_eq_true, Bool.not_false, Bool.not_true, List.getD_cons_succ, List.getD_cons_zero, List.map_cons, List.map_nil, Nat.add_zero, Nat.zero_add, Option.map_none, Option.map_some, Option.some.injEq, and_true, decide_false, decide_true, true_and, reduceCtorEq, Nat.reduceEqDiff, ↓reduceIte, Int.reduceEq, Int.reduceLT, Int.reduceLE, Nat.reduceAdd]
  refine fn_orc yes (by rw [hT]; exact ht1) ?_
  simp only [SX, Opd.ev, resVal, resVals, ARes.val, Bool.false_eq_true, Bool.not_false, Bool.not_true, List.getD_cons_succ, List.getD_cons_zero, List.map_cons, List.map_nil, Nat.add_zero, Nat.zero_add, Option.map_none, Option.map_some, Option.some.injEq, and_true, decide_false, decide_true, true_and, reduceCtorEq, Nat.reduceEqDiff, ↓reduceIte, Int.reduceEq, Int.reduceLT, Int.reduceLE, Nat.reduceAdd]
  refine (great_spec aq hv1).mono ?_
  rintro _ H2 ⟨hx, rfl | ⟨rfl, hL, hp⟩⟩
  · simp only [resVal, resVals, ARes.val, SX, Opd.ev, resVal, resVals, ARes.val, Bool.false_eq_true, Bool.not_false, Bool.not_true, List.getD_cons_succ, List.getD_cons_zero, List.map_cons, List.map_nil, Nat.add_zero, Nat.zero_add, Option.map_none, Option.map_some, Option.some.injEq, and_true, decide_false, decide_true, true_and, reduceCtorEq, Nat.reduceEqDiff, ↓reduceIte, Int.reduceEq, Int.reduceLT, Int.reduceLE, Nat.reduceAdd]
  · replace hx := hx.symm
    subst hx
    have l5 : ∀ {H'}, Gr H1 H' → loadV H' (some 5) (.ptr H.next 0) = some a.val := fun {H'} g => (h1.keep g.keep g.next g.fr).loadN (List.mem_cons_self ..) rfl
    have l50 := l5 (Gr.refl g1.fr)
    obtain ⟨b, hb⟩ : ∃ b, applyP a L = b := ⟨_, rfl⟩
    have keepR : rightP a = true → rightP b = true := fun h => by rw [← hb]; exact applyP_r hfl h L
    simp only [l50, SX, Opd.ev, resVal, resVals, ARes.val, Bool.false_eq_true, Bool.not_false, Bool.not_true, List.getD_cons_succ, List.getD_cons_zero, List.map_cons, List.map_nil, Nat.add_zero, Nat.zero_add, Option.map_none, Option.map_some, Option.some.injEq, and_true, decide_false, decide_true, true_and, reduceCtorEq, Nat.reduceEqDiff, ↓reduceIte, Int.reduceEq, Int.reduceLT, Int.reduceLE, Nat.reduceAdd]
    refine (apply_spec aq (a := a) hv1 (by omega) (fun p h => by have := hp p h; omega) g1.fr ht1).mono ?_
    rintro _ H3 ⟨rfl, g3⟩
    rw [hb]
    obtain ⟨H4, s4, h4, k4⟩ := (Hp.nil H3 g3.fr).make At.zero.cs 5
    obtain ⟨H5, s5, h5, k5, n5⟩ := h4.storeN (n := 5) (new := b.cs) rfl rfl rfl
    have s5 : storeE H4 5 (.ptr H3.next 0) b.val = some (.undef, H5) := s5
    have g5 : Gr H3 H5 := h5.gr (k4.trans k5)
    have g15 := g3.trans g5
    have l7 : ∀ {H'}, Gr H5 H' → loadV H' (some 5) (.ptr H3.next 0) = some b.val := fun {H'} g => (h5.keep g.keep g.next g.fr).loadN (List.mem_cons_self ..) rfl
    have l55 := l5 g15
    simp only [z5l, run_allocL, s4, s5, l55, SX, Opd.ev, resVal, resVals, ARes.val, Bool.false_eq_true, Bool.not_false, Bool.not_true, List.getD_cons_succ, List.getD_cons_zero, List.map_cons, List.map_nil, Nat.add_zero, Nat.zero_add, Option.map_none, Option.map_some, Option.some.injEq, and_true, decide_false, decide_true, true_and, reduceCtorEq, Nat.reduceEqDiff, ↓reduceIte, Int.reduceEq, Int.reduceLT, Int.reduceLE, Nat.reduceAdd]
    have rest : ∀ (H6 : AHeap) (e : Env), Gr H5 H6 → Env.get e 1 = v → Env.get e 2 = .int .u8 n → Env.get e 3 = .ptr H.next 0 → Env.get e 7 = .ptr H3.next 0 → ACode.wp Q A8_rest (fnK [.t 6] (fun r _ => r = .bool true)) e H6 := by
      intro H6 e g6 e1 e2 e3 e7
      have hv6 := hv1.grow g1.fr (g15.trans g6)
      have lv6 := hv6.len
      obtain ⟨j, hj, hjl⟩ : ∃ j : Nat, n.tmod ((L.length : Int) + 1) = j ∧ j ≤ L.length := by
        have h1 := Int.emod_nonneg n (b := (L.length : Int) + 1) (by omega)
        have h2 := Int.emod_lt_of_pos n (b := (L.length : Int) + 1) (by omega)
        refine ⟨(n % ((L.length : Int) + 1)).toNat, ?_, by omega⟩
        rw [Int.tmod_eq_emod_of_nonneg hn.1]; omega
      have wn : IntKind.wrap .i64 n = n := wrapI64 (by omega) (by omega)
      have w1 : IntKind.wrap .i64 ((L.length : Int) + 1) = (L.length : Int) + 1 := wrapI64 (by omega) (by omega)
      have rm : binV .rem (.int .i64 n) (.int .i64 ((L.length : Int) + 1)) = some (.int .i64 j) := by rw [bin_rem8 _ _ _ (by omega), hj]
      by_cases j0 : j = 0
      · have d0 : decide ((j : Int) = 0) = true := decide_eq_true (by omega)
        simp only [A8_rest, e1, e2, e3, e7, lv6, wn, w1, rm, d0, wantV_undef, resVal, resVals, ARes.val, SX, Opd.ev, resVal, resVals, ARes.val, Bool.false_eq_true, Bool.not_false, Bool.not_true, List.getD_cons_succ, List.getD_cons_zero, List.map_cons, List.map_nil, Nat.add_zero, Nat.zero_add, Option.map_none, Option.map_some, Option.some.injEq, and_true, decide_false, decide_true, true_and, reduceCtorEq, Nat.reduceEqDiff, ↓reduceIte, Int.reduceEq, Int.reduceLT, Int.reduceLE, Nat.reduceAdd]
      have d0 : decide ((j : Int) = 0) = false := decide_eq_false (by omega)
      by_cases jl : j = L.length
      · have d1 : decide ((j : Int) = L.length) = true := decide_eq_true (by omega)
        simp only [A8_rest, e1, e2, e3, e7, lv6, wn, w1, rm, d0, d1, wantV_undef, resVal, resVals, ARes.val, SX, Opd.ev, resVal, resVals, ARes.val, Bool.false_eq_true, Bool.not_false, Bool.not_true, List.getD_cons_succ, List.getD_cons_zero, List.map_cons, List.map_nil, Nat.add_zero, Nat.zero_add, Option.map_none, Option.map_some, Option.some.injEq, and_true, decide_false, decide_true, true_and, reduceCtorEq, Nat.reduceEqDiff, ↓reduceIte, Int.reduceEq, Int.reduceLT, Int.reduceLE, Nat.reduceAdd]
      have d1 : decide ((j : Int) = L.length) = false := decide_eq_false (by omega)
      have fin : ∀ (e : Env), Env.get e 1 = v → Env.get e 3 = .ptr H.next 0 → Env.get e 7 = .ptr H3.next 0 → Env.get e 8 = .int .i64 j → (∀ p ∈ L.take j, ¬ (fst0 p = 38 ∨ fst0 p = 48)) → ACode.wp Q A8_fin (fnK [.t 6] (fun r _ => r = .bool true)) e H6 := by
        intro e f1 f3 f7 f8 hall
        obtain ⟨w, sc, hw⟩ := hv6.take (n := j) hjl .i64
        obtain ⟨w', sc', hw'⟩ := hv6.drop (n := j) hjl .i64
        have sc : slSV H6 1 v Option.none (some (.int .i64 j)) = some w := sc
        have sc' : slSV H6 1 v (some (.int .i64 j)) Option.none = some w' := sc'
        have hw : IsL H6 w (L.take j) := hw
        have hw' : IsL H6 w' (L.drop j) := hw'
        have l56 := l5 (g15.trans g6)
        have l76 := l7 g6
        have scG : ∀ {H'}, Gr H6 H' → slSV H' 1 v (some (.int .i64 j)) Option.none = some w' := fun {H'} g => by
          rw [← sc']
          rcases hv6 with ⟨rfl, rfl⟩ | ⟨b, o, cap, B, rfl, hB, _⟩
          · rfl
          · simp only [slSV, ROp.run, Opd.ev, hB, g.get g6.fr hB]
        simp only [A8_fin, f1, f3, f7, f8, l56, l76, sc, sc', Option.map_some, Option.map_none, SX, Opd.ev, resVal, resVals, ARes.val, Bool.false_eq_true, Bool.not_false, Bool.not_true, List.getD_cons_succ, List.getD_cons_zero, List.map_cons, List.map_nil, Nat.add_zero, Nat.zero_add, Option.map_none, Option.map_some, Option.some.injEq, and_true, decide_false, decide_true, true_and, reduceCtorEq, Nat.reduceEqDiff, ↓reduceIte, Int.reduceEq, Int.reduceLT, Int.reduceLE, Nat.reduceAdd]
        refine (apply_spec aq (a := a) hw (by simp only [List.length_take]; omega) (fun p h => by have := hp p (List.mem_of_mem_take h); omega) g6.fr ((g15.trans g6).tabs g1.fr ht1)).mono ?_
        rintro _ H7 ⟨rfl, g7⟩
        have l77 := l7 (g6.trans g7)
        have scH := scG g7
        refine ⟨by simp only [echoOk, f1, f3, f7, f8, l77, scH, Option.map_some, Option.map_none, SX, Opd.ev, resVal, resVals, ARes.val, Bool.false_eq_true, Bool.not_false, Bool.not_true, List.getD_cons_succ, List.getD_cons_zero, List.map_cons, List.map_nil, Nat.add_zero, Nat.zero_add, Option.map_none, Option.map_some, Option.some.injEq, and_true, decide_false, decide_true, true_and, reduceCtorEq, Nat.reduceEqDiff, ↓reduceIte, Int.reduceEq, Int.reduceLT, Int.reduceLE, Nat.reduceAdd]; simp [same_at, IsS.same hw'], ?_⟩
        simp only [f7, SX, Opd.ev, resVal, resVals, ARes.val, Bool.false_eq_true, Bool.not_false, Bool.not_true, List.getD_cons_succ, List.getD_cons_zero, List.map_cons, List.map_nil, Nat.add_zero, Nat.zero_add, Option.map_none, Option.map_some, Option.some.injEq, and_true, decide_false, decide_true, true_and, reduceCtorEq, Nat.reduceEqDiff, ↓reduceIte, Int.reduceEq, Int.reduceLT, Int.reduceLE, Nat.reduceAdd]
        refine (apply_spec aq (a := applyP a (L.take j)) (hw'.grow g6.fr g7) (by simp only [List.length_drop]; omega) (fun p h => by have := hp p (List.mem_of_mem_drop h); omega) g7.fr (((g15.trans g6).trans g7).tabs g1.fr ht1)).mono ?_
        rintro _ H8 ⟨rfl, g8⟩
        have l78 := l7 ((g6.trans g7).trans g8)
        rw [applyP_cut (by omega) (by omega) hall, hb]
        refine ⟨by simp only [echoOk, f7, l78, SX, Opd.ev, resVal, resVals, ARes.val, Bool.false_eq_true, Bool.not_false, Bool.not_true, List.getD_cons_succ, List.getD_cons_zero, List.map_cons, List.map_nil, Nat.add_zero, Nat.zero_add, Option.map_none, Option.map_some, Option.some.injEq, and_true, decide_false, decide_true, true_and, reduceCtorEq, Nat.reduceEqDiff, ↓reduceIte, Int.reduceEq, Int.reduceLT, Int.reduceLE, Nat.reduceAdd]; simp [same_at], ?_⟩
        simp only [seq_at, resVal, resVals, ARes.val, SX, Opd.ev, resVal, resVals, ARes.val, Bool.false_eq_true, Bool.not_false, Bool.not_true, List.getD_cons_succ, List.getD_cons_zero, List.map_cons, List.map_nil, Nat.add_zero, Nat.zero_add, Option.map_none, Option.map_some, Option.some.injEq, and_true, decide_false, decide_true, true_and, reduceCtorEq, Nat.reduceEqDiff, ↓reduceIte, Int.reduceEq, Int.reduceLT, Int.reduceLE, Nat.reduceAdd]
      simp only [A8_rest, e1, e2, e3, e7, lv6, wn, w1, rm, d0, d1, wantV_undef, SX, Opd.ev, resVal, resVals, ARes.val, Bool.false_eq_true, Bool.not_false, Bool.not_true, List.getD_cons_succ, List.getD_cons_zero, List.map_cons, List.map_nil, Nat.add_zero, Nat.zero_add, Option.map_none, Option.map_some, Option.some.injEq, and_true, decide_false, decide_true, true_and, reduceCtorEq, Nat.reduceEqDiff, ↓reduceIte, Int.reduceEq, Int.reduceLT, Int.reduceLE, Nat.reduceAdd]
      obtain ⟨I, hI⟩ : ∃ I : Nat → Env → AHeap → Prop, ∀ m e H', I m e H' ↔ (H' = H6 ∧ ∃ i : Nat, m = j - i ∧ i ≤ j ∧ (∀ p ∈ L.take i, ¬ (fst0 p = 38 ∨ fst0 p = 48)) ∧ Env.get e 1 = v ∧ Env.get e 3 = .ptr H.next 0 ∧ Env.get e 7 = .ptr H3.next 0 ∧ Env.get e 8 = .int .i64 j ∧ Env.get e 9 = .int .i64 i) := ⟨_, fun _ _ _ => Iff.rfl⟩
      refine loop_by I j ?_ ?_
      · refine (hI _ _ _).2 ⟨rfl, 0, rfl, by omega, fun p h => by simp at h, ?_⟩
        simp only [e1, e3, e7, SX, Opd.ev, resVal, resVals, ARes.val, Bool.false_eq_true, Bool.not_false, Bool.not_true, List.getD_cons_succ, List.getD_cons_zero, List.map_cons, List.map_nil, Nat.add_zero, Nat.zero_add, Option.map_none, Option.map_some, Option.some.injEq, and_true, decide_false, decide_true, true_and, reduceCtorEq, Nat.reduceEqDiff, ↓reduceIte, Int.reduceEq, Int.reduceLT, Int.reduceLE, Nat.reduceAdd]; rfl
      · intro m e' H' hinv
        obtain ⟨hx6, i, rfl, hi, hall, f1, f3, f7, f8, f9⟩ := (hI _ _ _).1 hinv
        subst hx6
        by_cases d : (i : Int) < j
        · have dj : decide ((i : Int) < j) = true := decide_eq_true d
          obtain ⟨p, hpi⟩ : ∃ p, L[i]? = some p := ⟨_, List.getElem?_eq_getElem (by omega)⟩
          have xi := hv6.at (i := (i : Int)) (by omega) (by omega) .i64
          obtain ⟨c, lc, hc⟩ := hv6.get (i := (i : Int)) (a := p) (by simpa using hpi)
          have lp := IsS.len hc
          have wi : IntKind.wrap .i64 ((i : Int) + 1) = ((i + 1 : Nat) : Int) := by rw [wrapI64 (by omega) (by omega)]; rfl
          have next : ¬ (fst0 p = 38 ∨ fst0 p = 48) → ∀ e'', (Env.get e'' 1 = v ∧ Env.get e'' 3 = .ptr H.next 0 ∧ Env.get e'' 7 = .ptr H3.next 0 ∧ Env.get e'' 8 = .int .i64 j ∧ Env.get e'' 9 = .int .i64 ((i + 1 : Nat) : Int)) → ∃ m', m' < j - i ∧ I m' e'' H' := by
            intro hp e'' he
            refine ⟨j - (i + 1), by omega, (hI _ _ _).2 ⟨rfl, i + 1, rfl, by omega, ?_, he⟩⟩
            intro q hq
            rw [List.take_add_one, hpi] at hq
            simp only [Option.toList_some, List.mem_append, List.mem_singleton] at hq
            rcases hq with hq | rfl
            · exact hall q hq
            · exact hp
          cases p with
          | nil =>
            have dl : decide ((0 : Int) < (([] : List Int).length : Nat)) = false := rfl
            simp only [f1, f3, f7, f8, f9, dj, xi, lc, lp, dl, wi, wantV_undef, SX, Opd.ev, resVal, resVals, ARes.val, Bool.false_eq_true, Bool.not_false, Bool.not_true, List.getD_cons_succ, List.getD_cons_zero, List.map_cons, List.map_nil, Nat.add_zero, Nat.zero_add, Option.map_none, Option.map_some, Option.some.injEq, and_true, decide_false, decide_true, true_and, reduceCtorEq, Nat.reduceEqDiff, ↓reduceIte, Int.reduceEq, Int.reduceLT, Int.reduceLE, Nat.reduceAdd]
            refine next (by decide) _ ?_
            simp only [f1, f3, f7, f8, f9, and_self, SX, Opd.ev, resVal, resVals, ARes.val, Bool.false_eq_true, Bool.not_false, Bool.not_true, List.getD_cons_succ, List.getD_cons_zero, List.map_cons, List.map_nil, Nat.add_zero, Nat.zero_add, Option.map_none, Option.map_some, Option.some.injEq, and_true, decide_false, decide_true, true_and, reduceCtorEq, Nat.reduceEqDiff, ↓reduceIte, Int.reduceEq, Int.reduceLT, Int.reduceLE, Nat.reduceAdd]
          | cons x t =>
            have dl : decide ((0 : Int) < ((x :: t).length : Nat)) = true := by simp only [decide_eq_true_eq, List.length_cons]; omega
            have x0 := IsS.at hc (i := 0) (by omega) (by simp only [List.length_cons]; omega) .i64
            have l0 := IsS.int hc (i := 0) (a := x) rfl
            by_cases c38 : x = 38
            · have d38 : decide (x = 38) = true := decide_eq_true c38
              simp only [f1, f3, f7, f8, f9, dj, xi, lc, lp, dl, x0, l0, d38, wantV_undef, resVal, resVals, ARes.val, SX, Opd.ev, resVal, resVals, ARes.val, Bool.false_eq_true, Bool.not_false, Bool.not_true, List.getD_cons_succ, List.getD_cons_zero, List.map_cons, List.map_nil, Nat.add_zero, Nat.zero_add, Option.map_none, Option.map_some, Option.some.injEq, and_true, decide_false, decide_true, true_and, reduceCtorEq, Nat.reduceEqDiff, ↓reduceIte, Int.reduceEq, Int.reduceLT, Int.reduceLE, Nat.reduceAdd]
            have d38 : decide (x = 38) = false := decide_eq_false c38
            by_cases c48 : x = 48
            · have d48 : decide (x = 48) = true := decide_eq_true c48
              simp only [f1, f3, f7, f8, f9, dj, xi, lc, lp, dl, x0, l0, d38, d48, wantV_undef, resVal, resVals, ARes.val, SX, Opd.ev, resVal, resVals, ARes.val, Bool.false_eq_true, Bool.not_false, Bool.not_true, List.getD_cons_succ, List.getD_cons_zero, List.map_cons, List.map_nil, Nat.add_zero, Nat.zero_add, Option.map_none, Option.map_some, Option.some.injEq, and_true, decide_false, decide_true, true_and, reduceCtorEq, Nat.reduceEqDiff, ↓reduceIte, Int.reduceEq, Int.reduceLT, Int.reduceLE, Nat.reduceAdd]
            have d48 : decide (x = 48) = false := decide_eq_false c48
            simp only [f1, f3, f7, f8, f9, dj, xi, lc, lp, dl, x0, l0, d38, d48, wi, wantV_undef, SX, Opd.ev, resVal, resVals, ARes.val, Bool.false_eq_true, Bool.not_false, Bool.not_true, List.getD_cons_succ, List.getD_cons_zero, List.map_cons, List.map_nil, Nat.add_zero, Nat.zero_add, Option.map_none, Option.map_some, Option.some.injEq, and_true, decide_false, decide_true, true_and, reduceCtorEq, Nat.reduceEqDiff, ↓reduceIte, Int.reduceEq, Int.reduceLT, Int.reduceLE, Nat.reduceAdd]
            refine next (fun h => h.elim c38 c48) _ ?_
            simp only [f1, f3, f7, f8, f9, and_self, SX, Opd.ev, resVal, resVals, ARes.val, Bool.false_eq_true, Bool.not_false, Bool.not_true, List.getD_cons_succ, List.getD_cons_zero, List.map_cons, List.map_nil, Nat.add_zero, Nat.zero_add, Option.map_none, Option.map_some, Option.some.injEq, and_true, decide_false, decide_true, true_and, reduceCtorEq, Nat.reduceEqDiff, ↓reduceIte, Int.reduceEq, Int.reduceLT, Int.reduceLE, Nat.reduceAdd]
        · have dj : decide ((i : Int) < j) = false := decide_eq_false d
          obtain rfl : i = j := by omega
          simp only [f1, f3, f7, f8, f9, dj, SX, Opd.ev, resVal, resVals, ARes.val, Bool.false_eq_true, Bool.not_false, Bool.not_true, List.getD_cons_succ, List.getD_cons_zero, List.map_cons, List.map_nil, Nat.add_zero, Nat.zero_add, Option.map_none, Option.map_some, Option.some.injEq, and_true, decide_false, decide_true, true_and, reduceCtorEq, Nat.reduceEqDiff, ↓reduceIte, Int.reduceEq, Int.reduceLT, Int.reduceLE, Nat.reduceAdd]
          refine fin _ ?_ ?_ ?_ ?_ hall <;> simp only [f1, f3, f7, f8, SX, Opd.ev, resVal, resVals, ARes.val, Bool.false_eq_true, Bool.not_false, Bool.not_true, List.getD_cons_succ, List.getD_cons_zero, List.map_cons, List.map_nil, Nat.add_zero, Nat.zero_add, Option.map_none, Option.map_some, Option.some.injEq, and_true, decide_false, decide_true, true_and, reduceCtorEq, Nat.reduceEqDiff, ↓reduceIte, Int.reduceEq, Int.reduceLT, Int.reduceLE, Nat.reduceAdd]
    refine (right_spec aq a g15.fr).mono ?_
    rintro _ H6 ⟨rfl, g6⟩
    cases hra : rightP a with
    | true =>
      have l76 := l7 g6
      simp only [l76, wantV_undef, SX, Opd.ev, resVal, resVals, ARes.val, Bool.false_eq_true, Bool.not_false, Bool.not_true, List.getD_cons_succ, List.getD_cons_zero, List.map_cons, List.map_nil, Nat.add_zero, Nat.zero_add, Option.map_none, Option.map_some, Option.some.injEq, and_true, decide_false, decide_true, true_and, reduceCtorEq, Nat.reduceEqDiff, ↓reduceIte, Int.reduceEq, Int.reduceLT, Int.reduceLE, Nat.reduceAdd]
      refine (right_spec aq b g6.fr).mono ?_
      rintro _ H7 ⟨rfl, g7⟩
      rw [keepR hra]
      simp only [wantV_undef, SX, Opd.ev, resVal, resVals, ARes.val, Bool.false_eq_true, Bool.not_false, Bool.not_true, List.getD_cons_succ, List.getD_cons_zero, List.map_cons, List.map_nil, Nat.add_zero, Nat.zero_add, Option.map_none, Option.map_some, Option.some.injEq, and_true, decide_false, decide_true, true_and, reduceCtorEq, Nat.reduceEqDiff, ↓reduceIte, Int.reduceEq, Int.reduceLT, Int.reduceLE, Nat.reduceAdd]
      refine rest H7 _ (g6.trans g7) ?_ ?_ ?_ ?_ <;> simp only [SX, Opd.ev, resVal, resVals, ARes.val, Bool.false_eq_true, Bool.not_false, Bool.not_true, List.getD_cons_succ, List.getD_cons_zero, List.map_cons, List.map_nil, Nat.add_zero, Nat.zero_add, Option.map_none, Option.map_some, Option.some.injEq, and_true, decide_false, decide_true, true_and, reduceCtorEq, Nat.reduceEqDiff, ↓reduceIte, Int.reduceEq, Int.reduceLT, Int.reduceLE, Nat.reduceAdd]
    | false =>
      simp only [wantV_undef, SX, Opd.ev, resVal, resVals, ARes.val, Bool.false_eq_true, Bool.not_false, Bool.not_true, List.getD_cons_succ, List.getD_cons_zero, List.map_cons, List.map_nil, Nat.add_zero, Nat.zero_add, Option.map_none, Option.map_some, Option.some.injEq, and_true, decide_false, decide_true, true_and, reduceCtorEq, Nat.reduceEqDiff, ↓reduceIte, Int.reduceEq, Int.reduceLT, Int.reduceLE, Nat.reduceAdd]
      refine rest H6 _ g6 ?_ ?_ ?_ ?_ <;> simp only [SX, Opd.ev, resVal, resVals, ARes.val, Bool.false_eq_true, Bool.not_false, Bool.not_true, List.getD_cons_succ, List.getD_cons_zero, List.map_cons, List.map_nil, Nat.add_zero, Nat.zero_add, Option.map_none, Option.map_some, Option.some.injEq, and_true, decide_false, decide_true, true_and, reduceCtorEq, Nat.reduceEqDiff, ↓reduceIte, Int.reduceEq, Int.reduceLT, Int.reduceLE, Nat.reduceAdd]
end Go.Proofs.YtcfjjeipdacbcaaDoor.AM
