/-
  What a terminal is told of a frame: nothing, or a text that is not empty; walked.
-/
import Derived.Test.YtkfnjjloefanjaaDoorPnF
import Derived.Test.YtkfnjjloefanjaaDoorAmArgs2
set_option linter.unusedVariables false
set_option linter.unusedSimpArgs false
namespace Go.Proofs.YtkfnjjloefanjaaDoor.AM
open Go
def boxTV (ty : Nat) (x : AV) : Option (AObj × AKind) := LOp.run .nil (.boxT ty (.c x))
theorem run_boxT (e : Env) (ty : Nat) (x : Opd) : LOp.run e (.boxT ty x) = boxTV ty (x.ev e) := rfl
theorem boxT_tel : boxTV 62 (.agg [.nilp, .nils, .int .u16 0, .int .u8 0, .int .u32 0, .int .u8 0, .int .u32 0]) = some (.row ⟨.nilp :: .nils :: blankC.at, 0, false, true, 62⟩, .ptr) := rfl
theorem RowS.same {H : AHeap} {v : AV} {l : List Ce} (h : RowS H v l) : AV.same1 v v = true := by
  rcases h with ⟨rfl, _⟩ | ⟨b, o, cap, B, rfl, _⟩ <;> simp [AV.same1]
section
variable {Q : Prog} (fq : PfQ Q) {H : AHeap}
include fq
set_option maxHeartbeats 4000000 in
theorem line2_spec (hf : Fr H) {w hh x y : Int} {s : Bool} {v : AV} {l : List Ce} {wn yn : Nat} (h : RowS H v l) (hw : w = wn) (hwl : wn ≤ 400) (hyl : yn ≤ 400) (hle : (yn + 1) * wn ≤ l.length) : FnTo Q 32 [.agg (mat w hh v x y s), .int .i64 yn] H (fun r H' => Gr H H' ∧ r = slcOf v (yn * wn) ((yn + 1) * wn)) := by
  subst hw
  refine fn_wp (fq.bq.cq.nq.pq.ho 32 rfl _) fq.bq.cq.nq.pq.q32 (by simp [A32]) ?_
  have ho : (mat wn hh v x y s).all AV.one = true := mat_one h.one
  obtain ⟨H1, s1, g1, k1⟩ := (Hp.nil H hf).make (mat wn hh v x y s) 6
  have l0 := g1.load (List.mem_cons_self ..) (o := 0) rfl
  have l2 := g1.load (List.mem_cons_self ..) (o := 2) rfl
  have g := g1.gr k1
  have m1 : yn * wn ≤ 160000 := by have := Nat.mul_le_mul hyl hwl; omega
  have m2 : (yn + 1) * wn ≤ 160400 := by have := Nat.mul_le_mul (show yn + 1 ≤ 401 by omega) hwl; omega
  have w1 : IntKind.wrap .i64 ((yn : Int) * (wn : Int)) = ((yn * wn : Nat) : Int) := by rw [← Int.natCast_mul]; exact wrapNat (by omega)
  have w2 : IntKind.wrap .i64 ((yn : Int) + 1) = ((yn + 1 : Nat) : Int) := wrapNat (n := yn + 1) (by omega)
  have w3 : IntKind.wrap .i64 (((yn + 1 : Nat) : Int) * (wn : Int)) = (((yn + 1) * wn : Nat) : Int) := by rw [← Int.natCast_mul]; exact wrapNat (by omega)
  obtain ⟨sl, rs⟩ := (h.grow hf g).slice (m := yn * wn) (n := (yn + 1) * wn) (Nat.mul_le_mul_right _ (by omega)) hle
  simp only [A32, boxV_agg ho, s1, l0, l2, w1, w2, w3, sl, Option.map_some, SX, Opd.ev, resVal, resVals, ARes.val, Bool.false_eq_true, Bool.not_false, Bool.not_true, List.getD_cons_succ, List.getD_cons_zero, List.map_cons, List.map_nil, Nat.add_zero, Nat.zero_add, Option.map_none, Option.map_some, Option.some.injEq, and_true, decide_false, decide_true, true_and, reduceCtorEq, Nat.reduceEqDiff, ↓reduceIte, Int.reduceEq, Int.reduceLT, Int.reduceLE, Nat.reduceAdd]
  exact g
set_option maxHeartbeats 8000000 in
theorem c4_spec {H0 : AHeap} (hf0 : Fr H0) (ht0 : hasTabs H0 TT = true) (g : Gr H0 H) {b : Nat} {t : List UInt8} {c : Ce} (hp : TelAt 62 5 H0.next H b t c.at) (hb : t.length ≤ 900000) {base0 q : Nat} {L : List Cel} {w' h' : Int} {v' : AV} {x' y' : Nat} {s' : Bool} (hq : Hp base0 H0 L) (hm : (⟨q, 6, mat w' h' v' x' y' s'⟩ : Cel) ∈ L) (hx : x' < 400) (hy : y' < 400) {e : Env} (e3 : Env.get e 3 = .ptr q 0) (e7 : Env.get e 7 = .ptr b 0) {P : AV → AHeap → Prop} (hP : ∀ t H', t ≠ [] → Gr H0 H' → P (.str t) H') :
    ACode.wp Q A13_c4 (fnK [.t 4] P) e H := by
  have l3 := (hq.of_gr g).load hm (o := 3) (v := .int .i64 x') rfl
  have l4 := (hq.of_gr g).load hm (o := 4) (v := .int .i64 y') rfl
  have l5 := (hq.of_gr g).load hm (o := 5) (v := .bool s') rfl
  have fin : ∀ (H2 : AHeap) (t2 : List UInt8), t2 ≠ [] → t2.length ≤ 1000000 → TelAt 62 5 H0.next H2 b t2 c.at → Gr H0 H2 → FnTo Q 37 [.ptr b 0] H2 (fun r H' => P r H') := fun H2 t2 h1 h2 h3 h4 => by
    refine (tstr_spec fq.bq.cq h3 (by omega)).mono ?_
    rintro _ H' ⟨rfl, k, n, f⟩
    exact hP _ _ h1 ⟨h4.keep.trans k, Nat.le_trans h4.next n, f⟩
  cases s' with
  | true =>
    simp only [A13_c4, e3, e7, l3, l4, l5, SX, Opd.ev, resVal, resVals, ARes.val, Bool.false_eq_true, Bool.not_false, Bool.not_true, List.getD_cons_succ, List.getD_cons_zero, List.map_cons, List.map_nil, Nat.add_zero, Nat.zero_add, Option.map_none, Option.map_some, Option.some.injEq, and_true, decide_false, decide_true, true_and, reduceCtorEq, Nat.reduceEqDiff, ↓reduceIte, Int.reduceEq, Int.reduceLT, Int.reduceLE, Nat.reduceAdd]
    refine (to_spec fq hx hy (g.tabs hf0 ht0)).mono ?_
    rintro _ H1 ⟨⟨s, rfl, hs⟩, hH⟩
    rw [hH]
    have a1 := bin_adds s [27, 91, 63, 50, 53, 104] (by simp; omega)
    simp only [e3, e7, a1, SX, Opd.ev, resVal, resVals, ARes.val, Bool.false_eq_true, Bool.not_false, Bool.not_true, List.getD_cons_succ, List.getD_cons_zero, List.map_cons, List.map_nil, Nat.add_zero, Nat.zero_add, Option.map_none, Option.map_some, Option.some.injEq, and_true, decide_false, decide_true, true_and, reduceCtorEq, Nat.reduceEqDiff, ↓reduceIte, Int.reduceEq, Int.reduceLT, Int.reduceLE, Nat.reduceAdd]
    refine (ws_spec fq.bq.cq hp rfl (s ++ [27, 91, 63, 50, 53, 104]) (by simp; omega)).mono ?_
    rintro _ H2 ⟨hp2, k2, n2⟩
    simp only [e3, e7, SX, Opd.ev, resVal, resVals, ARes.val, Bool.false_eq_true, Bool.not_false, Bool.not_true, List.getD_cons_succ, List.getD_cons_zero, List.map_cons, List.map_nil, Nat.add_zero, Nat.zero_add, Option.map_none, Option.map_some, Option.some.injEq, and_true, decide_false, decide_true, true_and, reduceCtorEq, Nat.reduceEqDiff, ↓reduceIte, Int.reduceEq, Int.reduceLT, Int.reduceLE, Nat.reduceAdd]
    refine (fin H2 _ (by simp) (by simp; omega) hp2 ⟨g.keep.trans k2, Nat.le_trans g.next n2.le, hp2.fr⟩).mono ?_
    intro r H3 hr
    simp only [SX, Opd.ev, resVal, resVals, ARes.val, Bool.false_eq_true, Bool.not_false, Bool.not_true, List.getD_cons_succ, List.getD_cons_zero, List.map_cons, List.map_nil, Nat.add_zero, Nat.zero_add, Option.map_none, Option.map_some, Option.some.injEq, and_true, decide_false, decide_true, true_and, reduceCtorEq, Nat.reduceEqDiff, ↓reduceIte, Int.reduceEq, Int.reduceLT, Int.reduceLE, Nat.reduceAdd]
    exact hr
  | false =>
    simp only [A13_c4, e3, e7, l3, l4, l5, SX, Opd.ev, resVal, resVals, ARes.val, Bool.false_eq_true, Bool.not_false, Bool.not_true, List.getD_cons_succ, List.getD_cons_zero, List.map_cons, List.map_nil, Nat.add_zero, Nat.zero_add, Option.map_none, Option.map_some, Option.some.injEq, and_true, decide_false, decide_true, true_and, reduceCtorEq, Nat.reduceEqDiff, ↓reduceIte, Int.reduceEq, Int.reduceLT, Int.reduceLE, Nat.reduceAdd]
    refine (ws_spec fq.bq.cq hp rfl [27, 91, 63, 50, 53, 108] (by simp; omega)).mono ?_
    rintro _ H2 ⟨hp2, k2, n2⟩
    simp only [e3, e7, SX, Opd.ev, resVal, resVals, ARes.val, Bool.false_eq_true, Bool.not_false, Bool.not_true, List.getD_cons_succ, List.getD_cons_zero, List.map_cons, List.map_nil, Nat.add_zero, Nat.zero_add, Option.map_none, Option.map_some, Option.some.injEq, and_true, decide_false, decide_true, true_and, reduceCtorEq, Nat.reduceEqDiff, ↓reduceIte, Int.reduceEq, Int.reduceLT, Int.reduceLE, Nat.reduceAdd]
    refine (fin H2 _ (by simp) (by simp; omega) hp2 ⟨g.keep.trans k2, Nat.le_trans g.next n2.le, hp2.fr⟩).mono ?_
    intro r H3 hr
    simp only [SX, Opd.ev, resVal, resVals, ARes.val, Bool.false_eq_true, Bool.not_false, Bool.not_true, List.getD_cons_succ, List.getD_cons_zero, List.map_cons, List.map_nil, Nat.add_zero, Nat.zero_add, Option.map_none, Option.map_some, Option.some.injEq, and_true, decide_false, decide_true, true_and, reduceCtorEq, Nat.reduceEqDiff, ↓reduceIte, Int.reduceEq, Int.reduceLT, Int.reduceLE, Nat.reduceAdd]
    exact hr
set_option maxHeartbeats 8000000 in
theorem c3_spec {H0 : AHeap} (hf0 : Fr H0) (ht0 : hasTabs H0 TT = true) (g : Gr H0 H) {b : Nat} {t : List UInt8} {c : Ce} (hp : TelAt 62 5 H0.next H b t c.at) (hb : t.length ≤ 800000) {base0 q : Nat} {L : List Cel} {w' h' : Int} {v' : AV} {x' y' : Nat} {s' : Bool} (hq : Hp base0 H0 L) (hm : (⟨q, 6, mat w' h' v' x' y' s'⟩ : Cel) ∈ L) (hx : x' < 400) (hy : y' < 400) {e : Env} (e3 : Env.get e 3 = .ptr q 0) (e7 : Env.get e 7 = .ptr b 0) {P : AV → AHeap → Prop} (hP : ∀ t H', t ≠ [] → Gr H0 H' → P (.str t) H') :
    ACode.wp Q A13_c3 (fnK [.t 4] P) e H := by
  have la := hp.attr rfl
  have sq : seqV [1, 1, 1, 1, 1] true (.agg c.at) (.agg [.int .u16 0, .int .u8 0, .int .u32 0, .int .u8 0, .int .u32 0]) = some (.bool (!decide (sameA c blankC))) := seq5 c blankC
  by_cases z : sameA c blankC
  · simp only [A13_c3, e3, e7, la, run_build0, run_seq, sq, decide_eq_true z, SX, Opd.ev, resVal, resVals, ARes.val, Bool.false_eq_true, Bool.not_false, Bool.not_true, List.getD_cons_succ, List.getD_cons_zero, List.map_cons, List.map_nil, Nat.add_zero, Nat.zero_add, Option.map_none, Option.map_some, Option.some.injEq, and_true, decide_false, decide_true, true_and, reduceCtorEq, Nat.reduceEqDiff, ↓reduceIte, Int.reduceEq, Int.reduceLT, Int.reduceLE, Nat.reduceAdd]
    exact c4_spec fq hf0 ht0 g hp (by omega) hq hm hx hy (by first | (simp only [SX, Opd.ev, resVal, resVals, ARes.val, Bool.false_eq_true, Bool.not_false, Bool.not_true, List.getD_cons_succ, List.getD_cons_zero, List.map_cons, List.map_nil, Nat.add_zero, Nat.zero_add, Option.map_none, Option.map_some, Option.some.injEq, and_true, decide_false, decide_true, true_and, reduceCtorEq, Nat.reduceEqDiff, ↓reduceIte, Int.reduceEq, Int.reduceLT, Int.reduceLE, Nat.reduceAdd, e3]; done) | exact e3 | (simp only [SX, Opd.ev, resVal, resVals, ARes.val, Bool.false_eq_true, Bool.not_false, Bool.not_true, List.getD_cons_succ, List.getD_cons_zero, List.map_cons, List.map_nil, Nat.add_zero, Nat.zero_add, Option.map_none, Option.map_some, Option.some.injEq, and_true, decide_false, decide_true, true_and, reduceCtorEq, Nat.reduceEqDiff, ↓reduceIte, Int.reduceEq, Int.reduceLT, Int.reduceLE, Nat.reduceAdd, e3]; rfl)) (by first | (simp only [SX, Opd.ev, resVal, resVals, ARes.val, Bool.false_eq_true, Bool.not_false, Bool.not_true, List.getD_cons_succ, List.getD_cons_zero, List.map_cons, List.map_nil, Nat.add_zero, Nat.zero_add, Option.map_none, Option.map_some, Option.some.injEq, and_true, decide_false, decide_true, true_and, reduceCtorEq, Nat.reduceEqDiff, ↓reduceIte, Int.reduceEq, Int.reduceLT, Int.reduceLE, Nat.reduceAdd, e7]; done) | exact e7 | (simp only [SX, Opd.ev, resVal, resVals, ARes.val, Bool.false_eq_true, Bool.not_false, Bool.not_true, List.getD_cons_succ, List.getD_cons_zero, List.map_cons, List.map_nil, Nat.add_zero, Nat.zero_add, Option.map_none, Option.map_some, Option.some.injEq, and_true, decide_false, decide_true, true_and, reduceCtorEq, Nat.reduceEqDiff, ↓reduceIte, Int.reduceEq, Int.reduceLT, Int.reduceLE, Nat.reduceAdd, e7]; rfl)) hP
  · simp only [A13_c3, e3, e7, la, run_build0, run_seq, sq, decide_eq_false z, SX, Opd.ev, resVal, resVals, ARes.val, Bool.false_eq_true, Bool.not_false, Bool.not_true, List.getD_cons_succ, List.getD_cons_zero, List.map_cons, List.map_nil, Nat.add_zero, Nat.zero_add, Option.map_none, Option.map_some, Option.some.injEq, and_true, decide_false, decide_true, true_and, reduceCtorEq, Nat.reduceEqDiff, ↓reduceIte, Int.reduceEq, Int.reduceLT, Int.reduceLE, Nat.reduceAdd]
    refine (ws_spec fq.bq.cq hp rfl [27, 91, 48, 109] (by simp; omega)).mono ?_
    rintro _ H2 ⟨hp2, k2, n2⟩
    simp only [e3, e7, SX, Opd.ev, resVal, resVals, ARes.val, Bool.false_eq_true, Bool.not_false, Bool.not_true, List.getD_cons_succ, List.getD_cons_zero, List.map_cons, List.map_nil, Nat.add_zero, Nat.zero_add, Option.map_none, Option.map_some, Option.some.injEq, and_true, decide_false, decide_true, true_and, reduceCtorEq, Nat.reduceEqDiff, ↓reduceIte, Int.reduceEq, Int.reduceLT, Int.reduceLE, Nat.reduceAdd]
    exact c4_spec fq hf0 ht0 ⟨g.keep.trans k2, Nat.le_trans g.next n2.le, hp2.fr⟩ hp2 (by simp; omega) hq hm hx hy (by first | (simp only [SX, Opd.ev, resVal, resVals, ARes.val, Bool.false_eq_true, Bool.not_false, Bool.not_true, List.getD_cons_succ, List.getD_cons_zero, List.map_cons, List.map_nil, Nat.add_zero, Nat.zero_add, Option.map_none, Option.map_some, Option.some.injEq, and_true, decide_false, decide_true, true_and, reduceCtorEq, Nat.reduceEqDiff, ↓reduceIte, Int.reduceEq, Int.reduceLT, Int.reduceLE, Nat.reduceAdd, e3]; done) | exact e3 | (simp only [SX, Opd.ev, resVal, resVals, ARes.val, Bool.false_eq_true, Bool.not_false, Bool.not_true, List.getD_cons_succ, List.getD_cons_zero, List.map_cons, List.map_nil, Nat.add_zero, Nat.zero_add, Option.map_none, Option.map_some, Option.some.injEq, and_true, decide_false, decide_true, true_and, reduceCtorEq, Nat.reduceEqDiff, ↓reduceIte, Int.reduceEq, Int.reduceLT, Int.reduceLE, Nat.reduceAdd, e3]; rfl)) (by first | (simp only [SX, Opd.ev, resVal, resVals, ARes.val, Bool.false_eq_true, Bool.not_false, Bool.not_true, List.getD_cons_succ, List.getD_cons_zero, List.map_cons, List.map_nil, Nat.add_zero, Nat.zero_add, Option.map_none, Option.map_some, Option.some.injEq, and_true, decide_false, decide_true, true_and, reduceCtorEq, Nat.reduceEqDiff, ↓reduceIte, Int.reduceEq, Int.reduceLT, Int.reduceLE, Nat.reduceAdd, e7]; done) | exact e7 | (simp only [SX, Opd.ev, resVal, resVals, ARes.val, Bool.false_eq_true, Bool.not_false, Bool.not_true, List.getD_cons_succ, List.getD_cons_zero, List.map_cons, List.map_nil, Nat.add_zero, Nat.zero_add, Option.map_none, Option.map_some, Option.some.injEq, and_true, decide_false, decide_true, true_and, reduceCtorEq, Nat.reduceEqDiff, ↓reduceIte, Int.reduceEq, Int.reduceLT, Int.reduceLE, Nat.reduceAdd, e7]; rfl)) hP
set_option maxHeartbeats 16000000 in
theorem c2_spec {H0 : AHeap} (hf0 : Fr H0) (ht0 : hasTabs H0 TT = true) (g : Gr H0 H) {b : Nat} {t : List UInt8} {c : Ce} (hp : TelAt 62 5 H0.next H b t c.at) (hb : t.length ≤ 4) {base0 q r : Nat} {L : List Cel} {wn hn : Nat} {v' : AV} {x' y' : Nat} {s' : Bool} {fh fx fy : Int} {fs : Bool} {u : AV} {l' m : List Ce} (hq : Hp base0 H0 L) (hm : (⟨q, 6, mat wn hn v' x' y' s'⟩ : Cel) ∈ L) (hm2 : (⟨r, 6, mat wn fh u fx fy fs⟩ : Cel) ∈ L) (hx : x' < 400) (hy : y' < 400) (hw4 : wn ≤ 400) (hh4 : hn ≤ 400) (r1 : RowS H0 v' l') (r2 : RowS H0 u m) (hl1 : l'.length = wn * hn) (hl2 : m.length = wn * hn) (h16 : wn * hn ≤ 1600) (hi : InP l') {e : Env} (e3 : Env.get e 3 = .ptr q 0) (e5 : Env.get e 5 = .ptr r 0) (e7 : Env.get e 7 = .ptr b 0) {P : AV → AHeap → Prop} (hP : ∀ t H', t ≠ [] → Gr H0 H' → P (.str t) H') :
    ACode.wp Q A13_c2 (fnK [.t 4] P) e H := by
  have lh := (hq.of_gr g).load hm (o := 1) (v := .int .i64 hn) rfl
  simp only [A13_c2, e3, e5, e7, lh, SX, Opd.ev, resVal, resVals, ARes.val, Bool.false_eq_true, Bool.not_false, Bool.not_true, List.getD_cons_succ, List.getD_cons_zero, List.map_cons, List.map_nil, Nat.add_zero, Nat.zero_add, Option.map_none, Option.map_some, Option.some.injEq, and_true, decide_false, decide_true, true_and, reduceCtorEq, Nat.reduceEqDiff, ↓reduceIte, Int.reduceEq, Int.reduceLT, Int.reduceLE, Nat.reduceAdd]
  obtain ⟨A, hA⟩ : ∃ A, 224 * (wn + 1) = A := ⟨_, rfl⟩
  have hAh : A * hn ≤ 448000 := by
    rw [← hA, Nat.mul_assoc, Nat.add_mul, Nat.one_mul]
    omega
  obtain ⟨I, hI⟩ : ∃ I : Nat → Env → AHeap → Prop, ∀ k e' H', I k e' H' ↔ (Gr H0 H' ∧ ∃ (i : Nat) (t' : List UInt8) (c' : Ce), k = hn - i ∧ i ≤ hn ∧ t'.length ≤ 4 + A * i ∧ TelAt 62 5 H0.next H' b t' c'.at ∧ Env.get e' 3 = .ptr q 0 ∧ Env.get e' 5 = .ptr r 0 ∧ Env.get e' 7 = .ptr b 0 ∧ Env.get e' 33 = .int .i64 hn ∧ Env.get e' 34 = .int .i64 i) := ⟨_, fun _ _ _ => Iff.rfl⟩
  refine loop_by I hn ?_ ?_
  · exact (hI _ _ _).2 ⟨g, 0, t, c, rfl, by omega, by omega, hp, (by first | (simp only [SX, Opd.ev, resVal, resVals, ARes.val, Bool.false_eq_true, Bool.not_false, Bool.not_true, List.getD_cons_succ, List.getD_cons_zero, List.map_cons, List.map_nil, Nat.add_zero, Nat.zero_add, Option.map_none, Option.map_some, Option.some.injEq, and_true, decide_false, decide_true, true_and, reduceCtorEq, Nat.reduceEqDiff, ↓reduceIte, Int.reduceEq, Int.reduceLT, Int.reduceLE, Nat.reduceAdd, e3]; done) | exact e3 | (simp only [SX, Opd.ev, resVal, resVals, ARes.val, Bool.false_eq_true, Bool.not_false, Bool.not_true, List.getD_cons_succ, List.getD_cons_zero, List.map_cons, List.map_nil, Nat.add_zero, Nat.zero_add, Option.map_none, Option.map_some, Option.some.injEq, and_true, decide_false, decide_true, true_and, reduceCtorEq, Nat.reduceEqDiff, ↓reduceIte, Int.reduceEq, Int.reduceLT, Int.reduceLE, Nat.reduceAdd, e3]; rfl)), (by first | (simp only [SX, Opd.ev, resVal, resVals, ARes.val, Bool.false_eq_true, Bool.not_false, Bool.not_true, List.getD_cons_succ, List.getD_cons_zero, List.map_cons, List.map_nil, Nat.add_zero, Nat.zero_add, Option.map_none, Option.map_some, Option.some.injEq, and_true, decide_false, decide_true, true_and, reduceCtorEq, Nat.reduceEqDiff, ↓reduceIte, Int.reduceEq, Int.reduceLT, Int.reduceLE, Nat.reduceAdd, e5]; done) | exact e5 | (simp only [SX, Opd.ev, resVal, resVals, ARes.val, Bool.false_eq_true, Bool.not_false, Bool.not_true, List.getD_cons_succ, List.getD_cons_zero, List.map_cons, List.map_nil, Nat.add_zero, Nat.zero_add, Option.map_none, Option.map_some, Option.some.injEq, and_true, decide_false, decide_true, true_and, reduceCtorEq, Nat.reduceEqDiff, ↓reduceIte, Int.reduceEq, Int.reduceLT, Int.reduceLE, Nat.reduceAdd, e5]; rfl)), (by first | (simp only [SX, Opd.ev, resVal, resVals, ARes.val, Bool.false_eq_true, Bool.not_false, Bool.not_true, List.getD_cons_succ, List.getD_cons_zero, List.map_cons, List.map_nil, Nat.add_zero, Nat.zero_add, Option.map_none, Option.map_some, Option.some.injEq, and_true, decide_false, decide_true, true_and, reduceCtorEq, Nat.reduceEqDiff, ↓reduceIte, Int.reduceEq, Int.reduceLT, Int.reduceLE, Nat.reduceAdd, e7]; done) | exact e7 | (simp only [SX, Opd.ev, resVal, resVals, ARes.val, Bool.false_eq_true, Bool.not_false, Bool.not_true, List.getD_cons_succ, List.getD_cons_zero, List.map_cons, List.map_nil, Nat.add_zero, Nat.zero_add, Option.map_none, Option.map_some, Option.some.injEq, and_true, decide_false, decide_true, true_and, reduceCtorEq, Nat.reduceEqDiff, ↓reduceIte, Int.reduceEq, Int.reduceLT, Int.reduceLE, Nat.reduceAdd, e7]; rfl)), (by first | (simp only [SX, Opd.ev, resVal, resVals, ARes.val, Bool.false_eq_true, Bool.not_false, Bool.not_true, List.getD_cons_succ, List.getD_cons_zero, List.map_cons, List.map_nil, Nat.add_zero, Nat.zero_add, Option.map_none, Option.map_some, Option.some.injEq, and_true, decide_false, decide_true, true_and, reduceCtorEq, Nat.reduceEqDiff, ↓reduceIte, Int.reduceEq, Int.reduceLT, Int.reduceLE, Nat.reduceAdd]; done) | (simp only [SX, Opd.ev, resVal, resVals, ARes.val, Bool.false_eq_true, Bool.not_false, Bool.not_true, List.getD_cons_succ, List.getD_cons_zero, List.map_cons, List.map_nil, Nat.add_zero, Nat.zero_add, Option.map_none, Option.map_some, Option.some.injEq, and_true, decide_false, decide_true, true_and, reduceCtorEq, Nat.reduceEqDiff, ↓reduceIte, Int.reduceEq, Int.reduceLT, Int.reduceLE, Nat.reduceAdd]; rfl) | rfl), (by first | (simp only [SX, Opd.ev, resVal, resVals, ARes.val, Bool.false_eq_true, Bool.not_false, Bool.not_true, List.getD_cons_succ, List.getD_cons_zero, List.map_cons, List.map_nil, Nat.add_zero, Nat.zero_add, Option.map_none, Option.map_some, Option.some.injEq, and_true, decide_false, decide_true, true_and, reduceCtorEq, Nat.reduceEqDiff, ↓reduceIte, Int.reduceEq, Int.reduceLT, Int.reduceLE, Nat.reduceAdd]; done) | (simp only [SX, Opd.ev, resVal, resVals, ARes.val, Bool.false_eq_true, Bool.not_false, Bool.not_true, List.getD_cons_succ, List.getD_cons_zero, List.map_cons, List.map_nil, Nat.add_zero, Nat.zero_add, Option.map_none, Option.map_some, Option.some.injEq, and_true, decide_false, decide_true, true_and, reduceCtorEq, Nat.reduceEqDiff, ↓reduceIte, Int.reduceEq, Int.reduceLT, Int.reduceLE, Nat.reduceAdd]; rfl) | rfl)⟩
  · intro k e' H3 hinv
    obtain ⟨g3, i, t', c', rfl, hi', ht', hp3, e3, e5, e7, e33, e34⟩ := (hI _ _ _).1 hinv
    have hAi : A * i ≤ A * hn := Nat.mul_le_mul_left _ hi'
    by_cases d : (i : Int) < hn
    · have w1 : IntKind.wrap .i64 ((i : Int) + 1) = ((i + 1 : Nat) : Int) := wrapNat (n := i + 1) (by omega)
      have le1 : (i + 1) * wn ≤ wn * hn := by rw [Nat.mul_comm wn hn]; exact Nat.mul_le_mul_right _ (by omega)
      have lm := (hq.of_gr g3).loadN hm (n := 6) rfl
      have lf := (hq.of_gr g3).loadN hm2 (n := 6) rfl
      simp only [e3, e5, e7, e33, e34, d, lm, lf, SX, Opd.ev, resVal, resVals, ARes.val, Bool.false_eq_true, Bool.not_false, Bool.not_true, List.getD_cons_succ, List.getD_cons_zero, List.map_cons, List.map_nil, Nat.add_zero, Nat.zero_add, Option.map_none, Option.map_some, Option.some.injEq, and_true, decide_false, decide_true, true_and, reduceCtorEq, Nat.reduceEqDiff, ↓reduceIte, Int.reduceEq, Int.reduceLT, Int.reduceLE, Nat.reduceAdd]
      refine (line2_spec fq g3.fr (yn := i) (r2.grow hf0 g3) rfl hw4 (by omega) (by omega)).mono ?_
      rintro _ H4 ⟨gr4, rfl⟩
      have g4 := g3.trans gr4
      have lm4 := (hq.of_gr g4).loadN hm (n := 6) rfl
      have sm : AV.same (.agg (mat wn hn v' x' y' s')) (.agg (mat wn hn v' x' y' s')) = true := by
        rcases r1 with ⟨rfl, _⟩ | ⟨_, _, _, _, rfl, _⟩ <;> simp [AV.same, AV.sameL, AV.same1, mat]
      refine ⟨by simp only [echoOk, e3, lm4, sm, Bool.and_self, SX, Opd.ev, resVal, resVals, ARes.val, Bool.false_eq_true, Bool.not_false, Bool.not_true, List.getD_cons_succ, List.getD_cons_zero, List.map_cons, List.map_nil, Nat.add_zero, Nat.zero_add, Option.map_none, Option.map_some, Option.some.injEq, and_true, decide_false, decide_true, true_and, reduceCtorEq, Nat.reduceEqDiff, ↓reduceIte, Int.reduceEq, Int.reduceLT, Int.reduceLE, Nat.reduceAdd], ?_⟩
      simp only [e3, e5, e7, e33, e34, SX, Opd.ev, resVal, resVals, ARes.val, Bool.false_eq_true, Bool.not_false, Bool.not_true, List.getD_cons_succ, List.getD_cons_zero, List.map_cons, List.map_nil, Nat.add_zero, Nat.zero_add, Option.map_none, Option.map_some, Option.some.injEq, and_true, decide_false, decide_true, true_and, reduceCtorEq, Nat.reduceEqDiff, ↓reduceIte, Int.reduceEq, Int.reduceLT, Int.reduceLE, Nat.reduceAdd]
      refine (line2_spec fq g4.fr (yn := i) (r1.grow hf0 g4) rfl hw4 (by omega) (by omega)).mono ?_
      rintro _ H5 ⟨gr5, rfl⟩
      have g5 := g4.trans gr5
      have hp5 := (hp3.gr gr4).gr gr5
      have q1 := (r1.slice (m := i * wn) (n := (i + 1) * wn) (Nat.mul_le_mul_right _ (by omega)) (by omega)).2
      have q2 := (r2.slice (m := i * wn) (n := (i + 1) * wn) (Nat.mul_le_mul_right _ (by omega)) (by omega)).2
      have n1 : ((l'.take ((i + 1) * wn)).drop (i * wn)).length = wn := by rw [List.length_drop, List.length_take, Nat.succ_mul]; rw [Nat.succ_mul] at le1; omega
      have n2 : ((m.take ((i + 1) * wn)).drop (i * wn)).length = wn := by rw [List.length_drop, List.length_take, Nat.succ_mul]; rw [Nat.succ_mul] at le1; omega
      simp only [e3, e5, e7, e33, e34, SX, Opd.ev, resVal, resVals, ARes.val, Bool.false_eq_true, Bool.not_false, Bool.not_true, List.getD_cons_succ, List.getD_cons_zero, List.map_cons, List.map_nil, Nat.add_zero, Nat.zero_add, Option.map_none, Option.map_some, Option.some.injEq, and_true, decide_false, decide_true, true_and, reduceCtorEq, Nat.reduceEqDiff, ↓reduceIte, Int.reduceEq, Int.reduceLT, Int.reduceLE, Nat.reduceAdd]
      refine (row_spec fq hf0 ht0 g5 q2 q1 (by rw [n1, n2]) (by omega) (fun c hc => hi c (List.mem_of_mem_take (List.mem_of_mem_drop hc))) (y := i) (by omega) hp5 (by omega)).mono ?_
      rintro _ H6 ⟨⟨t6, c6, ht6, hp6⟩, g6⟩
      rw [n1, hA] at ht6
      simp only [e3, e5, e7, e33, e34, w1, SX, Opd.ev, resVal, resVals, ARes.val, Bool.false_eq_true, Bool.not_false, Bool.not_true, List.getD_cons_succ, List.getD_cons_zero, List.map_cons, List.map_nil, Nat.add_zero, Nat.zero_add, Option.map_none, Option.map_some, Option.some.injEq, and_true, decide_false, decide_true, true_and, reduceCtorEq, Nat.reduceEqDiff, ↓reduceIte, Int.reduceEq, Int.reduceLT, Int.reduceLE, Nat.reduceAdd]
      exact ⟨hn - (i + 1), by omega, (hI _ _ _).2 ⟨g6, i + 1, t6, c6, rfl, by omega, by rw [Nat.mul_succ]; omega, hp6, (by first | (simp only [SX, Opd.ev, resVal, resVals, ARes.val, Bool.false_eq_true, Bool.not_false, Bool.not_true, List.getD_cons_succ, List.getD_cons_zero, List.map_cons, List.map_nil, Nat.add_zero, Nat.zero_add, Option.map_none, Option.map_some, Option.some.injEq, and_true, decide_false, decide_true, true_and, reduceCtorEq, Nat.reduceEqDiff, ↓reduceIte, Int.reduceEq, Int.reduceLT, Int.reduceLE, Nat.reduceAdd, e3]; done) | exact e3 | (simp only [SX, Opd.ev, resVal, resVals, ARes.val, Bool.false_eq_true, Bool.not_false, Bool.not_true, List.getD_cons_succ, List.getD_cons_zero, List.map_cons, List.map_nil, Nat.add_zero, Nat.zero_add, Option.map_none, Option.map_some, Option.some.injEq, and_true, decide_false, decide_true, true_and, reduceCtorEq, Nat.reduceEqDiff, ↓reduceIte, Int.reduceEq, Int.reduceLT, Int.reduceLE, Nat.reduceAdd, e3]; rfl)), (by first | (simp only [SX, Opd.ev, resVal, resVals, ARes.val, Bool.false_eq_true, Bool.not_false, Bool.not_true, List.getD_cons_succ, List.getD_cons_zero, List.map_cons, List.map_nil, Nat.add_zero, Nat.zero_add, Option.map_none, Option.map_some, Option.some.injEq, and_true, decide_false, decide_true, true_and, reduceCtorEq, Nat.reduceEqDiff, ↓reduceIte, Int.reduceEq, Int.reduceLT, Int.reduceLE, Nat.reduceAdd, e5]; done) | exact e5 | (simp only [SX, Opd.ev, resVal, resVals, ARes.val, Bool.false_eq_true, Bool.not_false, Bool.not_true, List.getD_cons_succ, List.getD_cons_zero, List.map_cons, List.map_nil, Nat.add_zero, Nat.zero_add, Option.map_none, Option.map_some, Option.some.injEq, and_true, decide_false, decide_true, true_and, reduceCtorEq, Nat.reduceEqDiff, ↓reduceIte, Int.reduceEq, Int.reduceLT, Int.reduceLE, Nat.reduceAdd, e5]; rfl)), (by first | (simp only [SX, Opd.ev, resVal, resVals, ARes.val, Bool.false_eq_true, Bool.not_false, Bool.not_true, List.getD_cons_succ, List.getD_cons_zero, List.map_cons, List.map_nil, Nat.add_zero, Nat.zero_add, Option.map_none, Option.map_some, Option.some.injEq, and_true, decide_false, decide_true, true_and, reduceCtorEq, Nat.reduceEqDiff, ↓reduceIte, Int.reduceEq, Int.reduceLT, Int.reduceLE, Nat.reduceAdd, e7]; done) | exact e7 | (simp only [SX, Opd.ev, resVal, resVals, ARes.val, Bool.false_eq_true, Bool.not_false, Bool.not_true, List.getD_cons_succ, List.getD_cons_zero, List.map_cons, List.map_nil, Nat.add_zero, Nat.zero_add, Option.map_none, Option.map_some, Option.some.injEq, and_true, decide_false, decide_true, true_and, reduceCtorEq, Nat.reduceEqDiff, ↓reduceIte, Int.reduceEq, Int.reduceLT, Int.reduceLE, Nat.reduceAdd, e7]; rfl)), (by first | (simp only [SX, Opd.ev, resVal, resVals, ARes.val, Bool.false_eq_true, Bool.not_false, Bool.not_true, List.getD_cons_succ, List.getD_cons_zero, List.map_cons, List.map_nil, Nat.add_zero, Nat.zero_add, Option.map_none, Option.map_some, Option.some.injEq, and_true, decide_false, decide_true, true_and, reduceCtorEq, Nat.reduceEqDiff, ↓reduceIte, Int.reduceEq, Int.reduceLT, Int.reduceLE, Nat.reduceAdd, e33]; done) | exact e33 | (simp only [SX, Opd.ev, resVal, resVals, ARes.val, Bool.false_eq_true, Bool.not_false, Bool.not_true, List.getD_cons_succ, List.getD_cons_zero, List.map_cons, List.map_nil, Nat.add_zero, Nat.zero_add, Option.map_none, Option.map_some, Option.some.injEq, and_true, decide_false, decide_true, true_and, reduceCtorEq, Nat.reduceEqDiff, ↓reduceIte, Int.reduceEq, Int.reduceLT, Int.reduceLE, Nat.reduceAdd, e33]; rfl)), (by first | (simp only [SX, Opd.ev, resVal, resVals, ARes.val, Bool.false_eq_true, Bool.not_false, Bool.not_true, List.getD_cons_succ, List.getD_cons_zero, List.map_cons, List.map_nil, Nat.add_zero, Nat.zero_add, Option.map_none, Option.map_some, Option.some.injEq, and_true, decide_false, decide_true, true_and, reduceCtorEq, Nat.reduceEqDiff, ↓reduceIte, Int.reduceEq, Int.reduceLT, Int.reduceLE, Nat.reduceAdd]; done) | (simp only [SX, Opd.ev, resVal, resVals, ARes.val, Bool.false_eq_true, Bool.not_false, Bool.not_true, List.getD_cons_succ, List.getD_cons_zero, List.map_cons, List.map_nil, Nat.add_zero, Nat.zero_add, Option.map_none, Option.map_some, Option.some.injEq, and_true, decide_false, decide_true, true_and, reduceCtorEq, Nat.reduceEqDiff, ↓reduceIte, Int.reduceEq, Int.reduceLT, Int.reduceLE, Nat.reduceAdd]; rfl) | rfl)⟩⟩
    · simp only [e3, e5, e7, e33, e34, d, SX, Opd.ev, resVal, resVals, ARes.val, Bool.false_eq_true, Bool.not_false, Bool.not_true, List.getD_cons_succ, List.getD_cons_zero, List.map_cons, List.map_nil, Nat.add_zero, Nat.zero_add, Option.map_none, Option.map_some, Option.some.injEq, and_true, decide_false, decide_true, true_and, reduceCtorEq, Nat.reduceEqDiff, ↓reduceIte, Int.reduceEq, Int.reduceLT, Int.reduceLE, Nat.reduceAdd]
      exact c3_spec fq hf0 ht0 g3 hp3 (by omega) hq hm hx hy (by first | (simp only [SX, Opd.ev, resVal, resVals, ARes.val, Bool.false_eq_true, Bool.not_false, Bool.not_true, List.getD_cons_succ, List.getD_cons_zero, List.map_cons, List.map_nil, Nat.add_zero, Nat.zero_add, Option.map_none, Option.map_some, Option.some.injEq, and_true, decide_false, decide_true, true_and, reduceCtorEq, Nat.reduceEqDiff, ↓reduceIte, Int.reduceEq, Int.reduceLT, Int.reduceLE, Nat.reduceAdd, e3]; done) | exact e3 | (simp only [SX, Opd.ev, resVal, resVals, ARes.val, Bool.false_eq_true, Bool.not_false, Bool.not_true, List.getD_cons_succ, List.getD_cons_zero, List.map_cons, List.map_nil, Nat.add_zero, Nat.zero_add, Option.map_none, Option.map_some, Option.some.injEq, and_true, decide_false, decide_true, true_and, reduceCtorEq, Nat.reduceEqDiff, ↓reduceIte, Int.reduceEq, Int.reduceLT, Int.reduceLE, Nat.reduceAdd, e3]; rfl)) (by first | (simp only [SX, Opd.ev, resVal, resVals, ARes.val, Bool.false_eq_true, Bool.not_false, Bool.not_true, List.getD_cons_succ, List.getD_cons_zero, List.map_cons, List.map_nil, Nat.add_zero, Nat.zero_add, Option.map_none, Option.map_some, Option.some.injEq, and_true, decide_false, decide_true, true_and, reduceCtorEq, Nat.reduceEqDiff, ↓reduceIte, Int.reduceEq, Int.reduceLT, Int.reduceLE, Nat.reduceAdd, e7]; done) | exact e7 | (simp only [SX, Opd.ev, resVal, resVals, ARes.val, Bool.false_eq_true, Bool.not_false, Bool.not_true, List.getD_cons_succ, List.getD_cons_zero, List.map_cons, List.map_nil, Nat.add_zero, Nat.zero_add, Option.map_none, Option.map_some, Option.some.injEq, and_true, decide_false, decide_true, true_and, reduceCtorEq, Nat.reduceEqDiff, ↓reduceIte, Int.reduceEq, Int.reduceLT, Int.reduceLE, Nat.reduceAdd, e7]; rfl)) hP
set_option maxHeartbeats 8000000 in
theorem c1_spec (hf : Fr H) (ht : hasTabs H TT = true) {base0 q r : Nat} {L : List Cel} {wn hn : Nat} {v' : AV} {x' y' : Nat} {s' : Bool} {fh fx fy : Int} {fs bl : Bool} {u : AV} {l' m : List Ce} (hq : Hp base0 H L) (hm : (⟨q, 6, mat wn hn v' x' y' s'⟩ : Cel) ∈ L) (hm2 : (⟨r, 6, mat wn fh u fx fy fs⟩ : Cel) ∈ L) (hx : x' < 400) (hy : y' < 400) (hw4 : wn ≤ 400) (hh4 : hn ≤ 400) (r1 : RowS H v' l') (r2 : RowS H u m) (hl1 : l'.length = wn * hn) (hl2 : m.length = wn * hn) (h16 : wn * hn ≤ 1600) (hi : InP l') {e : Env} (e3 : Env.get e 3 = .ptr q 0) (e5 : Env.get e 5 = .ptr r 0) (e6 : Env.get e 6 = .bool bl) {P : AV → AHeap → Prop} (hP : ∀ t H', t ≠ [] → Gr H H' → P (.str t) H') :
    ACode.wp Q A13_c1 (fnK [.t 4] P) e H := by
  have tn := TelAt.new (base := H.next) (H := H) (bt := 62) (ct := 5) (a := blankC.at) (Nat.le_refl _) hf (by omega) (by omega) rfl
  obtain ⟨H1, s1⟩ : ∃ H1, H.alloc (.row ⟨.nilp :: .nils :: blankC.at, 0, false, true, 62⟩) = H1 := ⟨_, rfl⟩
  rw [s1] at tn
  have g1 : Gr H H1 := by
    rw [← s1]
    exact ⟨fun c hc => by rw [AHeap.get_alloc, if_neg (by omega)], by rw [AHeap.next_alloc]; omega, fun c hc => by rw [AHeap.next_alloc] at hc; rw [AHeap.get_alloc, if_neg (by omega)]; exact hf c (by omega)⟩
  cases bl with
  | false =>
    simp only [A13_c1, e3, e5, e6, run_build0, run_boxT, boxT_tel, s1, SX, Opd.ev, resVal, resVals, ARes.val, Bool.false_eq_true, Bool.not_false, Bool.not_true, List.getD_cons_succ, List.getD_cons_zero, List.map_cons, List.map_nil, Nat.add_zero, Nat.zero_add, Option.map_none, Option.map_some, Option.some.injEq, and_true, decide_false, decide_true, true_and, reduceCtorEq, Nat.reduceEqDiff, ↓reduceIte, Int.reduceEq, Int.reduceLT, Int.reduceLE, Nat.reduceAdd]
    exact c2_spec fq hf ht g1 tn (by simp) hq hm hm2 hx hy hw4 hh4 r1 r2 hl1 hl2 h16 hi (by first | (simp only [SX, Opd.ev, resVal, resVals, ARes.val, Bool.false_eq_true, Bool.not_false, Bool.not_true, List.getD_cons_succ, List.getD_cons_zero, List.map_cons, List.map_nil, Nat.add_zero, Nat.zero_add, Option.map_none, Option.map_some, Option.some.injEq, and_true, decide_false, decide_true, true_and, reduceCtorEq, Nat.reduceEqDiff, ↓reduceIte, Int.reduceEq, Int.reduceLT, Int.reduceLE, Nat.reduceAdd, e3]; done) | exact e3 | (simp only [SX, Opd.ev, resVal, resVals, ARes.val, Bool.false_eq_true, Bool.not_false, Bool.not_true, List.getD_cons_succ, List.getD_cons_zero, List.map_cons, List.map_nil, Nat.add_zero, Nat.zero_add, Option.map_none, Option.map_some, Option.some.injEq, and_true, decide_false, decide_true, true_and, reduceCtorEq, Nat.reduceEqDiff, ↓reduceIte, Int.reduceEq, Int.reduceLT, Int.reduceLE, Nat.reduceAdd, e3]; rfl)) (by first | (simp only [SX, Opd.ev, resVal, resVals, ARes.val, Bool.false_eq_true, Bool.not_false, Bool.not_true, List.getD_cons_succ, List.getD_cons_zero, List.map_cons, List.map_nil, Nat.add_zero, Nat.zero_add, Option.map_none, Option.map_some, Option.some.injEq, and_true, decide_false, decide_true, true_and, reduceCtorEq, Nat.reduceEqDiff, ↓reduceIte, Int.reduceEq, Int.reduceLT, Int.reduceLE, Nat.reduceAdd, e5]; done) | exact e5 | (simp only [SX, Opd.ev, resVal, resVals, ARes.val, Bool.false_eq_true, Bool.not_false, Bool.not_true, List.getD_cons_succ, List.getD_cons_zero, List.map_cons, List.map_nil, Nat.add_zero, Nat.zero_add, Option.map_none, Option.map_some, Option.some.injEq, and_true, decide_false, decide_true, true_and, reduceCtorEq, Nat.reduceEqDiff, ↓reduceIte, Int.reduceEq, Int.reduceLT, Int.reduceLE, Nat.reduceAdd, e5]; rfl)) (by first | (simp only [SX, Opd.ev, resVal, resVals, ARes.val, Bool.false_eq_true, Bool.not_false, Bool.not_true, List.getD_cons_succ, List.getD_cons_zero, List.map_cons, List.map_nil, Nat.add_zero, Nat.zero_add, Option.map_none, Option.map_some, Option.some.injEq, and_true, decide_false, decide_true, true_and, reduceCtorEq, Nat.reduceEqDiff, ↓reduceIte, Int.reduceEq, Int.reduceLT, Int.reduceLE, Nat.reduceAdd]; done) | (simp only [SX, Opd.ev, resVal, resVals, ARes.val, Bool.false_eq_true, Bool.not_false, Bool.not_true, List.getD_cons_succ, List.getD_cons_zero, List.map_cons, List.map_nil, Nat.add_zero, Nat.zero_add, Option.map_none, Option.map_some, Option.some.injEq, and_true, decide_false, decide_true, true_and, reduceCtorEq, Nat.reduceEqDiff, ↓reduceIte, Int.reduceEq, Int.reduceLT, Int.reduceLE, Nat.reduceAdd]; rfl) | rfl) hP
  | true =>
    simp only [A13_c1, e3, e5, e6, run_build0, run_boxT, boxT_tel, s1, SX, Opd.ev, resVal, resVals, ARes.val, Bool.false_eq_true, Bool.not_false, Bool.not_true, List.getD_cons_succ, List.getD_cons_zero, List.map_cons, List.map_nil, Nat.add_zero, Nat.zero_add, Option.map_none, Option.map_some, Option.some.injEq, and_true, decide_false, decide_true, true_and, reduceCtorEq, Nat.reduceEqDiff, ↓reduceIte, Int.reduceEq, Int.reduceLT, Int.reduceLE, Nat.reduceAdd]
    refine (ws_spec fq.bq.cq tn rfl [27, 91, 50, 74] (by simp)).mono ?_
    rintro _ H2 ⟨hp2, k2, n2⟩
    simp only [e3, e5, e6, SX, Opd.ev, resVal, resVals, ARes.val, Bool.false_eq_true, Bool.not_false, Bool.not_true, List.getD_cons_succ, List.getD_cons_zero, List.map_cons, List.map_nil, Nat.add_zero, Nat.zero_add, Option.map_none, Option.map_some, Option.some.injEq, and_true, decide_false, decide_true, true_and, reduceCtorEq, Nat.reduceEqDiff, ↓reduceIte, Int.reduceEq, Int.reduceLT, Int.reduceLE, Nat.reduceAdd]
    exact c2_spec fq hf ht ⟨g1.keep.trans k2, Nat.le_trans g1.next n2.le, hp2.fr⟩ hp2 (by simp) hq hm hm2 hx hy hw4 hh4 r1 r2 hl1 hl2 h16 hi (by first | (simp only [SX, Opd.ev, resVal, resVals, ARes.val, Bool.false_eq_true, Bool.not_false, Bool.not_true, List.getD_cons_succ, List.getD_cons_zero, List.map_cons, List.map_nil, Nat.add_zero, Nat.zero_add, Option.map_none, Option.map_some, Option.some.injEq, and_true, decide_false, decide_true, true_and, reduceCtorEq, Nat.reduceEqDiff, ↓reduceIte, Int.reduceEq, Int.reduceLT, Int.reduceLE, Nat.reduceAdd, e3]; done) | exact e3 | (simp only [SX, Opd.ev, resVal, resVals, ARes.val, Bool.false_eq_true, Bool.not_false, Bool.not_true, List.getD_cons_succ, List.getD_cons_zero, List.map_cons, List.map_nil, Nat.add_zero, Nat.zero_add, Option.map_none, Option.map_some, Option.some.injEq, and_true, decide_false, decide_true, true_and, reduceCtorEq, Nat.reduceEqDiff, ↓reduceIte, Int.reduceEq, Int.reduceLT, Int.reduceLE, Nat.reduceAdd, e3]; rfl)) (by first | (simp only [SX, Opd.ev, resVal, resVals, ARes.val, Bool.false_eq_true, Bool.not_false, Bool.not_true, List.getD_cons_succ, List.getD_cons_zero, List.map_cons, List.map_nil, Nat.add_zero, Nat.zero_add, Option.map_none, Option.map_some, Option.some.injEq, and_true, decide_false, decide_true, true_and, reduceCtorEq, Nat.reduceEqDiff, ↓reduceIte, Int.reduceEq, Int.reduceLT, Int.reduceLE, Nat.reduceAdd, e5]; done) | exact e5 | (simp only [SX, Opd.ev, resVal, resVals, ARes.val, Bool.false_eq_true, Bool.not_false, Bool.not_true, List.getD_cons_succ, List.getD_cons_zero, List.map_cons, List.map_nil, Nat.add_zero, Nat.zero_add, Option.map_none, Option.map_some, Option.some.injEq, and_true, decide_false, decide_true, true_and, reduceCtorEq, Nat.reduceEqDiff, ↓reduceIte, Int.reduceEq, Int.reduceLT, Int.reduceLE, Nat.reduceAdd, e5]; rfl)) (by first | (simp only [SX, Opd.ev, resVal, resVals, ARes.val, Bool.false_eq_true, Bool.not_false, Bool.not_true, List.getD_cons_succ, List.getD_cons_zero, List.map_cons, List.map_nil, Nat.add_zero, Nat.zero_add, Option.map_none, Option.map_some, Option.some.injEq, and_true, decide_false, decide_true, true_and, reduceCtorEq, Nat.reduceEqDiff, ↓reduceIte, Int.reduceEq, Int.reduceLT, Int.reduceLE, Nat.reduceAdd]; done) | (simp only [SX, Opd.ev, resVal, resVals, ARes.val, Bool.false_eq_true, Bool.not_false, Bool.not_true, List.getD_cons_succ, List.getD_cons_zero, List.map_cons, List.map_nil, Nat.add_zero, Nat.zero_add, Option.map_none, Option.map_some, Option.some.injEq, and_true, decide_false, decide_true, true_and, reduceCtorEq, Nat.reduceEqDiff, ↓reduceIte, Int.reduceEq, Int.reduceLT, Int.reduceLE, Nat.reduceAdd]; rfl) | rfl) hP
end
theorem rightM_parts {w h x y : Int} {l : List Ce} (h1 : rightM w h x y l = true) : sizeP w h = true ∧ (l.length : Int) = w * h ∧ 0 ≤ x ∧ x < w ∧ 0 ≤ y ∧ y < h := by
  unfold rightM inP at h1
  simp only [Bool.and_eq_true, decide_eq_true_eq] at h1
  obtain ⟨⟨⟨a, b⟩, ⟨⟨c, d⟩, e⟩, f⟩, _⟩ := h1
  exact ⟨a, b, c, d, e, f⟩
section
variable {Q : Prog} (fq : PfQ Q) {H : AHeap}
include fq
set_option maxHeartbeats 16000000 in
theorem tell_spec (ht : hasTabs H TT = true) (hf : Fr H) {w h x y : Int} {s : Bool} {v : AV} {l : List Ce} {w' h' x' y' : Int} {s' : Bool} {v' : AV} {l' : List Ce} (h1 : RowS H v l) (h2 : RowS H v' l') (hl : l.length ≤ 1600) (hl' : l'.length ≤ 1600) (hi : InP l') :
    FnTo Q 13 [.agg (mat w h v x y s), .agg (mat w' h' v' x' y' s')] H (fun r H' => (∃ t, r = .str t ∧ (t = [] ↔ (rightM w' h' x' y' l' = false ∨ (rightM w h x y l = true ∧ sameM w h x y s l w' h' x' y' s' l' = true)))) ∧ Gr H H') := by
  refine fn_wp (fq.bq.cq.nq.pq.ho 13 rfl _) fq.q13 (by simp [A13]) ?_
  obtain ⟨H1, s1, g1, k1⟩ := (Hp.nil H hf).make (mat w h v x y s) 6
  obtain ⟨H2, s2, g2, k2⟩ := g1.make (mat w' h' v' x' y' s') 6
  obtain ⟨p, hp⟩ : ∃ p, H.next = p := ⟨_, rfl⟩
  obtain ⟨q, hq⟩ : ∃ q, H1.next = q := ⟨_, rfl⟩
  have gg := g2.gr (k1.trans k2)
  have kk := k1.trans k2
  have hb0 : p ≤ H2.next := by rw [← hp]; exact gg.next
  rw [hp, hq] at g2
  rw [hp] at kk
  have toG : ∀ {H' : AHeap} {L : List Cel}, Hp p H' L → Keep p H H' → Gr H H' := by rw [← hp]; exact fun a b => a.gr b
  have b6 := g2.loadN (b := q) (k := 6) (cs := mat w' h' v' x' y' s') (by simp) (n := 6) rfl
  simp only [A13, boxV_agg (mat_one h1.one), boxV_agg (mat_one h2.one), s1, s2, hp, hq, b6, SX, Opd.ev, resVal, resVals, ARes.val, Bool.false_eq_true, Bool.not_false, Bool.not_true, List.getD_cons_succ, List.getD_cons_zero, List.map_cons, List.map_nil, Nat.add_zero, Nat.zero_add, Option.map_none, Option.map_some, Option.some.injEq, and_true, decide_false, decide_true, true_and, reduceCtorEq, Nat.reduceEqDiff, ↓reduceIte, Int.reduceEq, Int.reduceLT, Int.reduceLE, Nat.reduceAdd]
  refine (Right_spec fq.bq.cq.nq.pq (gg.tabs hf ht) g2.fr (h2.grow hf gg)).mono ?_
  rintro _ H3 ⟨rfl, gr3⟩
  cases hr : rightM w' h' x' y' l' with
  | false =>
    simp only [SX, Opd.ev, resVal, resVals, ARes.val, Bool.false_eq_true, Bool.not_false, Bool.not_true, List.getD_cons_succ, List.getD_cons_zero, List.map_cons, List.map_nil, Nat.add_zero, Nat.zero_add, Option.map_none, Option.map_some, Option.some.injEq, and_true, decide_false, decide_true, true_and, reduceCtorEq, Nat.reduceEqDiff, ↓reduceIte, Int.reduceEq, Int.reduceLT, Int.reduceLE, Nat.reduceAdd]
    exact ⟨⟨[], rfl, by simp⟩, gg.trans gr3⟩
  | true =>
    obtain ⟨sz, hlw, hx0, hx1, hy0, hy1⟩ := rightM_parts hr
    obtain ⟨w0, w4, h0, h4⟩ := sizeP_true sz
    obtain ⟨wn, rfl⟩ : ∃ n : Nat, w' = n := ⟨w'.toNat, by omega⟩
    obtain ⟨hn, rfl⟩ : ∃ n : Nat, h' = n := ⟨h'.toNat, by omega⟩
    obtain ⟨xn, rfl⟩ : ∃ n : Nat, x' = n := ⟨x'.toNat, by omega⟩
    obtain ⟨yn, rfl⟩ : ∃ n : Nat, y' = n := ⟨y'.toNat, by omega⟩
    have hl1 : l'.length = wn * hn := by rw [← Int.natCast_mul] at hlw; omega
    have h16 : wn * hn ≤ 1600 := by omega
    have g3 := g2.of_gr gr3
    have gg3 := gg.trans gr3
    have k3 : Keep p H H3 := kk.trans (gr3.keep.le hb0)
    have a6 := g3.loadN (b := p) (k := 6) (cs := mat w h v x y s) (by simp) (n := 6) rfl
    have b6 := g3.loadN (b := q) (k := 6) (cs := mat wn hn v' xn yn s') (by simp) (n := 6) rfl
    simp only [a6, b6, SX, Opd.ev, resVal, resVals, ARes.val, Bool.false_eq_true, Bool.not_false, Bool.not_true, List.getD_cons_succ, List.getD_cons_zero, List.map_cons, List.map_nil, Nat.add_zero, Nat.zero_add, Option.map_none, Option.map_some, Option.some.injEq, and_true, decide_false, decide_true, true_and, reduceCtorEq, Nat.reduceEqDiff, ↓reduceIte, Int.reduceEq, Int.reduceLT, Int.reduceLE, Nat.reduceAdd]
    refine (base_spec fq.bq.cq.nq (gg3.tabs hf ht) g3.fr (h1.grow hf gg3) h2.one sz).mono ?_
    rintro r H4 ⟨gr4, hbase⟩
    have g4 := g3.of_gr gr4
    have k4 : Keep p H H4 := k3.trans (gr4.keep.le (Nat.le_trans hb0 gr3.next))
    obtain ⟨H5, s5, g5, k5⟩ := (Hp.nil H4 g4.fr).make [.int .i64 0, .int .i64 0, .nils, .int .i64 0, .int .i64 0, .bool false] 6
    obtain ⟨u, hu⟩ : ∃ u, H4.next = u := ⟨_, rfl⟩
    have gg4 : Gr H H4 := gg3.trans gr4
    have store : ∀ (fw fh fx fy : Int) (fs : Bool) (fv : AV), fv.one = true → ∃ H6, storeE H5 6 (.ptr u 0) (.agg (mat fw fh fv fx fy fs)) = some (.undef, H6) ∧ Gr H4 H6 ∧ Hp p H6 [⟨u, 6, mat fw fh fv fx fy fs⟩, ⟨q, 6, mat wn hn v' xn yn s'⟩, ⟨p, 6, mat w h v x y s⟩] := fun fw fh fx fy fs fv ho => by
      obtain ⟨H6, s6, g6, k6, _⟩ := g5.storeN (n := 6) (new := mat fw fh fv fx fy fs) rfl rfl (mat_one ho)
      have gr6 := g6.gr (k5.trans k6)
      have g7 := g4.joinG gr6 g6
      rw [hu] at s6 g7
      exact ⟨H6, s6, gr6, g7⟩
    by_cases cb : rightM w h x y l = true ∧ w = wn ∧ h = hn
    · rw [if_pos cb] at hbase
      subst hbase
      obtain ⟨cb1, rfl, rfl⟩ := cb
      obtain ⟨H6, s6, gr6, g6⟩ := store wn hn x y s v h1.one
      have gg6 := gg4.trans gr6
      have x0 : extractV 0 (.tup [.agg (mat wn hn v x y s), .bool false]) = some (.agg (mat wn hn v x y s)) := rfl
      have x1 : extractV 1 (.tup [.agg (mat wn hn v x y s), .bool false]) = some (.bool false) := rfl
      have a6 := g6.loadN (b := p) (k := 6) (cs := mat wn hn v x y s) (by simp) (n := 6) rfl
      have b6 := g6.loadN (b := q) (k := 6) (cs := mat wn hn v' xn yn s') (by simp) (n := 6) rfl
      simp only [x0, x1, run_allocL, s5, hu, s6, a6, b6, SX, Opd.ev, resVal, resVals, ARes.val, Bool.false_eq_true, Bool.not_false, Bool.not_true, List.getD_cons_succ, List.getD_cons_zero, List.map_cons, List.map_nil, Nat.add_zero, Nat.zero_add, Option.map_none, Option.map_some, Option.some.injEq, and_true, decide_false, decide_true, true_and, reduceCtorEq, Nat.reduceEqDiff, ↓reduceIte, Int.reduceEq, Int.reduceLT, Int.reduceLE, Nat.reduceAdd]
      refine (Same_spec fq.bq.cq.nq g6.fr (h1.grow hf gg6) (h2.grow hf gg6) (by omega)).mono ?_
      rintro _ H7 ⟨rfl, gr7⟩
      have gg7 := gg6.trans gr7
      obtain ⟨_, hlm, _⟩ := rightM_parts cb1
      have hlm1 : l.length = wn * hn := by rw [← Int.natCast_mul] at hlm; omega
      cases hs : sameM wn hn x y s l wn hn xn yn s' l' with
      | true =>
        simp only [SX, Opd.ev, resVal, resVals, ARes.val, Bool.false_eq_true, Bool.not_false, Bool.not_true, List.getD_cons_succ, List.getD_cons_zero, List.map_cons, List.map_nil, Nat.add_zero, Nat.zero_add, Option.map_none, Option.map_some, Option.some.injEq, and_true, decide_false, decide_true, true_and, reduceCtorEq, Nat.reduceEqDiff, ↓reduceIte, Int.reduceEq, Int.reduceLT, Int.reduceLE, Nat.reduceAdd]
        exact ⟨⟨[], rfl, by simp [cb1]⟩, gg7⟩
      | false =>
        simp only [SX, Opd.ev, resVal, resVals, ARes.val, Bool.false_eq_true, Bool.not_false, Bool.not_true, List.getD_cons_succ, List.getD_cons_zero, List.map_cons, List.map_nil, Nat.add_zero, Nat.zero_add, Option.map_none, Option.map_some, Option.some.injEq, and_true, decide_false, decide_true, true_and, reduceCtorEq, Nat.reduceEqDiff, ↓reduceIte, Int.reduceEq, Int.reduceLT, Int.reduceLE, Nat.reduceAdd]
        exact c1_spec fq gg7.fr (gg7.tabs hf ht) (g6.of_gr gr7) (q := q) (r := u) (x' := xn) (y' := yn) (List.mem_cons_of_mem _ (List.mem_cons_self ..)) (List.mem_cons_self ..) (by omega) (by omega) (by omega) (by omega) (h2.grow hf gg7) (h1.grow hf gg7) hl1 hlm1 h16 hi (by first | (simp only [SX, Opd.ev, resVal, resVals, ARes.val, Bool.false_eq_true, Bool.not_false, Bool.not_true, List.getD_cons_succ, List.getD_cons_zero, List.map_cons, List.map_nil, Nat.add_zero, Nat.zero_add, Option.map_none, Option.map_some, Option.some.injEq, and_true, decide_false, decide_true, true_and, reduceCtorEq, Nat.reduceEqDiff, ↓reduceIte, Int.reduceEq, Int.reduceLT, Int.reduceLE, Nat.reduceAdd]; done) | (simp only [SX, Opd.ev, resVal, resVals, ARes.val, Bool.false_eq_true, Bool.not_false, Bool.not_true, List.getD_cons_succ, List.getD_cons_zero, List.map_cons, List.map_nil, Nat.add_zero, Nat.zero_add, Option.map_none, Option.map_some, Option.some.injEq, and_true, decide_false, decide_true, true_and, reduceCtorEq, Nat.reduceEqDiff, ↓reduceIte, Int.reduceEq, Int.reduceLT, Int.reduceLE, Nat.reduceAdd]; rfl) | rfl) (by first | (simp only [SX, Opd.ev, resVal, resVals, ARes.val, Bool.false_eq_true, Bool.not_false, Bool.not_true, List.getD_cons_succ, List.getD_cons_zero, List.map_cons, List.map_nil, Nat.add_zero, Nat.zero_add, Option.map_none, Option.map_some, Option.some.injEq, and_true, decide_false, decide_true, true_and, reduceCtorEq, Nat.reduceEqDiff, ↓reduceIte, Int.reduceEq, Int.reduceLT, Int.reduceLE, Nat.reduceAdd]; done) | (simp only [SX, Opd.ev, resVal, resVals, ARes.val, Bool.false_eq_true, Bool.not_false, Bool.not_true, List.getD_cons_succ, List.getD_cons_zero, List.map_cons, List.map_nil, Nat.add_zero, Nat.zero_add, Option.map_none, Option.map_some, Option.some.injEq, and_true, decide_false, decide_true, true_and, reduceCtorEq, Nat.reduceEqDiff, ↓reduceIte, Int.reduceEq, Int.reduceLT, Int.reduceLE, Nat.reduceAdd]; rfl) | rfl) (by first | (simp only [SX, Opd.ev, resVal, resVals, ARes.val, Bool.false_eq_true, Bool.not_false, Bool.not_true, List.getD_cons_succ, List.getD_cons_zero, List.map_cons, List.map_nil, Nat.add_zero, Nat.zero_add, Option.map_none, Option.map_some, Option.some.injEq, and_true, decide_false, decide_true, true_and, reduceCtorEq, Nat.reduceEqDiff, ↓reduceIte, Int.reduceEq, Int.reduceLT, Int.reduceLE, Nat.reduceAdd]; done) | (simp only [SX, Opd.ev, resVal, resVals, ARes.val, Bool.false_eq_true, Bool.not_false, Bool.not_true, List.getD_cons_succ, List.getD_cons_zero, List.map_cons, List.map_nil, Nat.add_zero, Nat.zero_add, Option.map_none, Option.map_some, Option.some.injEq, and_true, decide_false, decide_true, true_and, reduceCtorEq, Nat.reduceEqDiff, ↓reduceIte, Int.reduceEq, Int.reduceLT, Int.reduceLE, Nat.reduceAdd]; rfl) | rfl) (fun t H' h3 hg => ⟨⟨t, rfl, by simp [h3]⟩, gg7.trans hg⟩)
    · rw [if_neg cb] at hbase
      obtain ⟨fv, m, rfl, rm, hm⟩ := hbase
      obtain ⟨H6, s6, gr6, g6⟩ := store wn hn 0 0 false fv rm.one
      have gg6 := gg4.trans gr6
      have x0 : extractV 0 (.tup [.agg (mat wn hn fv 0 0 false), .bool true]) = some (.agg (mat wn hn fv 0 0 false)) := rfl
      have x1 : extractV 1 (.tup [.agg (mat wn hn fv 0 0 false), .bool true]) = some (.bool true) := rfl
      have hne : ¬ (rightM w h x y l = true ∧ sameM w h x y s l wn hn xn yn s' l' = true) := fun hh => cb ⟨hh.1, by
        have := hh.2
        simp only [sameM, Bool.and_eq_true, decide_eq_true_eq] at this
        exact ⟨this.1, this.2.1⟩⟩
      have hm1 : m.length = wn * hn := by rw [hm, Int.toNat_natCast, Int.toNat_natCast]
      simp only [x0, x1, run_allocL, s5, hu, s6, wantV_undef, SX, Opd.ev, resVal, resVals, ARes.val, Bool.false_eq_true, Bool.not_false, Bool.not_true, List.getD_cons_succ, List.getD_cons_zero, List.map_cons, List.map_nil, Nat.add_zero, Nat.zero_add, Option.map_none, Option.map_some, Option.some.injEq, and_true, decide_false, decide_true, true_and, reduceCtorEq, Nat.reduceEqDiff, ↓reduceIte, Int.reduceEq, Int.reduceLT, Int.reduceLE, Nat.reduceAdd]
      exact c1_spec fq gg6.fr (gg6.tabs hf ht) g6 (q := q) (r := u) (x' := xn) (y' := yn) (List.mem_cons_of_mem _ (List.mem_cons_self ..)) (List.mem_cons_self ..) (by omega) (by omega) (by omega) (by omega) (h2.grow hf gg6) (rm.grow g4.fr gr6) hl1 hm1 h16 hi (by first | (simp only [SX, Opd.ev, resVal, resVals, ARes.val, Bool.false_eq_true, Bool.not_false, Bool.not_true, List.getD_cons_succ, List.getD_cons_zero, List.map_cons, List.map_nil, Nat.add_zero, Nat.zero_add, Option.map_none, Option.map_some, Option.some.injEq, and_true, decide_false, decide_true, true_and, reduceCtorEq, Nat.reduceEqDiff, ↓reduceIte, Int.reduceEq, Int.reduceLT, Int.reduceLE, Nat.reduceAdd]; done) | (simp only [SX, Opd.ev, resVal, resVals, ARes.val, Bool.false_eq_true, Bool.not_false, Bool.not_true, List.getD_cons_succ, List.getD_cons_zero, List.map_cons, List.map_nil, Nat.add_zero, Nat.zero_add, Option.map_none, Option.map_some, Option.some.injEq, and_true, decide_false, decide_true, true_and, reduceCtorEq, Nat.reduceEqDiff, ↓reduceIte, Int.reduceEq, Int.reduceLT, Int.reduceLE, Nat.reduceAdd]; rfl) | rfl) (by first | (simp only [SX, Opd.ev, resVal, resVals, ARes.val, Bool.false_eq_true, Bool.not_false, Bool.not_true, List.getD_cons_succ, List.getD_cons_zero, List.map_cons, List.map_nil, Nat.add_zero, Nat.zero_add, Option.map_none, Option.map_some, Option.some.injEq, and_true, decide_false, decide_true, true_and, reduceCtorEq, Nat.reduceEqDiff, ↓reduceIte, Int.reduceEq, Int.reduceLT, Int.reduceLE, Nat.reduceAdd]; done) | (simp only [SX, Opd.ev, resVal, resVals, ARes.val, Bool.false_eq_true, Bool.not_false, Bool.not_true, List.getD_cons_succ, List.getD_cons_zero, List.map_cons, List.map_nil, Nat.add_zero, Nat.zero_add, Option.map_none, Option.map_some, Option.some.injEq, and_true, decide_false, decide_true, true_and, reduceCtorEq, Nat.reduceEqDiff, ↓reduceIte, Int.reduceEq, Int.reduceLT, Int.reduceLE, Nat.reduceAdd]; rfl) | rfl) (by first | (simp only [SX, Opd.ev, resVal, resVals, ARes.val, Bool.false_eq_true, Bool.not_false, Bool.not_true, List.getD_cons_succ, List.getD_cons_zero, List.map_cons, List.map_nil, Nat.add_zero, Nat.zero_add, Option.map_none, Option.map_some, Option.some.injEq, and_true, decide_false, decide_true, true_and, reduceCtorEq, Nat.reduceEqDiff, ↓reduceIte, Int.reduceEq, Int.reduceLT, Int.reduceLE, Nat.reduceAdd]; done) | (simp only [SX, Opd.ev, resVal, resVals, ARes.val, Bool.false_eq_true, Bool.not_false, Bool.not_true, List.getD_cons_succ, List.getD_cons_zero, List.map_cons, List.map_nil, Nat.add_zero, Nat.zero_add, Option.map_none, Option.map_some, Option.some.injEq, and_true, decide_false, decide_true, true_and, reduceCtorEq, Nat.reduceEqDiff, ↓reduceIte, Int.reduceEq, Int.reduceLT, Int.reduceLE, Nat.reduceAdd]; rfl) | rfl) (fun t H' h3 hg => ⟨⟨t, rfl, ⟨fun e => absurd e h3, fun e => absurd e (fun e => e.elim (fun e => by cases e) hne)⟩⟩, gg6.trans hg⟩)
theorem great_spec (q12 : Q.fns 12 = some A12) (hf : Fr H) {w h x y : Int} {s : Bool} {v : AV} {l : List Ce} (h1 : RowS H v l) : FnTo Q 12 [.agg (mat w h v x y s)] H (fun r H' => r = .bool (decide ((1600 : Int) < l.length)) ∧ Gr H H') := by
  refine fn_wp (fq.bq.cq.nq.pq.ho 12 rfl _) q12 (by simp [A12]) ?_
  obtain ⟨H1, s1, g1, k1⟩ := (Hp.nil H hf).make (mat w h v x y s) 6
  have l2 := g1.load (List.mem_cons_self ..) (o := 2) (v := v) rfl
  have ln := h1.len H1
  simp only [A12, boxV_agg (mat_one h1.one), s1, l2, ln, SX, Opd.ev, resVal, resVals, ARes.val, Bool.false_eq_true, Bool.not_false, Bool.not_true, List.getD_cons_succ, List.getD_cons_zero, List.map_cons, List.map_nil, Nat.add_zero, Nat.zero_add, Option.map_none, Option.map_some, Option.some.injEq, and_true, decide_false, decide_true, true_and, reduceCtorEq, Nat.reduceEqDiff, ↓reduceIte, Int.reduceEq, Int.reduceLT, Int.reduceLE, Nat.reduceAdd]
  exact g1.gr k1
set_option maxHeartbeats 16000000 in
theorem law4 (q4 : Q.fns 4 = some A4) (q12 : Q.fns 12 = some A12) (yes : Q.orc 6 [] = some (.bool true)) (ht : hasTabs H TT = true) (hf : Fr H) {w h x y : Int} {s : Bool} {v : AV} {l : List Ce} {w' h' x' y' : Int} {s' : Bool} {v' : AV} {l' : List Ce} (h1 : RowS H v l) (h2 : RowS H v' l') (hi : InP l') :
    FnTo Q 4 [.agg (mat w h v x y s), .agg (mat w' h' v' x' y' s')] H (fun r _ => r = .bool true) := by
  have nq := fq.bq.cq.nq
  refine fn_wp (nq.pq.ho 4 rfl _) q4 (by simp [A4]) ?_
  obtain ⟨H1, s1, g1, k1⟩ := (Hp.nil H hf).make (mat w h v x y s) 6
  obtain ⟨H2, s2, g2, k2⟩ := g1.make (mat w' h' v' x' y' s') 6
  obtain ⟨p, hp⟩ : ∃ p, H.next = p := ⟨_, rfl⟩
  obtain ⟨q, hq⟩ : ∃ q, H1.next = q := ⟨_, rfl⟩
  have gg := g2.gr (k1.trans k2)
  rw [hp, hq] at g2
  have lp : ∀ {H'}, Gr H2 H' → loadV H' (some 6) (.ptr p 0) = some (.agg (mat w h v x y s)) := fun {H'} g => (g2.of_gr g).loadN (b := p) (k := 6) (by simp) (n := 6) rfl
  have lq : ∀ {H'}, Gr H2 H' → loadV H' (some 6) (.ptr q 0) = some (.agg (mat w' h' v' x' y' s')) := fun {H'} g => (g2.of_gr g).loadN (b := q) (k := 6) (by simp) (n := 6) rfl
  have tb : ∀ {H'}, Gr H2 H' → hasTabs H' TT = true := fun {H'} g => (gg.trans g).tabs hf ht
  have ra : ∀ {H'}, Gr H2 H' → RowS H' v l := fun {H'} g => h1.grow hf (gg.trans g)
  have rb : ∀ {H'}, Gr H2 H' → RowS H' v' l' := fun {H'} g => h2.grow hf (gg.trans g)
  have r0 := Gr.refl g2.fr
  have wakes : ∀ {H'} {K : AV → AHeap → Prop}, Gr H2 H' → K (.bool true) H' → FnTo Q 6 [] H' K := fun {H'} {K} g hk => fn_orc yes (by rw [fq.bq.tb]; exact tb g) hk
  simp only [A4, boxV_agg (mat_one h1.one), boxV_agg (mat_one h2.one), s1, s2, hp, hq, lp r0, SX, Opd.ev, resVal, resVals, ARes.val, Bool.false_eq_true, Bool.not_false, Bool.not_true, List.getD_cons_succ, List.getD_cons_zero, List.map_cons, List.map_nil, Nat.add_zero, Nat.zero_add, Option.map_none, Option.map_some, Option.some.injEq, and_true, decide_false, decide_true, true_and, reduceCtorEq, Nat.reduceEqDiff, ↓reduceIte, Int.reduceEq, Int.reduceLT, Int.reduceLE, Nat.reduceAdd]
  refine (great_spec fq q12 g2.fr (ra r0)).mono ?_
  rintro _ H3 ⟨rfl, g3⟩
  by_cases c1 : (1600 : Int) < l.length
  · simp only [decide_eq_true c1, wantV_undef, SX, Opd.ev, resVal, resVals, ARes.val, Bool.false_eq_true, Bool.not_false, Bool.not_true, List.getD_cons_succ, List.getD_cons_zero, List.map_cons, List.map_nil, Nat.add_zero, Nat.zero_add, Option.map_none, Option.map_some, Option.some.injEq, and_true, decide_false, decide_true, true_and, reduceCtorEq, Nat.reduceEqDiff, ↓reduceIte, Int.reduceEq, Int.reduceLT, Int.reduceLE, Nat.reduceAdd]
    refine wakes g3 ?_
    simp only [SX, Opd.ev, resVal, resVals, ARes.val, Bool.false_eq_true, Bool.not_false, Bool.not_true, List.getD_cons_succ, List.getD_cons_zero, List.map_cons, List.map_nil, Nat.add_zero, Nat.zero_add, Option.map_none, Option.map_some, Option.some.injEq, and_true, decide_false, decide_true, true_and, reduceCtorEq, Nat.reduceEqDiff, ↓reduceIte, Int.reduceEq, Int.reduceLT, Int.reduceLE, Nat.reduceAdd]
  simp only [decide_eq_false c1, lq g3, wantV_undef, SX, Opd.ev, resVal, resVals, ARes.val, Bool.false_eq_true, Bool.not_false, Bool.not_true, List.getD_cons_succ, List.getD_cons_zero, List.map_cons, List.map_nil, Nat.add_zero, Nat.zero_add, Option.map_none, Option.map_some, Option.some.injEq, and_true, decide_false, decide_true, true_and, reduceCtorEq, Nat.reduceEqDiff, ↓reduceIte, Int.reduceEq, Int.reduceLT, Int.reduceLE, Nat.reduceAdd]
  refine (great_spec fq q12 g3.fr (rb g3)).mono ?_
  rintro _ H4 ⟨rfl, gr4⟩
  have g4 := g3.trans gr4
  by_cases c2 : (1600 : Int) < l'.length
  · simp only [decide_eq_true c2, wantV_undef, SX, Opd.ev, resVal, resVals, ARes.val, Bool.false_eq_true, Bool.not_false, Bool.not_true, List.getD_cons_succ, List.getD_cons_zero, List.map_cons, List.map_nil, Nat.add_zero, Nat.zero_add, Option.map_none, Option.map_some, Option.some.injEq, and_true, decide_false, decide_true, true_and, reduceCtorEq, Nat.reduceEqDiff, ↓reduceIte, Int.reduceEq, Int.reduceLT, Int.reduceLE, Nat.reduceAdd]
    refine wakes g4 ?_
    simp only [SX, Opd.ev, resVal, resVals, ARes.val, Bool.false_eq_true, Bool.not_false, Bool.not_true, List.getD_cons_succ, List.getD_cons_zero, List.map_cons, List.map_nil, Nat.add_zero, Nat.zero_add, Option.map_none, Option.map_some, Option.some.injEq, and_true, decide_false, decide_true, true_and, reduceCtorEq, Nat.reduceEqDiff, ↓reduceIte, Int.reduceEq, Int.reduceLT, Int.reduceLE, Nat.reduceAdd]
  simp only [decide_eq_false c2, lp g4, lq g4, wantV_undef, SX, Opd.ev, resVal, resVals, ARes.val, Bool.false_eq_true, Bool.not_false, Bool.not_true, List.getD_cons_succ, List.getD_cons_zero, List.map_cons, List.map_nil, Nat.add_zero, Nat.zero_add, Option.map_none, Option.map_some, Option.some.injEq, and_true, decide_false, decide_true, true_and, reduceCtorEq, Nat.reduceEqDiff, ↓reduceIte, Int.reduceEq, Int.reduceLT, Int.reduceLE, Nat.reduceAdd]
  refine (tell_spec fq (tb g4) g4.fr (ra g4) (rb g4) (by omega) (by omega) hi).mono ?_
  rintro _ H5 ⟨⟨t, rfl, hT⟩, gr5⟩
  have g5 := g4.trans gr5
  simp only [lq g5, SX, Opd.ev, resVal, resVals, ARes.val, Bool.false_eq_true, Bool.not_false, Bool.not_true, List.getD_cons_succ, List.getD_cons_zero, List.map_cons, List.map_nil, Nat.add_zero, Nat.zero_add, Option.map_none, Option.map_some, Option.some.injEq, and_true, decide_false, decide_true, true_and, reduceCtorEq, Nat.reduceEqDiff, ↓reduceIte, Int.reduceEq, Int.reduceLT, Int.reduceLE, Nat.reduceAdd]
  refine (Right_spec nq.pq (tb g5) g5.fr (rb g5)).mono ?_
  rintro _ H6 ⟨rfl, gr6⟩
  have g6 := g5.trans gr6
  cases hr : rightM w' h' x' y' l' with
  | false =>
    obtain rfl := hT.2 (.inl hr)
    have e0 : binV .eql (.str []) (.str []) = some (.bool true) := rfl
    simp only [e0, lp g6, lq g6, wantV_undef, SX, Opd.ev, resVal, resVals, ARes.val, Bool.false_eq_true, Bool.not_false, Bool.not_true, List.getD_cons_succ, List.getD_cons_zero, List.map_cons, List.map_nil, Nat.add_zero, Nat.zero_add, Option.map_none, Option.map_some, Option.some.injEq, and_true, decide_false, decide_true, true_and, reduceCtorEq, Nat.reduceEqDiff, ↓reduceIte, Int.reduceEq, Int.reduceLT, Int.reduceLE, Nat.reduceAdd]
    refine (unlikeBad_spec nq (tb g6) g6.fr h1.one (rb g6) hr).mono ?_
    rintro _ H7 ⟨rfl, gr7⟩
    simp only [wantV_undef, SX, Opd.ev, resVal, resVals, ARes.val, Bool.false_eq_true, Bool.not_false, Bool.not_true, List.getD_cons_succ, List.getD_cons_zero, List.map_cons, List.map_nil, Nat.add_zero, Nat.zero_add, Option.map_none, Option.map_some, Option.some.injEq, and_true, decide_false, decide_true, true_and, reduceCtorEq, Nat.reduceEqDiff, ↓reduceIte, Int.reduceEq, Int.reduceLT, Int.reduceLE, Nat.reduceAdd]
    refine wakes (g6.trans gr7) ?_
    simp only [SX, Opd.ev, resVal, resVals, ARes.val, Bool.false_eq_true, Bool.not_false, Bool.not_true, List.getD_cons_succ, List.getD_cons_zero, List.map_cons, List.map_nil, Nat.add_zero, Nat.zero_add, Option.map_none, Option.map_some, Option.some.injEq, and_true, decide_false, decide_true, true_and, reduceCtorEq, Nat.reduceEqDiff, ↓reduceIte, Int.reduceEq, Int.reduceLT, Int.reduceLE, Nat.reduceAdd]
  | true =>
    rw [hr] at hT
    have sz := (rightM_parts hr).1
    have tail : ∀ {H7 : AHeap}, Gr H2 H7 → FnTo Q 13 [.agg (mat w' h' v' x' y' s'), .agg (mat w' h' v' x' y' s')] H7 (fun r H' => r = .str [] ∧ Gr H7 H') := fun {H7} g7 => by
      refine (tell_spec fq (tb g7) g7.fr (rb g7) (rb g7) (by omega) (by omega) hi).mono ?_
      rintro _ H8 ⟨⟨t8, rfl, h8⟩, gr8⟩
      obtain rfl := h8.2 (.inr ⟨hr, by simp [sameM]⟩)
      exact ⟨rfl, gr8⟩
    have e0 : binV .eql (.str []) (.str []) = some (.bool true) := rfl
    have et : binV .eql (.str t) (.str []) = some (.bool (decide (t = []))) := by cases t <;> simp [binV, strBin]
    simp only [lp g6, SX, Opd.ev, resVal, resVals, ARes.val, Bool.false_eq_true, Bool.not_false, Bool.not_true, List.getD_cons_succ, List.getD_cons_zero, List.map_cons, List.map_nil, Nat.add_zero, Nat.zero_add, Option.map_none, Option.map_some, Option.some.injEq, and_true, decide_false, decide_true, true_and, reduceCtorEq, Nat.reduceEqDiff, ↓reduceIte, Int.reduceEq, Int.reduceLT, Int.reduceLE, Nat.reduceAdd]
    refine (Right_spec nq.pq (tb g6) g6.fr (ra g6)).mono ?_
    rintro _ H7 ⟨rfl, gr7⟩
    have g7 := g6.trans gr7
    cases hra : rightM w h x y l with
    | false =>
      have tn : decide (t = []) = false := decide_eq_false fun e => by
        have := hT.1 e
        rw [hra] at this
        simp at this
      have bq1 : beqV false (.bool false) (.bool false) = some (.bool true) := rfl
      simp only [et, tn, lq g7, run_beq, bq1, wantV_undef, SX, Opd.ev, resVal, resVals, ARes.val, Bool.false_eq_true, Bool.not_false, Bool.not_true, List.getD_cons_succ, List.getD_cons_zero, List.map_cons, List.map_nil, Nat.add_zero, Nat.zero_add, Option.map_none, Option.map_some, Option.some.injEq, and_true, decide_false, decide_true, true_and, reduceCtorEq, Nat.reduceEqDiff, ↓reduceIte, Int.reduceEq, Int.reduceLT, Int.reduceLE, Nat.reduceAdd]
      refine (tail g7).mono ?_
      rintro _ H8 ⟨rfl, gr8⟩
      have g8 := g7.trans gr8
      simp only [e0, lq g8, wantV_undef, SX, Opd.ev, resVal, resVals, ARes.val, Bool.false_eq_true, Bool.not_false, Bool.not_true, List.getD_cons_succ, List.getD_cons_zero, List.map_cons, List.map_nil, Nat.add_zero, Nat.zero_add, Option.map_none, Option.map_some, Option.some.injEq, and_true, decide_false, decide_true, true_and, reduceCtorEq, Nat.reduceEqDiff, ↓reduceIte, Int.reduceEq, Int.reduceLT, Int.reduceLE, Nat.reduceAdd]
      refine (unlikeSelf_spec nq (tb g8) g8.fr (rb g8) (by omega) sz hr).mono ?_
      rintro _ H9 ⟨rfl, gr9⟩
      simp only [wantV_undef, SX, Opd.ev, resVal, resVals, ARes.val, Bool.false_eq_true, Bool.not_false, Bool.not_true, List.getD_cons_succ, List.getD_cons_zero, List.map_cons, List.map_nil, Nat.add_zero, Nat.zero_add, Option.map_none, Option.map_some, Option.some.injEq, and_true, decide_false, decide_true, true_and, reduceCtorEq, Nat.reduceEqDiff, ↓reduceIte, Int.reduceEq, Int.reduceLT, Int.reduceLE, Nat.reduceAdd]
      refine wakes (g8.trans gr9) ?_
      simp only [SX, Opd.ev, resVal, resVals, ARes.val, Bool.false_eq_true, Bool.not_false, Bool.not_true, List.getD_cons_succ, List.getD_cons_zero, List.map_cons, List.map_nil, Nat.add_zero, Nat.zero_add, Option.map_none, Option.map_some, Option.some.injEq, and_true, decide_false, decide_true, true_and, reduceCtorEq, Nat.reduceEqDiff, ↓reduceIte, Int.reduceEq, Int.reduceLT, Int.reduceLE, Nat.reduceAdd]
    | true =>
      simp only [lp g7, lq g7, wantV_undef, SX, Opd.ev, resVal, resVals, ARes.val, Bool.false_eq_true, Bool.not_false, Bool.not_true, List.getD_cons_succ, List.getD_cons_zero, List.map_cons, List.map_nil, Nat.add_zero, Nat.zero_add, Option.map_none, Option.map_some, Option.some.injEq, and_true, decide_false, decide_true, true_and, reduceCtorEq, Nat.reduceEqDiff, ↓reduceIte, Int.reduceEq, Int.reduceLT, Int.reduceLE, Nat.reduceAdd]
      refine (Same_spec nq g7.fr (ra g7) (rb g7) (by omega)).mono ?_
      rintro _ H8 ⟨rfl, gr8⟩
      have g8 := g7.trans gr8
      have tn : decide (t = []) = sameM w h x y s l w' h' x' y' s' l' := by
        rw [hra] at hT
        simp at hT
        cases hs : sameM w h x y s l w' h' x' y' s' l' with
        | true => exact decide_eq_true (hT.2 hs)
        | false => exact decide_eq_false fun e => by rw [hT.1 e] at hs; cases hs
      obtain ⟨bs, hbs⟩ : ∃ bs, sameM w h x y s l w' h' x' y' s' l' = bs := ⟨_, rfl⟩
      rw [hbs] at tn ⊢
      have bq1 : beqV false (.bool bs) (.bool bs) = some (.bool true) := by cases bs <;> rfl
      simp only [et, tn, lq g8, run_beq, bq1, wantV_undef, SX, Opd.ev, resVal, resVals, ARes.val, Bool.false_eq_true, Bool.not_false, Bool.not_true, List.getD_cons_succ, List.getD_cons_zero, List.map_cons, List.map_nil, Nat.add_zero, Nat.zero_add, Option.map_none, Option.map_some, Option.some.injEq, and_true, decide_false, decide_true, true_and, reduceCtorEq, Nat.reduceEqDiff, ↓reduceIte, Int.reduceEq, Int.reduceLT, Int.reduceLE, Nat.reduceAdd]
      refine (tail g8).mono ?_
      rintro _ H9 ⟨rfl, gr9⟩
      have g9 := g8.trans gr9
      simp only [e0, lq g9, wantV_undef, SX, Opd.ev, resVal, resVals, ARes.val, Bool.false_eq_true, Bool.not_false, Bool.not_true, List.getD_cons_succ, List.getD_cons_zero, List.map_cons, List.map_nil, Nat.add_zero, Nat.zero_add, Option.map_none, Option.map_some, Option.some.injEq, and_true, decide_false, decide_true, true_and, reduceCtorEq, Nat.reduceEqDiff, ↓reduceIte, Int.reduceEq, Int.reduceLT, Int.reduceLE, Nat.reduceAdd]
      refine (unlikeSelf_spec nq (tb g9) g9.fr (rb g9) (by omega) sz hr).mono ?_
      rintro _ H10 ⟨rfl, gr10⟩
      simp only [wantV_undef, SX, Opd.ev, resVal, resVals, ARes.val, Bool.false_eq_true, Bool.not_false, Bool.not_true, List.getD_cons_succ, List.getD_cons_zero, List.map_cons, List.map_nil, Nat.add_zero, Nat.zero_add, Option.map_none, Option.map_some, Option.some.injEq, and_true, decide_false, decide_true, true_and, reduceCtorEq, Nat.reduceEqDiff, ↓reduceIte, Int.reduceEq, Int.reduceLT, Int.reduceLE, Nat.reduceAdd]
      refine wakes (g9.trans gr10) ?_
      simp only [SX, Opd.ev, resVal, resVals, ARes.val, Bool.false_eq_true, Bool.not_false, Bool.not_true, List.getD_cons_succ, List.getD_cons_zero, List.map_cons, List.map_nil, Nat.add_zero, Nat.zero_add, Option.map_none, Option.map_some, Option.some.injEq, and_true, decide_false, decide_true, true_and, reduceCtorEq, Nat.reduceEqDiff, ↓reduceIte, Int.reduceEq, Int.reduceLT, Int.reduceLE, Nat.reduceAdd]
end
theorem fld_agg {P : Program} {t : TypeId} {ts : List TypeId} {G : List AV → Prop} (h1 : Agg P t G) {H : AHeap} {ps : List Dt} {cs : List AV} (hw : WTF P ps (t :: ts)) (hr : RdL H ps cs) :
    ∃ c ps' cs', cs = c ++ cs' ∧ G c ∧ WTF P ps' ts ∧ RdL H ps' cs' := by
  cases ps with
  | nil => simp [WTF] at hw
  | cons d ps =>
    simp only [WTF] at hw
    obtain ⟨t', ts', e, hw1, hw2⟩ := hw
    simp only [List.cons.injEq] at e
    obtain ⟨rfl, rfl⟩ := e
    simp only [RdL] at hr
    obtain ⟨c1, c2, rfl, hr1, hr2⟩ := hr
    exact ⟨c1, ps, c2, rfl, (h1 H d c1 hw1 hr1).2, hw2, hr2⟩
theorem wf_u32 {n : Int} (h : (Lit.int .u32 n).wf = true) : 0 ≤ n := by
  simp only [Lit.wf, Bool.and_eq_true, decide_eq_true_eq] at h
  exact h.1
theorem colrW (H : AHeap) (ps : List Dt) (cs : List AV) (hw : WTF Tryd.prog ps [5, 40]) (hr : RdL H ps cs) : ∃ k n : Int, cs = [.int .u8 k, .int .u32 n] ∧ 0 ≤ n := by
  obtain ⟨k, c1, ps, cs, rfl, rfl, _, hw, hr⟩ := fld_one (one_int Tryd.underlying5) hw hr
  obtain ⟨n, c2, ps, cs, rfl, rfl, hn, hw, hr⟩ := fld_one (one_int Tryd.underlying40) hw hr
  obtain rfl := fld_none hw hr
  exact ⟨k, n, rfl, wf_u32 hn⟩
theorem attrW (H : AHeap) (ps : List Dt) (cs : List AV) (hw : WTF Tryd.prog ps [39, 42, 42]) (hr : RdL H ps cs) : ∃ f k1 n1 k2 n2 : Int, cs = [.int .u16 f, .int .u8 k1, .int .u32 n1, .int .u8 k2, .int .u32 n2] ∧ 0 ≤ n1 ∧ 0 ≤ n2 := by
  obtain ⟨fl, c1, ps, cs, rfl, rfl, hfl, hw, hr⟩ := fld_one (one_int Tryd.underlying39) hw hr
  obtain ⟨c2, ps, cs, rfl, ⟨k, n, rfl, h1⟩, hw, hr⟩ := fld_agg (agg_of Tryd.underlying42 (G := fun cs => ∃ k n : Int, cs = [.int .u8 k, .int .u32 n] ∧ 0 ≤ n) colrW) hw hr
  obtain ⟨c3, ps, cs, rfl, ⟨k', n', rfl, h2⟩, hw, hr⟩ := fld_agg (agg_of Tryd.underlying42 (G := fun cs => ∃ k n : Int, cs = [.int .u8 k, .int .u32 n] ∧ 0 ≤ n) colrW) hw hr
  obtain rfl := fld_none hw hr
  exact ⟨fl, k, n, k', n', rfl, h1, h2⟩
theorem cellW (H : AHeap) (ps : List Dt) (cs : List AV) (hw : WTF Tryd.prog ps [21, 5, 44]) (hr : RdL H ps cs) : ∃ c : Ce, cs = c.cs ∧ 0 ≤ c.n1 ∧ 0 ≤ c.n2 := by
  obtain ⟨r, c1, ps, cs, rfl, rfl, _, hw, hr⟩ := fld_one (one_int Tryd.underlying21) hw hr
  obtain ⟨w, c1, ps, cs, rfl, rfl, _, hw, hr⟩ := fld_one (one_int Tryd.underlying5) hw hr
  obtain ⟨c2, ps, cs, rfl, ⟨f, k1, n1, k2, n2, rfl, h1, h2⟩, hw, hr⟩ := fld_agg (agg_of Tryd.underlying44 (G := fun cs => ∃ f k1 n1 k2 n2 : Int, cs = [.int .u16 f, .int .u8 k1, .int .u32 n1, .int .u8 k2, .int .u32 n2] ∧ 0 ≤ n1 ∧ 0 ≤ n2) attrW) hw hr
  obtain rfl := fld_none hw hr
  exact ⟨⟨r, w, f, k1, n1, k2, n2⟩, rfl, h1, h2⟩
theorem cells_list (H : AHeap) : ∀ (ds : List Dt) (cs : List AV), WTL Tryd.prog ds 46 → RdL H ds cs → ∃ l : List Ce, l.length = ds.length ∧ cs = rowV l ∧ InP l
  | [], cs, _, hr => by simp only [RdL] at hr; subst hr; exact ⟨[], rfl, rfl, fun c hc => by simp at hc⟩
  | d :: ds, cs, hw, hr => by
    simp only [WTL] at hw
    simp only [RdL] at hr
    obtain ⟨c1, c2, rfl, h1, h2⟩ := hr
    obtain ⟨_, c, rfl, h3, h4⟩ := (agg_of Tryd.underlying46 (G := fun cs => ∃ c : Ce, cs = c.cs ∧ 0 ≤ c.n1 ∧ 0 ≤ c.n2) cellW) H d c1 hw.1 h1
    obtain ⟨l, h5, rfl, h7⟩ := cells_list H ds c2 hw.2 h2
    exact ⟨c :: l, by simp [h5], rfl, fun x hx => by
      rcases List.mem_cons.1 hx with rfl | hx
      · exact ⟨h3, h4⟩
      · exact h7 x hx⟩
theorem one_cells : One Tryd.prog 23 (fun H l v => RowS H v l) (fun l => InP l) := by
  intro H d cs hw hr
  cases d with
  | nils =>
    simp only [Rd] at hr
    exact ⟨(fun ps hh => by cases hh), [], _, hr, .inl ⟨rfl, rfl⟩, fun x hx => by simp at hx⟩
  | slc es cap =>
    simp only [WT, Tryd.underlying23, Option.some.injEq, TypeDesc.slice.injEq] at hw
    obtain ⟨e', rfl, h1, h2, h3⟩ := hw
    simp only [Rd] at hr
    obtain ⟨b, B, hc, hb, hlv, hro, hes, hrd⟩ := hr
    obtain ⟨l, h5, h6, h7⟩ := cells_list H es B.cells h3 hrd
    exact ⟨(fun ps hh => by cases hh), l, _, hc, .inr ⟨b, 0, cap, B, by rw [h5], by omega, hb, hlv, .inl hes, [], [], by simp [h6], rfl⟩, h7⟩
  | int k n => simp [WT, Tryd.underlying23] at hw
  | bool b => simp [WT, Tryd.underlying23] at hw
  | str s => simp [WT, Tryd.underlying23] at hw
  | agg ps => simp [WT, Tryd.underlying23] at hw
theorem matW (H : AHeap) (ps : List Dt) (cs : List AV) (hw : WTF Tryd.prog ps [3, 3, 23, 3, 3, 4]) (hr : RdL H ps cs) : ∃ (w h : Int) (v : AV) (x y : Int) (s : Bool) (l : List Ce), cs = mat w h v x y s ∧ RowS H v l ∧ InP l := by
  obtain ⟨w, c1, ps, cs, rfl, rfl, _, hw, hr⟩ := fld_one (one_int Tryd.underlying3) hw hr
  obtain ⟨h, c1, ps, cs, rfl, rfl, _, hw, hr⟩ := fld_one (one_int Tryd.underlying3) hw hr
  obtain ⟨l, v, ps, cs, rfl, hv, hl, hw, hr⟩ := fld_one one_cells hw hr
  obtain ⟨x, c1, ps, cs, rfl, rfl, _, hw, hr⟩ := fld_one (one_int Tryd.underlying3) hw hr
  obtain ⟨y, c1, ps, cs, rfl, rfl, _, hw, hr⟩ := fld_one (one_int Tryd.underlying3) hw hr
  obtain ⟨s, c1, ps, cs, rfl, rfl, _, hw, hr⟩ := fld_one (one_bool Tryd.underlying4) hw hr
  obtain rfl := fld_none hw hr
  exact ⟨w, h, v, x, y, s, l, rfl, hv, hl⟩
end Go.Proofs.YtkfnjjloefanjaaDoor.AM
