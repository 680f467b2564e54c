/-
  The document's frames: rows in a list; of plain blanks; alike; walked.
-/
import Derived.Test.YtkfnjjloefanjaaDoorPaC
set_option linter.unusedVariables false
set_option linter.unusedSimpArgs false
namespace Go.Proofs.YtkfnjjloefanjaaDoor.AM
open Go
/-- an own list that came of appends of one cell -/
def OwnV (base : Nat) (H : AHeap) (v : AV) (xs : List AV) (rest : List Cel) : Prop :=
  (xs = [] ∧ v = .nils ∧ Hp base H rest) ∨ (xs ≠ [] ∧ ∃ b, v = .slc b 0 xs.length xs.length ∧ Hp base H (⟨b, 1, xs⟩ :: rest))
section
variable {base : Nat} {H : AHeap} {l l' : List Cel} {v : AV} {t : List AV}
theorem OwnV.hp (h : OwnV base H v t l) : Hp base H l := by
  rcases h with ⟨_, _, h⟩ | ⟨_, b, _, h⟩
  · exact h
  · exact h.drop
theorem OwnV.one (h : OwnV base H v t l) : v.one = true := by
  rcases h with ⟨_, rfl, _⟩ | ⟨_, b, rfl, _⟩ <;> rfl
theorem OwnV.same (h : OwnV base H v t l) : AV.same v v = true := by
  rcases h with ⟨_, rfl, _⟩ | ⟨_, b, rfl, _⟩ <;> simp [AV.same, AV.same1]
theorem OwnV.re (h : OwnV base H v t l) (p : l.Perm l') : OwnV base H v t l' := by
  rcases h with ⟨h1, h2, h⟩ | ⟨h1, b, h2, h⟩
  · exact .inl ⟨h1, h2, h.perm p⟩
  · exact .inr ⟨h1, b, h2, h.perm (List.Perm.cons _ p)⟩
theorem OwnV.push (h : OwnV base H v t l) {bytes : Nat} (hb0 : 0 < bytes) (hb1 : bytes ≤ 64) (hl : t.length ≤ 1000000) (x : AV) (hx : x.one = true) :
    ∃ H1 H2 w, H.alloc (.row ⟨[x], 0, false, true, 0⟩) = H1 ∧ appendE H1 1 bytes v (.slc H.next 0 1 1) = some (w, H2) ∧ OwnV base H2 w (t ++ [x]) l ∧ Keep base H H2 := by
  obtain ⟨H1, s1, h1, k1⟩ := h.hp.make [x] 1
  rcases h with ⟨rfl, rfl, h⟩ | ⟨hne, b, rfl, h⟩
  · have hsrc := h1.srcOne (List.mem_cons_self ..) 1
    refine ⟨H1, H1.alloc (.row ⟨[x], 1, false, true, 0⟩), .slc H1.next 0 1 1, s1, ?_, .inr ⟨by simp, H1.next, rfl, ?_⟩, k1.trans (h1.keep_alloc _)⟩
    · simp only [appendE, EOp.run, Opd.ev, hsrc, appendA]
      rw [if_neg (by simp [hx]; omega), if_neg (by omega), if_pos (by omega)]
    · exact (h1.alloc _ 1 1 (.inr rfl)).swap.drop
  · obtain ⟨H1', s1', h1', k1'⟩ := h.make [x] 1
    obtain rfl := s1.symm.trans s1'
    obtain ⟨B, hB, hc⟩ := h1'.rowOf (List.mem_cons_self ..)
    obtain ⟨H2, a1, a2, a3⟩ := (Hp.swap h1').append1 (n := t.length) rfl hB (o2 := 0) (c2 := 1) (by rw [hc]; rfl) hx hb0 (by have := Nat.mul_le_mul_left (t.length + 1) hb1; omega)
    exact ⟨H1, H2, .slc H1.next 0 (t.length + 1) (t.length + 1), s1, a1, .inr ⟨by simp, H1.next, by simp, a2.swap.drop⟩, k1.trans a3⟩
theorem OwnV.store {u k : Nat} {cs : List AV} (h : OwnV base H v t (⟨u, k, cs⟩ :: l)) {o : Nat} {y : AV} (hy : y.one = true) (ho : o < cs.length) :
    ∃ H', storeE H 1 (.ptr u o) y = some (.undef, H') ∧ OwnV base H' v t (⟨u, k, cs.set o y⟩ :: l) ∧ Keep base H H' := by
  rcases h with ⟨h1, h2, h⟩ | ⟨h1, b, h2, h⟩
  · obtain ⟨H', q1, q2, q3, _⟩ := h.store hy ho
    exact ⟨H', q1, .inl ⟨h1, h2, q2⟩, q3⟩
  · obtain ⟨H', q1, q2, q3, _⟩ := h.swap.store hy ho
    exact ⟨H', q1, .inr ⟨h1, b, h2, q2.swap⟩, q3⟩
theorem OwnV.join {H' : AHeap} {x : Cel} (h : OwnV base H v t l) (g : Gr H H') (h' : Hp H.next H' [x]) : OwnV base H' v t (x :: l) := by
  rcases h with ⟨h1, h2, h⟩ | ⟨h1, b, h2, h⟩
  · exact .inl ⟨h1, h2, h.joinG g h'⟩
  · exact .inr ⟨h1, b, h2, (h.joinG g h').swap⟩
theorem OwnV.storeTail {u w k k2 : Nat} {cs ds : List AV} (h : OwnV base H v t (⟨u, k, cs⟩ :: ⟨w, k2, ds⟩ :: l)) {n : Nat} {new : List AV} (hn : ds.length = n) (hl : new.length = n) (h1 : new.all AV.one = true) :
    ∃ H', storeE H n (.ptr w 0) (.agg new) = some (.undef, H') ∧ OwnV base H' v t (⟨w, k2, new⟩ :: ⟨u, k, cs⟩ :: l) ∧ Keep base H H' := by
  have h := h.re (List.Perm.swap _ _ _)
  rcases h with ⟨e1, e2, h⟩ | ⟨e1, b, e2, h⟩
  · obtain ⟨H', q1, q2, q3, _⟩ := h.storeN hn hl h1
    exact ⟨H', q1, .inl ⟨e1, e2, q2⟩, q3⟩
  · obtain ⟨H', q1, q2, q3, _⟩ := h.swap.storeN hn hl h1
    exact ⟨H', q1, .inr ⟨e1, b, e2, q2.swap⟩, q3⟩
end
def RowR (H : AHeap) (l : List Ce) (c : AV) : Prop := RowS H c l
/-- rows that stand in an own list -/
theorem OwnV.rows {base : Nat} {H : AHeap} {l : List Cel} {v : AV} {t : List AV} (h : OwnV base H v t l) {ls : List (List Ce)} (hl : ls.length = t.length) (hr : ∀ (i : Nat) x, ls[i]? = some x → ∃ c, t[i]? = some c ∧ RowS H c x) : IsS RowR H v ls := by
  rcases h with ⟨rfl, rfl, h⟩ | ⟨h1, b, rfl, h⟩
  · exact .inl ⟨rfl, List.length_eq_zero_iff.1 (by simpa using hl)⟩
  · rw [← hl]
    exact h.isS (List.mem_cons_self ..) (Nat.le_refl _) hr
theorem seq7 (c : Ce) : seqV [1, 1, 1, 1, 1, 1, 1] true (.agg c.cs) (.agg c.cs) = some (.bool false) := by
  simp [seqV, ROp.run, Opd.ev, Ce.cs, Ce.at, cellsEq]
def z7 : List AV := [.int .i32 0, .int .u8 0, .int .u16 0, .int .u8 0, .int .u32 0, .int .u8 0, .int .u32 0]
def bs7V (v : AV) : Option (AObj × AKind) := LOp.run .nil (.bslice 7 1 z7 [(0, .c v)])
theorem run_bslice7 (e : Env) (x : Opd) : LOp.run e (.bslice 7 1 [.int .i32 0, .int .u8 0, .int .u16 0, .int .u8 0, .int .u32 0, .int .u8 0, .int .u32 0] [(0, x)]) = bs7V (x.ev e) := rfl
theorem bs7V_ce (c : Ce) : bs7V (.agg c.cs) = some (.row ⟨c.cs, 0, false, true, 0⟩, .slc 1 1) := rfl
theorem bs1V_one {v : AV} (h : v.one = true) : bs1V v = some (.row ⟨[v], 0, false, true, 0⟩, .slc 1 1) := by
  have hc : v.cells = [v] := by cases v <;> first | rfl | (simp [AV.one] at h)
  simp [bs1V, hc, h]
structure PdQ (Q : Prog) : Prop where
  pq : PaQ Q
  q8 : Q.fns 8 = some A8
  q9 : Q.fns 9 = some A9
  q10 : Q.fns 10 = some A10
  q29 : Q.fns 29 = some A29
  q30 : Q.fns 30 = some A30
section
variable {Q : Prog} (dq : PdQ Q) {H : AHeap}
include dq
set_option maxHeartbeats 4000000 in
theorem blanksR_spec (hf : Fr H) {n : Nat} (hn : n ≤ 400) (h0 : 0 < n) : FnTo Q 30 [.int .i64 n, .agg at0] H (fun r H' => Keep H.next H H' ∧ ∃ b, r = .slc b 0 n n ∧ Hp H.next H' [⟨b, 7, rowV (List.replicate n blankC)⟩]) := by
  refine fn_wp (dq.pq.ho 30 rfl _) dq.q30 (by simp [A30]) ?_
  have ha : at0.all AV.one = true := rfl
  obtain ⟨H1, s1, g1, k1⟩ := (Hp.nil H hf).make at0 5
  obtain ⟨t, ht⟩ : ∃ t, H.next = t := ⟨_, rfl⟩
  rw [ht] at g1 k1
  simp only [A30, boxV_agg ha, s1, ht, SX, Opd.ev, resVal, resVals, ARes.val, Bool.false_eq_true, Bool.not_false, Bool.not_true, List.getD_cons_succ, List.getD_cons_zero, List.map_cons, List.map_nil, Nat.add_zero, Nat.zero_add, Option.map_none, Option.map_some, Option.some.injEq, and_true, decide_false, decide_true, true_and, reduceCtorEq, Nat.reduceEqDiff, ↓reduceIte, Int.reduceEq, Int.reduceLT, Int.reduceLE, Nat.reduceAdd]
  obtain ⟨I, hI⟩ : ∃ I : Nat → Env → AHeap → Prop, ∀ m e H', I m e H' ↔ (∃ (i : Nat) (v : AV) (rs : List Cel), m = n - i ∧ i ≤ n ∧ ((i = 0 ∧ v = .nils ∧ rs = []) ∨ (0 < i ∧ ∃ b, v = .slc b 0 i i ∧ rs = [⟨b, 7, rowV (List.replicate i blankC)⟩])) ∧ Hp t H' (⟨t, 5, at0⟩ :: rs) ∧ Keep t H H' ∧
      Env.get e 0 = .int .i64 n ∧ Env.get e 3 = .ptr t 0 ∧ Env.get e 5 = v ∧ Env.get e 6 = .int .i64 i) := ⟨_, fun _ _ _ => Iff.rfl⟩
  refine loop_by I n ?_ ?_
  · exact (hI _ _ _).2 ⟨0, .nils, [], rfl, by omega, .inl ⟨rfl, rfl, rfl⟩, g1, k1, (by first | (simp only [SX, Opd.ev, resVal, resVals, ARes.val, Bool.false_eq_true, Bool.not_false, Bool.not_true, List.getD_cons_succ, List.getD_cons_zero, List.map_cons, List.map_nil, Nat.add_zero, Nat.zero_add, Option.map_none, Option.map_some, Option.some.injEq, and_true, decide_false, decide_true, true_and, reduceCtorEq, Nat.reduceEqDiff, ↓reduceIte, Int.reduceEq, Int.reduceLT, Int.reduceLE, Nat.reduceAdd]; done) | (simp only [SX, Opd.ev, resVal, resVals, ARes.val, Bool.false_eq_true, Bool.not_false, Bool.not_true, List.getD_cons_succ, List.getD_cons_zero, List.map_cons, List.map_nil, Nat.add_zero, Nat.zero_add, Option.map_none, Option.map_some, Option.some.injEq, and_true, decide_false, decide_true, true_and, reduceCtorEq, Nat.reduceEqDiff, ↓reduceIte, Int.reduceEq, Int.reduceLT, Int.reduceLE, Nat.reduceAdd]; rfl) | rfl), (by first | (simp only [SX, Opd.ev, resVal, resVals, ARes.val, Bool.false_eq_true, Bool.not_false, Bool.not_true, List.getD_cons_succ, List.getD_cons_zero, List.map_cons, List.map_nil, Nat.add_zero, Nat.zero_add, Option.map_none, Option.map_some, Option.some.injEq, and_true, decide_false, decide_true, true_and, reduceCtorEq, Nat.reduceEqDiff, ↓reduceIte, Int.reduceEq, Int.reduceLT, Int.reduceLE, Nat.reduceAdd]; done) | (simp only [SX, Opd.ev, resVal, resVals, ARes.val, Bool.false_eq_true, Bool.not_false, Bool.not_true, List.getD_cons_succ, List.getD_cons_zero, List.map_cons, List.map_nil, Nat.add_zero, Nat.zero_add, Option.map_none, Option.map_some, Option.some.injEq, and_true, decide_false, decide_true, true_and, reduceCtorEq, Nat.reduceEqDiff, ↓reduceIte, Int.reduceEq, Int.reduceLT, Int.reduceLE, Nat.reduceAdd]; rfl) | rfl), (by first | (simp only [SX, Opd.ev, resVal, resVals, ARes.val, Bool.false_eq_true, Bool.not_false, Bool.not_true, List.getD_cons_succ, List.getD_cons_zero, List.map_cons, List.map_nil, Nat.add_zero, Nat.zero_add, Option.map_none, Option.map_some, Option.some.injEq, and_true, decide_false, decide_true, true_and, reduceCtorEq, Nat.reduceEqDiff, ↓reduceIte, Int.reduceEq, Int.reduceLT, Int.reduceLE, Nat.reduceAdd]; done) | (simp only [SX, Opd.ev, resVal, resVals, ARes.val, Bool.false_eq_true, Bool.not_false, Bool.not_true, List.getD_cons_succ, List.getD_cons_zero, List.map_cons, List.map_nil, Nat.add_zero, Nat.zero_add, Option.map_none, Option.map_some, Option.some.injEq, and_true, decide_false, decide_true, true_and, reduceCtorEq, Nat.reduceEqDiff, ↓reduceIte, Int.reduceEq, Int.reduceLT, Int.reduceLE, Nat.reduceAdd]; rfl) | rfl), (by first | (simp only [SX, Opd.ev, resVal, resVals, ARes.val, Bool.false_eq_true, Bool.not_false, Bool.not_true, List.getD_cons_succ, List.getD_cons_zero, List.map_cons, List.map_nil, Nat.add_zero, Nat.zero_add, Option.map_none, Option.map_some, Option.some.injEq, and_true, decide_false, decide_true, true_and, reduceCtorEq, Nat.reduceEqDiff, ↓reduceIte, Int.reduceEq, Int.reduceLT, Int.reduceLE, Nat.reduceAdd]; done) | (simp only [SX, Opd.ev, resVal, resVals, ARes.val, Bool.false_eq_true, Bool.not_false, Bool.not_true, List.getD_cons_succ, List.getD_cons_zero, List.map_cons, List.map_nil, Nat.add_zero, Nat.zero_add, Option.map_none, Option.map_some, Option.some.injEq, and_true, decide_false, decide_true, true_and, reduceCtorEq, Nat.reduceEqDiff, ↓reduceIte, Int.reduceEq, Int.reduceLT, Int.reduceLE, Nat.reduceAdd]; rfl) | rfl)⟩
  · intro m e H2 hinv
    obtain ⟨i, v, rs, rfl, hi, hv, g2, k2, e0, e3, e5, e6⟩ := (hI _ _ _).1 hinv
    by_cases d : (i : Int) < n
    · have l5 := g2.loadN (List.mem_cons_self ..) (n := 5) rfl
      have w1 : IntKind.wrap .i64 ((i : Int) + 1) = ((i + 1 : Nat) : Int) := wrapNat (n := i + 1) (by omega)
      have bd : buildV [.int .i32 0, .int .u8 0, .int .u16 0, .int .u8 0, .int .u32 0, .int .u8 0, .int .u32 0] [(0, 1, .int .i32 32), (2, 5, .agg at0)] = some (.agg blankC.cs) := rfl
      obtain ⟨H3, s3, g3, k3⟩ := g2.make blankC.cs 7
      have src := g3.src (b := H2.next) (k' := 7) (pre := []) (post := []) (ys := blankC.cs) (by simp) rfl (k := 7) (m := 1) rfl (by omega) (c := 1)
      have ap : ∃ b' H6, appendE H3 7 28 v (.slc H2.next 0 1 1) = some (.slc b' 0 (i + 1) (i + 1), H6) ∧ Hp t H6 (⟨t, 5, at0⟩ :: [⟨b', 7, rowV (List.replicate (i + 1) blankC)⟩]) ∧ Keep t H3 H6 := by
        rcases hv with ⟨rfl, rfl, rfl⟩ | ⟨i0, b0, rfl, rfl⟩
        · obtain ⟨H6, q1, q2, q3⟩ := g3.appendK0 (k := 7) (bytes := 28) (by omega) src (by omega) rfl (by omega) (by omega)
          exact ⟨H3.next, H6, q1, q2.swap.drop.swap, q3⟩
        · have g7 : Hp t H3 (⟨b0, 7, [] ++ rowV (List.replicate i blankC)⟩ :: ⟨H2.next, 7, blankC.cs⟩ :: ⟨t, 5, at0⟩ :: []) := g3.rot3
          obtain ⟨H6, q1, q2, q3⟩ := g7.appendK (n := i) (m := 1) (bytes := 28) rfl (by rw [rowV_len, List.length_replicate]; omega) (by omega) src (by omega) rfl (by omega) (by omega)
          rw [← rowV_one blankC, ← rowV_app, ← List.replicate_succ'] at q2
          exact ⟨H3.next, H6, q1, q2.swap.drop.swap, q3⟩
      obtain ⟨b', H6, q1, q2, q3⟩ := ap
      simp only [e0, e3, e5, e6, d, l5, run_build, bd, run_bslice7, bs7V_ce, s3, q1, w1, SX, Opd.ev, resVal, resVals, ARes.val, Bool.false_eq_true, Bool.not_false, Bool.not_true, List.getD_cons_succ, List.getD_cons_zero, List.map_cons, List.map_nil, Nat.add_zero, Nat.zero_add, Option.map_none, Option.map_some, Option.some.injEq, and_true, decide_false, decide_true, true_and, reduceCtorEq, Nat.reduceEqDiff, ↓reduceIte, Int.reduceEq, Int.reduceLT, Int.reduceLE, Nat.reduceAdd]
      exact ⟨n - (i + 1), by omega, (hI _ _ _).2 ⟨i + 1, _, _, rfl, by omega, .inr ⟨by omega, b', rfl, rfl⟩, q2, k2.trans (k3.trans q3), (by first | (simp only [SX, Opd.ev, resVal, resVals, ARes.val, Bool.false_eq_true, Bool.not_false, Bool.not_true, List.getD_cons_succ, List.getD_cons_zero, List.map_cons, List.map_nil, Nat.add_zero, Nat.zero_add, Option.map_none, Option.map_some, Option.some.injEq, and_true, decide_false, decide_true, true_and, reduceCtorEq, Nat.reduceEqDiff, ↓reduceIte, Int.reduceEq, Int.reduceLT, Int.reduceLE, Nat.reduceAdd, e0]; done) | exact e0 | (simp only [SX, Opd.ev, resVal, resVals, ARes.val, Bool.false_eq_true, Bool.not_false, Bool.not_true, List.getD_cons_succ, List.getD_cons_zero, List.map_cons, List.map_nil, Nat.add_zero, Nat.zero_add, Option.map_none, Option.map_some, Option.some.injEq, and_true, decide_false, decide_true, true_and, reduceCtorEq, Nat.reduceEqDiff, ↓reduceIte, Int.reduceEq, Int.reduceLT, Int.reduceLE, Nat.reduceAdd, e0]; rfl)), (by first | (simp only [SX, Opd.ev, resVal, resVals, ARes.val, Bool.false_eq_true, Bool.not_false, Bool.not_true, List.getD_cons_succ, List.getD_cons_zero, List.map_cons, List.map_nil, Nat.add_zero, Nat.zero_add, Option.map_none, Option.map_some, Option.some.injEq, and_true, decide_false, decide_true, true_and, reduceCtorEq, Nat.reduceEqDiff, ↓reduceIte, Int.reduceEq, Int.reduceLT, Int.reduceLE, Nat.reduceAdd, e3]; done) | exact e3 | (simp only [SX, Opd.ev, resVal, resVals, ARes.val, Bool.false_eq_true, Bool.not_false, Bool.not_true, List.getD_cons_succ, List.getD_cons_zero, List.map_cons, List.map_nil, Nat.add_zero, Nat.zero_add, Option.map_none, Option.map_some, Option.some.injEq, and_true, decide_false, decide_true, true_and, reduceCtorEq, Nat.reduceEqDiff, ↓reduceIte, Int.reduceEq, Int.reduceLT, Int.reduceLE, Nat.reduceAdd, e3]; rfl)), (by first | (simp only [SX, Opd.ev, resVal, resVals, ARes.val, Bool.false_eq_true, Bool.not_false, Bool.not_true, List.getD_cons_succ, List.getD_cons_zero, List.map_cons, List.map_nil, Nat.add_zero, Nat.zero_add, Option.map_none, Option.map_some, Option.some.injEq, and_true, decide_false, decide_true, true_and, reduceCtorEq, Nat.reduceEqDiff, ↓reduceIte, Int.reduceEq, Int.reduceLT, Int.reduceLE, Nat.reduceAdd]; done) | (simp only [SX, Opd.ev, resVal, resVals, ARes.val, Bool.false_eq_true, Bool.not_false, Bool.not_true, List.getD_cons_succ, List.getD_cons_zero, List.map_cons, List.map_nil, Nat.add_zero, Nat.zero_add, Option.map_none, Option.map_some, Option.some.injEq, and_true, decide_false, decide_true, true_and, reduceCtorEq, Nat.reduceEqDiff, ↓reduceIte, Int.reduceEq, Int.reduceLT, Int.reduceLE, Nat.reduceAdd]; rfl) | rfl), (by first | (simp only [SX, Opd.ev, resVal, resVals, ARes.val, Bool.false_eq_true, Bool.not_false, Bool.not_true, List.getD_cons_succ, List.getD_cons_zero, List.map_cons, List.map_nil, Nat.add_zero, Nat.zero_add, Option.map_none, Option.map_some, Option.some.injEq, and_true, decide_false, decide_true, true_and, reduceCtorEq, Nat.reduceEqDiff, ↓reduceIte, Int.reduceEq, Int.reduceLT, Int.reduceLE, Nat.reduceAdd]; done) | (simp only [SX, Opd.ev, resVal, resVals, ARes.val, Bool.false_eq_true, Bool.not_false, Bool.not_true, List.getD_cons_succ, List.getD_cons_zero, List.map_cons, List.map_nil, Nat.add_zero, Nat.zero_add, Option.map_none, Option.map_some, Option.some.injEq, and_true, decide_false, decide_true, true_and, reduceCtorEq, Nat.reduceEqDiff, ↓reduceIte, Int.reduceEq, Int.reduceLT, Int.reduceLE, Nat.reduceAdd]; rfl) | rfl)⟩⟩
    · obtain rfl : i = n := by omega
      rcases hv with ⟨h0', _⟩ | ⟨i0, b, rfl, rfl⟩
      · omega
      · simp only [e0, e3, e5, e6, d, SX, Opd.ev, resVal, resVals, ARes.val, Bool.false_eq_true, Bool.not_false, Bool.not_true, List.getD_cons_succ, List.getD_cons_zero, List.map_cons, List.map_nil, Nat.add_zero, Nat.zero_add, Option.map_none, Option.map_some, Option.some.injEq, and_true, decide_false, decide_true, true_and, reduceCtorEq, Nat.reduceEqDiff, ↓reduceIte, Int.reduceEq, Int.reduceLT, Int.reduceLE, Nat.reduceAdd]
        exact ⟨k2, b, rfl, g2.drop⟩
set_option maxHeartbeats 4000000 in
theorem sameR_spec {v w : AV} {l : List Ce} (h1 : RowS H v l) (h2 : RowS H w l) (hl : l.length ≤ 1000000) : FnTo Q 29 [v, w] H (fun r H' => r = .bool true ∧ H' = H) := by
  refine fn_wp (dq.pq.ho 29 rfl _) dq.q29 (by simp [A29]) ?_
  have ln1 := h1.len H
  have ln2 := h2.len H
  simp only [A29, ln1, ln2, SX, Opd.ev, resVal, resVals, ARes.val, Bool.false_eq_true, Bool.not_false, Bool.not_true, List.getD_cons_succ, List.getD_cons_zero, List.map_cons, List.map_nil, Nat.add_zero, Nat.zero_add, Option.map_none, Option.map_some, Option.some.injEq, and_true, decide_false, decide_true, true_and, reduceCtorEq, Nat.reduceEqDiff, ↓reduceIte, Int.reduceEq, Int.reduceLT, Int.reduceLE, Nat.reduceAdd]
  obtain ⟨I, hI⟩ : ∃ I : Nat → Env → AHeap → Prop, ∀ m e H', I m e H' ↔ (H' = H ∧ ∃ i : Nat, m = l.length - i ∧ i ≤ l.length ∧ Env.get e 0 = v ∧ Env.get e 1 = w ∧ Env.get e 5 = .int .i64 i) := ⟨_, fun _ _ _ => Iff.rfl⟩
  refine loop_by I l.length ?_ ?_
  · exact (hI _ _ _).2 ⟨rfl, 0, rfl, by omega, (by first | (simp only [SX, Opd.ev, resVal, resVals, ARes.val, Bool.false_eq_true, Bool.not_false, Bool.not_true, List.getD_cons_succ, List.getD_cons_zero, List.map_cons, List.map_nil, Nat.add_zero, Nat.zero_add, Option.map_none, Option.map_some, Option.some.injEq, and_true, decide_false, decide_true, true_and, reduceCtorEq, Nat.reduceEqDiff, ↓reduceIte, Int.reduceEq, Int.reduceLT, Int.reduceLE, Nat.reduceAdd]; done) | (simp only [SX, Opd.ev, resVal, resVals, ARes.val, Bool.false_eq_true, Bool.not_false, Bool.not_true, List.getD_cons_succ, List.getD_cons_zero, List.map_cons, List.map_nil, Nat.add_zero, Nat.zero_add, Option.map_none, Option.map_some, Option.some.injEq, and_true, decide_false, decide_true, true_and, reduceCtorEq, Nat.reduceEqDiff, ↓reduceIte, Int.reduceEq, Int.reduceLT, Int.reduceLE, Nat.reduceAdd]; rfl) | rfl), (by first | (simp only [SX, Opd.ev, resVal, resVals, ARes.val, Bool.false_eq_true, Bool.not_false, Bool.not_true, List.getD_cons_succ, List.getD_cons_zero, List.map_cons, List.map_nil, Nat.add_zero, Nat.zero_add, Option.map_none, Option.map_some, Option.some.injEq, and_true, decide_false, decide_true, true_and, reduceCtorEq, Nat.reduceEqDiff, ↓reduceIte, Int.reduceEq, Int.reduceLT, Int.reduceLE, Nat.reduceAdd]; done) | (simp only [SX, Opd.ev, resVal, resVals, ARes.val, Bool.false_eq_true, Bool.not_false, Bool.not_true, List.getD_cons_succ, List.getD_cons_zero, List.map_cons, List.map_nil, Nat.add_zero, Nat.zero_add, Option.map_none, Option.map_some, Option.some.injEq, and_true, decide_false, decide_true, true_and, reduceCtorEq, Nat.reduceEqDiff, ↓reduceIte, Int.reduceEq, Int.reduceLT, Int.reduceLE, Nat.reduceAdd]; rfl) | rfl), (by first | (simp only [SX, Opd.ev, resVal, resVals, ARes.val, Bool.false_eq_true, Bool.not_false, Bool.not_true, List.getD_cons_succ, List.getD_cons_zero, List.map_cons, List.map_nil, Nat.add_zero, Nat.zero_add, Option.map_none, Option.map_some, Option.some.injEq, and_true, decide_false, decide_true, true_and, reduceCtorEq, Nat.reduceEqDiff, ↓reduceIte, Int.reduceEq, Int.reduceLT, Int.reduceLE, Nat.reduceAdd]; done) | (simp only [SX, Opd.ev, resVal, resVals, ARes.val, Bool.false_eq_true, Bool.not_false, Bool.not_true, List.getD_cons_succ, List.getD_cons_zero, List.map_cons, List.map_nil, Nat.add_zero, Nat.zero_add, Option.map_none, Option.map_some, Option.some.injEq, and_true, decide_false, decide_true, true_and, reduceCtorEq, Nat.reduceEqDiff, ↓reduceIte, Int.reduceEq, Int.reduceLT, Int.reduceLE, Nat.reduceAdd]; rfl) | rfl)⟩
  · intro m e H' hinv
    obtain ⟨hH, i, rfl, hi, e0, e1, e5⟩ := (hI _ _ _).1 hinv
    rw [hH]
    by_cases d : (i : Int) < l.length
    · obtain ⟨c, hc⟩ : ∃ c, l[i]? = some c := ⟨_, List.getElem?_eq_getElem (by omega)⟩
      obtain ⟨b, p, ix, l7, _⟩ := h1.cell hc .i64
      obtain ⟨b', p', ix', l7', _⟩ := h2.cell hc .i64
      have w1 : IntKind.wrap .i64 ((i : Int) + 1) = ((i + 1 : Nat) : Int) := wrapNat (n := i + 1) (by omega)
      have sq := seq7 c
      simp only [e0, e1, e5, ln1, d, ix, l7, ix', l7', run_seq, sq, w1, SX, Opd.ev, resVal, resVals, ARes.val, Bool.false_eq_true, Bool.not_false, Bool.not_true, List.getD_cons_succ, List.getD_cons_zero, List.map_cons, List.map_nil, Nat.add_zero, Nat.zero_add, Option.map_none, Option.map_some, Option.some.injEq, and_true, decide_false, decide_true, true_and, reduceCtorEq, Nat.reduceEqDiff, ↓reduceIte, Int.reduceEq, Int.reduceLT, Int.reduceLE, Nat.reduceAdd]
      exact ⟨l.length - (i + 1), by omega, (hI _ _ _).2 ⟨rfl, i + 1, rfl, by omega, (by first | (simp only [SX, Opd.ev, resVal, resVals, ARes.val, Bool.false_eq_true, Bool.not_false, Bool.not_true, List.getD_cons_succ, List.getD_cons_zero, List.map_cons, List.map_nil, Nat.add_zero, Nat.zero_add, Option.map_none, Option.map_some, Option.some.injEq, and_true, decide_false, decide_true, true_and, reduceCtorEq, Nat.reduceEqDiff, ↓reduceIte, Int.reduceEq, Int.reduceLT, Int.reduceLE, Nat.reduceAdd, e0]; done) | exact e0 | (simp only [SX, Opd.ev, resVal, resVals, ARes.val, Bool.false_eq_true, Bool.not_false, Bool.not_true, List.getD_cons_succ, List.getD_cons_zero, List.map_cons, List.map_nil, Nat.add_zero, Nat.zero_add, Option.map_none, Option.map_some, Option.some.injEq, and_true, decide_false, decide_true, true_and, reduceCtorEq, Nat.reduceEqDiff, ↓reduceIte, Int.reduceEq, Int.reduceLT, Int.reduceLE, Nat.reduceAdd, e0]; rfl)), (by first | (simp only [SX, Opd.ev, resVal, resVals, ARes.val, Bool.false_eq_true, Bool.not_false, Bool.not_true, List.getD_cons_succ, List.getD_cons_zero, List.map_cons, List.map_nil, Nat.add_zero, Nat.zero_add, Option.map_none, Option.map_some, Option.some.injEq, and_true, decide_false, decide_true, true_and, reduceCtorEq, Nat.reduceEqDiff, ↓reduceIte, Int.reduceEq, Int.reduceLT, Int.reduceLE, Nat.reduceAdd, e1]; done) | exact e1 | (simp only [SX, Opd.ev, resVal, resVals, ARes.val, Bool.false_eq_true, Bool.not_false, Bool.not_true, List.getD_cons_succ, List.getD_cons_zero, List.map_cons, List.map_nil, Nat.add_zero, Nat.zero_add, Option.map_none, Option.map_some, Option.some.injEq, and_true, decide_false, decide_true, true_and, reduceCtorEq, Nat.reduceEqDiff, ↓reduceIte, Int.reduceEq, Int.reduceLT, Int.reduceLE, Nat.reduceAdd, e1]; rfl)), (by first | (simp only [SX, Opd.ev, resVal, resVals, ARes.val, Bool.false_eq_true, Bool.not_false, Bool.not_true, List.getD_cons_succ, List.getD_cons_zero, List.map_cons, List.map_nil, Nat.add_zero, Nat.zero_add, Option.map_none, Option.map_some, Option.some.injEq, and_true, decide_false, decide_true, true_and, reduceCtorEq, Nat.reduceEqDiff, ↓reduceIte, Int.reduceEq, Int.reduceLT, Int.reduceLE, Nat.reduceAdd]; done) | (simp only [SX, Opd.ev, resVal, resVals, ARes.val, Bool.false_eq_true, Bool.not_false, Bool.not_true, List.getD_cons_succ, List.getD_cons_zero, List.map_cons, List.map_nil, Nat.add_zero, Nat.zero_add, Option.map_none, Option.map_some, Option.some.injEq, and_true, decide_false, decide_true, true_and, reduceCtorEq, Nat.reduceEqDiff, ↓reduceIte, Int.reduceEq, Int.reduceLT, Int.reduceLE, Nat.reduceAdd]; rfl) | rfl)⟩⟩
    · simp only [e0, e1, e5, ln1, d, SX, Opd.ev, resVal, resVals, ARes.val, Bool.false_eq_true, Bool.not_false, Bool.not_true, List.getD_cons_succ, List.getD_cons_zero, List.map_cons, List.map_nil, Nat.add_zero, Nat.zero_add, Option.map_none, Option.map_some, Option.some.injEq, and_true, decide_false, decide_true, true_and, reduceCtorEq, Nat.reduceEqDiff, ↓reduceIte, Int.reduceEq, Int.reduceLT, Int.reduceLE, Nat.reduceAdd]
set_option maxHeartbeats 8000000 in
theorem blankF_spec (hf : Fr H) {w hh : Nat} (hw : w ≤ 400) (w0 : 0 < w) (hh4 : hh ≤ 400) : FnTo Q 10 [.int .i64 w, .int .i64 hh] H (fun r H' => Gr H H' ∧ ∃ v, r = .agg (mat w hh v 0 0 false) ∧ v.one = true ∧ IsS RowR H' v (List.replicate hh (List.replicate w blankC))) := by
  refine fn_wp (dq.pq.ho 10 rfl _) dq.q10 (by simp [A10]) ?_
  obtain ⟨Z, hZ⟩ : ∃ Z : List AV, [AV.int .i64 0, .int .i64 0, .nils, .int .i64 0, .int .i64 0, .bool false] = Z := ⟨_, rfl⟩
  have hZl : Z.length = 6 := by rw [← hZ]; rfl
  obtain ⟨H1, s1, g1, k1⟩ := (Hp.nil H hf).make Z 6
  obtain ⟨t, ht⟩ : ∃ t, H.next = t := ⟨_, rfl⟩
  rw [ht] at g1 k1
  obtain ⟨H2, s2, g2, k2⟩ := g1.make Z 6
  obtain ⟨u, hu⟩ : ∃ u, H1.next = u := ⟨_, rfl⟩
  rw [hu] at g2
  obtain ⟨H3, s3, g3, k3, _⟩ := g2.storeN (n := 6) (new := mat w hh .nils 0 0 false) hZl rfl rfl
  have bd : buildV Z [(0, 1, .int .i64 w), (1, 1, .int .i64 hh)] = some (.agg (mat w hh .nils 0 0 false)) := by rw [← hZ]; rfl
  simp only [A10, hZ, run_allocL, s1, ht, run_build, bd, s2, hu, s3, SX, Opd.ev, resVal, resVals, ARes.val, Bool.false_eq_true, Bool.not_false, Bool.not_true, List.getD_cons_succ, List.getD_cons_zero, List.map_cons, List.map_nil, Nat.add_zero, Nat.zero_add, Option.map_none, Option.map_some, Option.some.injEq, and_true, decide_false, decide_true, true_and, reduceCtorEq, Nat.reduceEqDiff, ↓reduceIte, Int.reduceEq, Int.reduceLT, Int.reduceLE, Nat.reduceAdd]
  obtain ⟨I, hI⟩ : ∃ I : Nat → Env → AHeap → Prop, ∀ m e H', I m e H' ↔ (∃ (i : Nat) (v : AV) (xs : List AV) (rs : List Cel), m = hh - i ∧ i ≤ hh ∧ xs.length = i ∧ (∀ x ∈ xs, ∃ b, x = .slc b 0 w w ∧ (⟨b, 7, rowV (List.replicate w blankC)⟩ : Cel) ∈ rs) ∧ OwnV t H' v xs (⟨u, 6, mat w hh v 0 0 false⟩ :: ⟨t, 6, Z⟩ :: rs) ∧ Keep t H H' ∧
      Env.get e 0 = .int .i64 w ∧ Env.get e 1 = .int .i64 hh ∧ Env.get e 4 = .ptr t 0 ∧ Env.get e 5 = .ptr u 0 ∧ Env.get e 6 = .int .i64 i) := ⟨_, fun _ _ _ => Iff.rfl⟩
  refine loop_by I hh ?_ ?_
  · exact (hI _ _ _).2 ⟨0, .nils, [], [], rfl, by omega, rfl, fun x hx => by simp at hx, .inl ⟨rfl, rfl, g3⟩, k1.trans (k2.trans k3), (by first | (simp only [SX, Opd.ev, resVal, resVals, ARes.val, Bool.false_eq_true, Bool.not_false, Bool.not_true, List.getD_cons_succ, List.getD_cons_zero, List.map_cons, List.map_nil, Nat.add_zero, Nat.zero_add, Option.map_none, Option.map_some, Option.some.injEq, and_true, decide_false, decide_true, true_and, reduceCtorEq, Nat.reduceEqDiff, ↓reduceIte, Int.reduceEq, Int.reduceLT, Int.reduceLE, Nat.reduceAdd]; done) | (simp only [SX, Opd.ev, resVal, resVals, ARes.val, Bool.false_eq_true, Bool.not_false, Bool.not_true, List.getD_cons_succ, List.getD_cons_zero, List.map_cons, List.map_nil, Nat.add_zero, Nat.zero_add, Option.map_none, Option.map_some, Option.some.injEq, and_true, decide_false, decide_true, true_and, reduceCtorEq, Nat.reduceEqDiff, ↓reduceIte, Int.reduceEq, Int.reduceLT, Int.reduceLE, Nat.reduceAdd]; rfl) | rfl), (by first | (simp only [SX, Opd.ev, resVal, resVals, ARes.val, Bool.false_eq_true, Bool.not_false, Bool.not_true, List.getD_cons_succ, List.getD_cons_zero, List.map_cons, List.map_nil, Nat.add_zero, Nat.zero_add, Option.map_none, Option.map_some, Option.some.injEq, and_true, decide_false, decide_true, true_and, reduceCtorEq, Nat.reduceEqDiff, ↓reduceIte, Int.reduceEq, Int.reduceLT, Int.reduceLE, Nat.reduceAdd]; done) | (simp only [SX, Opd.ev, resVal, resVals, ARes.val, Bool.false_eq_true, Bool.not_false, Bool.not_true, List.getD_cons_succ, List.getD_cons_zero, List.map_cons, List.map_nil, Nat.add_zero, Nat.zero_add, Option.map_none, Option.map_some, Option.some.injEq, and_true, decide_false, decide_true, true_and, reduceCtorEq, Nat.reduceEqDiff, ↓reduceIte, Int.reduceEq, Int.reduceLT, Int.reduceLE, Nat.reduceAdd]; rfl) | rfl), (by first | (simp only [SX, Opd.ev, resVal, resVals, ARes.val, Bool.false_eq_true, Bool.not_false, Bool.not_true, List.getD_cons_succ, List.getD_cons_zero, List.map_cons, List.map_nil, Nat.add_zero, Nat.zero_add, Option.map_none, Option.map_some, Option.some.injEq, and_true, decide_false, decide_true, true_and, reduceCtorEq, Nat.reduceEqDiff, ↓reduceIte, Int.reduceEq, Int.reduceLT, Int.reduceLE, Nat.reduceAdd]; done) | (simp only [SX, Opd.ev, resVal, resVals, ARes.val, Bool.false_eq_true, Bool.not_false, Bool.not_true, List.getD_cons_succ, List.getD_cons_zero, List.map_cons, List.map_nil, Nat.add_zero, Nat.zero_add, Option.map_none, Option.map_some, Option.some.injEq, and_true, decide_false, decide_true, true_and, reduceCtorEq, Nat.reduceEqDiff, ↓reduceIte, Int.reduceEq, Int.reduceLT, Int.reduceLE, Nat.reduceAdd]; rfl) | rfl), (by first | (simp only [SX, Opd.ev, resVal, resVals, ARes.val, Bool.false_eq_true, Bool.not_false, Bool.not_true, List.getD_cons_succ, List.getD_cons_zero, List.map_cons, List.map_nil, Nat.add_zero, Nat.zero_add, Option.map_none, Option.map_some, Option.some.injEq, and_true, decide_false, decide_true, true_and, reduceCtorEq, Nat.reduceEqDiff, ↓reduceIte, Int.reduceEq, Int.reduceLT, Int.reduceLE, Nat.reduceAdd]; done) | (simp only [SX, Opd.ev, resVal, resVals, ARes.val, Bool.false_eq_true, Bool.not_false, Bool.not_true, List.getD_cons_succ, List.getD_cons_zero, List.map_cons, List.map_nil, Nat.add_zero, Nat.zero_add, Option.map_none, Option.map_some, Option.some.injEq, and_true, decide_false, decide_true, true_and, reduceCtorEq, Nat.reduceEqDiff, ↓reduceIte, Int.reduceEq, Int.reduceLT, Int.reduceLE, Nat.reduceAdd]; rfl) | rfl), (by first | (simp only [SX, Opd.ev, resVal, resVals, ARes.val, Bool.false_eq_true, Bool.not_false, Bool.not_true, List.getD_cons_succ, List.getD_cons_zero, List.map_cons, List.map_nil, Nat.add_zero, Nat.zero_add, Option.map_none, Option.map_some, Option.some.injEq, and_true, decide_false, decide_true, true_and, reduceCtorEq, Nat.reduceEqDiff, ↓reduceIte, Int.reduceEq, Int.reduceLT, Int.reduceLE, Nat.reduceAdd]; done) | (simp only [SX, Opd.ev, resVal, resVals, ARes.val, Bool.false_eq_true, Bool.not_false, Bool.not_true, List.getD_cons_succ, List.getD_cons_zero, List.map_cons, List.map_nil, Nat.add_zero, Nat.zero_add, Option.map_none, Option.map_some, Option.some.injEq, and_true, decide_false, decide_true, true_and, reduceCtorEq, Nat.reduceEqDiff, ↓reduceIte, Int.reduceEq, Int.reduceLT, Int.reduceLE, Nat.reduceAdd]; rfl) | rfl)⟩
  · intro m e H4 hinv
    obtain ⟨i, v, xs, rs, rfl, hi, hxl, hxs, own, k4, e0, e1, e4, e5, e6⟩ := (hI _ _ _).1 hinv
    by_cases d : (i : Int) < hh
    · have w1 : IntKind.wrap .i64 ((i : Int) + 1) = ((i + 1 : Nat) : Int) := wrapNat (n := i + 1) (by omega)
      have l2 := own.hp.load (b := u) (k := 6) (cs := mat w hh v 0 0 false) (List.mem_cons_self ..) (o := 2) rfl
      simp only [e0, e1, e4, e5, e6, d, l2, run_build0, SX, Opd.ev, resVal, resVals, ARes.val, Bool.false_eq_true, Bool.not_false, Bool.not_true, List.getD_cons_succ, List.getD_cons_zero, List.map_cons, List.map_nil, Nat.add_zero, Nat.zero_add, Option.map_none, Option.map_some, Option.some.injEq, and_true, decide_false, decide_true, true_and, reduceCtorEq, Nat.reduceEqDiff, ↓reduceIte, Int.reduceEq, Int.reduceLT, Int.reduceLE, Nat.reduceAdd]
      refine (blanksR_spec dq own.hp.fr hw w0).mono ?_
      rintro r H5 ⟨k5, b, rfl, g5⟩
      have own2 := own.join (g5.gr k5) g5
      have own3 : OwnV t H5 v xs (⟨u, 6, mat w hh v 0 0 false⟩ :: ⟨t, 6, Z⟩ :: ⟨b, 7, rowV (List.replicate w blankC)⟩ :: rs) := own2.re ((List.Perm.swap _ _ _).trans (List.Perm.cons _ (List.Perm.swap _ _ _)))
      have l2' := own3.hp.load (b := u) (k := 6) (cs := mat w hh v 0 0 false) (List.mem_cons_self ..) (o := 2) rfl
      refine ⟨by simp only [echoOk, l2', own.same, Bool.and_self, SX, Opd.ev, resVal, resVals, ARes.val, Bool.false_eq_true, Bool.not_false, Bool.not_true, List.getD_cons_succ, List.getD_cons_zero, List.map_cons, List.map_nil, Nat.add_zero, Nat.zero_add, Option.map_none, Option.map_some, Option.some.injEq, and_true, decide_false, decide_true, true_and, reduceCtorEq, Nat.reduceEqDiff, ↓reduceIte, Int.reduceEq, Int.reduceLT, Int.reduceLE, Nat.reduceAdd], ?_⟩
      obtain ⟨H6, H7, v', p1, p2, own4, k7⟩ := own3.push (bytes := 24) (by omega) (by omega) (by omega) (.slc b 0 w w) rfl
      obtain ⟨H8, s8, own5, k8⟩ := own4.store (o := 2) own4.one (by simp [mat])
      simp only [e0, e1, e4, e5, e6, p1, p2, s8, w1, SX, Opd.ev, resVal, resVals, ARes.val, Bool.false_eq_true, Bool.not_false, Bool.not_true, List.getD_cons_succ, List.getD_cons_zero, List.map_cons, List.map_nil, Nat.add_zero, Nat.zero_add, Option.map_none, Option.map_some, Option.some.injEq, and_true, decide_false, decide_true, true_and, reduceCtorEq, Nat.reduceEqDiff, ↓reduceIte, Int.reduceEq, Int.reduceLT, Int.reduceLE, Nat.reduceAdd]
      have hbn := own.hp.bn
      exact ⟨hh - (i + 1), by omega, (hI _ _ _).2 ⟨i + 1, v', xs ++ [.slc b 0 w w], ⟨b, 7, rowV (List.replicate w blankC)⟩ :: rs, rfl, by omega, by simp [hxl], fun x hx => by
        rcases List.mem_append.1 hx with hx | hx
        · obtain ⟨b', q1, q2⟩ := hxs x hx
          exact ⟨b', q1, List.mem_cons_of_mem _ q2⟩
        · rw [List.mem_singleton] at hx
          exact ⟨b, hx, List.mem_cons_self ..⟩, own5, k4.trans ((k5.le hbn).trans (k7.trans k8)), (by first | (simp only [SX, Opd.ev, resVal, resVals, ARes.val, Bool.false_eq_true, Bool.not_false, Bool.not_true, List.getD_cons_succ, List.getD_cons_zero, List.map_cons, List.map_nil, Nat.add_zero, Nat.zero_add, Option.map_none, Option.map_some, Option.some.injEq, and_true, decide_false, decide_true, true_and, reduceCtorEq, Nat.reduceEqDiff, ↓reduceIte, Int.reduceEq, Int.reduceLT, Int.reduceLE, Nat.reduceAdd, e0]; done) | exact e0 | (simp only [SX, Opd.ev, resVal, resVals, ARes.val, Bool.false_eq_true, Bool.not_false, Bool.not_true, List.getD_cons_succ, List.getD_cons_zero, List.map_cons, List.map_nil, Nat.add_zero, Nat.zero_add, Option.map_none, Option.map_some, Option.some.injEq, and_true, decide_false, decide_true, true_and, reduceCtorEq, Nat.reduceEqDiff, ↓reduceIte, Int.reduceEq, Int.reduceLT, Int.reduceLE, Nat.reduceAdd, e0]; rfl)), (by first | (simp only [SX, Opd.ev, resVal, resVals, ARes.val, Bool.false_eq_true, Bool.not_false, Bool.not_true, List.getD_cons_succ, List.getD_cons_zero, List.map_cons, List.map_nil, Nat.add_zero, Nat.zero_add, Option.map_none, Option.map_some, Option.some.injEq, and_true, decide_false, decide_true, true_and, reduceCtorEq, Nat.reduceEqDiff, ↓reduceIte, Int.reduceEq, Int.reduceLT, Int.reduceLE, Nat.reduceAdd, e1]; done) | exact e1 | (simp only [SX, Opd.ev, resVal, resVals, ARes.val, Bool.false_eq_true, Bool.not_false, Bool.not_true, List.getD_cons_succ, List.getD_cons_zero, List.map_cons, List.map_nil, Nat.add_zero, Nat.zero_add, Option.map_none, Option.map_some, Option.some.injEq, and_true, decide_false, decide_true, true_and, reduceCtorEq, Nat.reduceEqDiff, ↓reduceIte, Int.reduceEq, Int.reduceLT, Int.reduceLE, Nat.reduceAdd, e1]; rfl)), (by first | (simp only [SX, Opd.ev, resVal, resVals, ARes.val, Bool.false_eq_true, Bool.not_false, Bool.not_true, List.getD_cons_succ, List.getD_cons_zero, List.map_cons, List.map_nil, Nat.add_zero, Nat.zero_add, Option.map_none, Option.map_some, Option.some.injEq, and_true, decide_false, decide_true, true_and, reduceCtorEq, Nat.reduceEqDiff, ↓reduceIte, Int.reduceEq, Int.reduceLT, Int.reduceLE, Nat.reduceAdd, e4]; done) | exact e4 | (simp only [SX, Opd.ev, resVal, resVals, ARes.val, Bool.false_eq_true, Bool.not_false, Bool.not_true, List.getD_cons_succ, List.getD_cons_zero, List.map_cons, List.map_nil, Nat.add_zero, Nat.zero_add, Option.map_none, Option.map_some, Option.some.injEq, and_true, decide_false, decide_true, true_and, reduceCtorEq, Nat.reduceEqDiff, ↓reduceIte, Int.reduceEq, Int.reduceLT, Int.reduceLE, Nat.reduceAdd, e4]; rfl)), (by first | (simp only [SX, Opd.ev, resVal, resVals, ARes.val, Bool.false_eq_true, Bool.not_false, Bool.not_true, List.getD_cons_succ, List.getD_cons_zero, List.map_cons, List.map_nil, Nat.add_zero, Nat.zero_add, Option.map_none, Option.map_some, Option.some.injEq, and_true, decide_false, decide_true, true_and, reduceCtorEq, Nat.reduceEqDiff, ↓reduceIte, Int.reduceEq, Int.reduceLT, Int.reduceLE, Nat.reduceAdd, e5]; done) | exact e5 | (simp only [SX, Opd.ev, resVal, resVals, ARes.val, Bool.false_eq_true, Bool.not_false, Bool.not_true, List.getD_cons_succ, List.getD_cons_zero, List.map_cons, List.map_nil, Nat.add_zero, Nat.zero_add, Option.map_none, Option.map_some, Option.some.injEq, and_true, decide_false, decide_true, true_and, reduceCtorEq, Nat.reduceEqDiff, ↓reduceIte, Int.reduceEq, Int.reduceLT, Int.reduceLE, Nat.reduceAdd, e5]; rfl)), (by first | (simp only [SX, Opd.ev, resVal, resVals, ARes.val, Bool.false_eq_true, Bool.not_false, Bool.not_true, List.getD_cons_succ, List.getD_cons_zero, List.map_cons, List.map_nil, Nat.add_zero, Nat.zero_add, Option.map_none, Option.map_some, Option.some.injEq, and_true, decide_false, decide_true, true_and, reduceCtorEq, Nat.reduceEqDiff, ↓reduceIte, Int.reduceEq, Int.reduceLT, Int.reduceLE, Nat.reduceAdd]; done) | (simp only [SX, Opd.ev, resVal, resVals, ARes.val, Bool.false_eq_true, Bool.not_false, Bool.not_true, List.getD_cons_succ, List.getD_cons_zero, List.map_cons, List.map_nil, Nat.add_zero, Nat.zero_add, Option.map_none, Option.map_some, Option.some.injEq, and_true, decide_false, decide_true, true_and, reduceCtorEq, Nat.reduceEqDiff, ↓reduceIte, Int.reduceEq, Int.reduceLT, Int.reduceLE, Nat.reduceAdd]; rfl) | rfl)⟩⟩
    · obtain rfl : i = hh := by omega
      have l6 := own.hp.loadN (b := u) (k := 6) (cs := mat w i v 0 0 false) (List.mem_cons_self ..) (n := 6) rfl
      obtain ⟨H5, s5, own5, k5⟩ := own.storeTail (new := mat w i v 0 0 false) hZl rfl (mat_one own.one)
      have l7 := own5.hp.loadN (b := t) (k := 6) (cs := mat w i v 0 0 false) (List.mem_cons_self ..) (n := 6) rfl
      simp only [e0, e1, e4, e5, e6, d, l6, s5, resCell, l7, SX, Opd.ev, resVal, resVals, ARes.val, Bool.false_eq_true, Bool.not_false, Bool.not_true, List.getD_cons_succ, List.getD_cons_zero, List.map_cons, List.map_nil, Nat.add_zero, Nat.zero_add, Option.map_none, Option.map_some, Option.some.injEq, and_true, decide_false, decide_true, true_and, reduceCtorEq, Nat.reduceEqDiff, ↓reduceIte, Int.reduceEq, Int.reduceLT, Int.reduceLE, Nat.reduceAdd]
      have hkk := k4.trans k5
      rw [← ht] at hkk
      refine ⟨⟨hkk, by rw [ht]; exact own5.hp.bn, own5.hp.fr⟩, v, rfl, own.one, own5.rows (by simp [hxl]) fun j x hx => ?_⟩
      rw [List.getElem?_replicate] at hx
      split at hx
      · obtain rfl := Option.some.inj hx
        obtain ⟨y, hy⟩ : ∃ y, xs[j]? = some y := ⟨_, List.getElem?_eq_getElem (by omega)⟩
        obtain ⟨b, rfl, q2⟩ := hxs y (List.mem_of_getElem? hy)
        have := own5.hp.rowS (b := b) (l := List.replicate w blankC) (cap := w) (List.mem_cons_of_mem _ (List.mem_cons_of_mem _ q2)) (by rw [List.length_replicate]; exact Nat.le_refl _)
        rw [List.length_replicate] at this
        exact ⟨_, hy, this⟩
      · cases hx
set_option maxHeartbeats 16000000 in
theorem given_spec (hf : Fr H) {w hh : Nat} {x y : Int} {s : Bool} {v : AV} {l : List Ce} (h : RowS H v l) (hw : 1 ≤ w ∧ w ≤ 400) (hh4 : 1 ≤ hh ∧ hh ≤ 400) (hl : l.length = w * hh) : FnTo Q 9 [.agg (mat w hh v x y s)] H (fun r H' => Gr H H' ∧ ∃ v', r = .agg (mat w hh v' x y s) ∧ v'.one = true ∧ IsS RowR H' v' ((List.range hh).map fun j => lineP l w j)) := by
  refine fn_wp (dq.pq.ho 9 rfl _) dq.q9 (by simp [A9]) ?_
  have ho : (mat w hh v x y s).all AV.one = true := mat_one h.one
  have hmx : w * hh ≤ 160000 := by have := Nat.mul_le_mul hw.2 hh4.2; omega
  obtain ⟨Z, hZ⟩ : ∃ Z : List AV, [AV.int .i64 0, .int .i64 0, .nils, .int .i64 0, .int .i64 0, .bool false] = Z := ⟨_, rfl⟩
  have hZl : Z.length = 6 := by rw [← hZ]; rfl
  obtain ⟨H0, s0, g0, k0⟩ := (Hp.nil H hf).make (mat w hh v x y s) 6
  obtain ⟨q, hq⟩ : ∃ q, H.next = q := ⟨_, rfl⟩
  rw [hq] at g0 k0
  obtain ⟨H1, s1, g1, k1⟩ := g0.make Z 6
  obtain ⟨t, ht⟩ : ∃ t, H0.next = t := ⟨_, rfl⟩
  rw [ht] at g1
  have lq : ∀ {H' : AHeap} {L : List Cel}, Hp q H' L → (⟨q, 6, mat w hh v x y s⟩ : Cel) ∈ L → loadV H' Option.none (.ptr q 0) = some (.int .i64 w) ∧ loadV H' Option.none (.ptr q 1) = some (.int .i64 hh) ∧ loadV H' Option.none (.ptr q 2) = some v ∧ loadV H' Option.none (.ptr q 3) = some (.int .i64 x) ∧ loadV H' Option.none (.ptr q 4) = some (.int .i64 y) ∧ loadV H' Option.none (.ptr q 5) = some (.bool s) := fun g hm =>
    ⟨g.load hm (o := 0) rfl, g.load hm (o := 1) rfl, g.load hm (o := 2) rfl, g.load hm (o := 3) rfl, g.load hm (o := 4) rfl, g.load hm (o := 5) rfl⟩
  obtain ⟨a0, a1, a2, a3, a4, a5⟩ := lq g1 (by simp)
  obtain ⟨H2, s2, g2, k2⟩ := g1.make Z 6
  obtain ⟨u, hu⟩ : ∃ u, H1.next = u := ⟨_, rfl⟩
  rw [hu] at g2
  obtain ⟨H3, s3, g3, k3, _⟩ := g2.storeN (n := 6) (new := mat w hh .nils x y s) hZl rfl rfl
  obtain ⟨b0, b1, b2, b3, b4, b5⟩ := lq g3 (by simp)
  have bd : buildV Z [(0, 1, .int .i64 w), (1, 1, .int .i64 hh), (3, 1, .int .i64 x), (4, 1, .int .i64 y), (5, 1, .bool s)] = some (.agg (mat w hh .nils x y s)) := by rw [← hZ]; rfl
  have c1 : ¬ (w : Int) < 1 := by omega
  have c2 : ¬ (hh : Int) < 1 := by omega
  have c3 : ¬ (400 : Int) < w := by omega
  have c4 : ¬ (400 : Int) < hh := by omega
  have ln := h.len H3
  have wm : IntKind.wrap .i64 ((w : Int) * (hh : Int)) = (l.length : Int) := by rw [← Int.natCast_mul, ← hl]; exact wrapNat (by omega)
  simp only [A9, hZ, boxV_agg ho, s0, hq, run_allocL, s1, ht, a0, a1, a3, a4, a5, run_build, bd, s2, hu, s3, b0, b1, b2, c1, c2, c3, c4, ln, wm, SX, Opd.ev, resVal, resVals, ARes.val, Bool.false_eq_true, Bool.not_false, Bool.not_true, List.getD_cons_succ, List.getD_cons_zero, List.map_cons, List.map_nil, Nat.add_zero, Nat.zero_add, Option.map_none, Option.map_some, Option.some.injEq, and_true, decide_false, decide_true, true_and, reduceCtorEq, Nat.reduceEqDiff, ↓reduceIte, Int.reduceEq, Int.reduceLT, Int.reduceLE, Nat.reduceAdd]
  obtain ⟨I, hI⟩ : ∃ I : Nat → Env → AHeap → Prop, ∀ m e H', I m e H' ↔ (∃ (i : Nat) (v' : AV) (xs : List AV), m = hh - i ∧ i ≤ hh ∧ xs.length = i ∧ (∀ (j : Nat) z, xs[j]? = some z → RowS H z (lineP l w j)) ∧ OwnV q H' v' xs (⟨u, 6, mat w hh v' x y s⟩ :: ⟨t, 6, Z⟩ :: [⟨q, 6, mat w hh v x y s⟩]) ∧ Gr H H' ∧
      Env.get e 1 = .ptr q 0 ∧ Env.get e 2 = .ptr t 0 ∧ Env.get e 3 = .ptr u 0 ∧ Env.get e 4 = .int .i64 i) := ⟨_, fun _ _ _ => Iff.rfl⟩
  have mkGr : ∀ {H' : AHeap} {L : List Cel}, Hp q H' L → Keep q H H' → Gr H H' := fun g k => ⟨by rw [hq]; exact k, by rw [hq]; exact g.bn, g.fr⟩
  refine loop_by I hh ?_ ?_
  · exact (hI _ _ _).2 ⟨0, .nils, [], rfl, by omega, rfl, fun j z hz => by simp at hz, .inl ⟨rfl, rfl, g3⟩, mkGr g3 (k0.trans (k1.trans (k2.trans k3))), (by first | (simp only [SX, Opd.ev, resVal, resVals, ARes.val, Bool.false_eq_true, Bool.not_false, Bool.not_true, List.getD_cons_succ, List.getD_cons_zero, List.map_cons, List.map_nil, Nat.add_zero, Nat.zero_add, Option.map_none, Option.map_some, Option.some.injEq, and_true, decide_false, decide_true, true_and, reduceCtorEq, Nat.reduceEqDiff, ↓reduceIte, Int.reduceEq, Int.reduceLT, Int.reduceLE, Nat.reduceAdd]; done) | (simp only [SX, Opd.ev, resVal, resVals, ARes.val, Bool.false_eq_true, Bool.not_false, Bool.not_true, List.getD_cons_succ, List.getD_cons_zero, List.map_cons, List.map_nil, Nat.add_zero, Nat.zero_add, Option.map_none, Option.map_some, Option.some.injEq, and_true, decide_false, decide_true, true_and, reduceCtorEq, Nat.reduceEqDiff, ↓reduceIte, Int.reduceEq, Int.reduceLT, Int.reduceLE, Nat.reduceAdd]; rfl) | rfl), (by first | (simp only [SX, Opd.ev, resVal, resVals, ARes.val, Bool.false_eq_true, Bool.not_false, Bool.not_true, List.getD_cons_succ, List.getD_cons_zero, List.map_cons, List.map_nil, Nat.add_zero, Nat.zero_add, Option.map_none, Option.map_some, Option.some.injEq, and_true, decide_false, decide_true, true_and, reduceCtorEq, Nat.reduceEqDiff, ↓reduceIte, Int.reduceEq, Int.reduceLT, Int.reduceLE, Nat.reduceAdd]; done) | (simp only [SX, Opd.ev, resVal, resVals, ARes.val, Bool.false_eq_true, Bool.not_false, Bool.not_true, List.getD_cons_succ, List.getD_cons_zero, List.map_cons, List.map_nil, Nat.add_zero, Nat.zero_add, Option.map_none, Option.map_some, Option.some.injEq, and_true, decide_false, decide_true, true_and, reduceCtorEq, Nat.reduceEqDiff, ↓reduceIte, Int.reduceEq, Int.reduceLT, Int.reduceLE, Nat.reduceAdd]; rfl) | rfl), (by first | (simp only [SX, Opd.ev, resVal, resVals, ARes.val, Bool.false_eq_true, Bool.not_false, Bool.not_true, List.getD_cons_succ, List.getD_cons_zero, List.map_cons, List.map_nil, Nat.add_zero, Nat.zero_add, Option.map_none, Option.map_some, Option.some.injEq, and_true, decide_false, decide_true, true_and, reduceCtorEq, Nat.reduceEqDiff, ↓reduceIte, Int.reduceEq, Int.reduceLT, Int.reduceLE, Nat.reduceAdd]; done) | (simp only [SX, Opd.ev, resVal, resVals, ARes.val, Bool.false_eq_true, Bool.not_false, Bool.not_true, List.getD_cons_succ, List.getD_cons_zero, List.map_cons, List.map_nil, Nat.add_zero, Nat.zero_add, Option.map_none, Option.map_some, Option.some.injEq, and_true, decide_false, decide_true, true_and, reduceCtorEq, Nat.reduceEqDiff, ↓reduceIte, Int.reduceEq, Int.reduceLT, Int.reduceLE, Nat.reduceAdd]; rfl) | rfl), (by first | (simp only [SX, Opd.ev, resVal, resVals, ARes.val, Bool.false_eq_true, Bool.not_false, Bool.not_true, List.getD_cons_succ, List.getD_cons_zero, List.map_cons, List.map_nil, Nat.add_zero, Nat.zero_add, Option.map_none, Option.map_some, Option.some.injEq, and_true, decide_false, decide_true, true_and, reduceCtorEq, Nat.reduceEqDiff, ↓reduceIte, Int.reduceEq, Int.reduceLT, Int.reduceLE, Nat.reduceAdd]; done) | (simp only [SX, Opd.ev, resVal, resVals, ARes.val, Bool.false_eq_true, Bool.not_false, Bool.not_true, List.getD_cons_succ, List.getD_cons_zero, List.map_cons, List.map_nil, Nat.add_zero, Nat.zero_add, Option.map_none, Option.map_some, Option.some.injEq, and_true, decide_false, decide_true, true_and, reduceCtorEq, Nat.reduceEqDiff, ↓reduceIte, Int.reduceEq, Int.reduceLT, Int.reduceLE, Nat.reduceAdd]; rfl) | rfl)⟩
  · intro m e H4 hinv
    obtain ⟨i, v', xs, rfl, hi, hxl, hxs, own, gg, e1, e2, e3, e4⟩ := (hI _ _ _).1 hinv
    obtain ⟨b0, b1, b2, b3, b4, b5⟩ := lq own.hp (by simp)
    by_cases d : (i : Int) < hh
    · have w1 : IntKind.wrap .i64 ((i : Int) + 1) = ((i + 1 : Nat) : Int) := wrapNat (n := i + 1) (by omega)
      have m1 : i * w ≤ 160000 := by have := Nat.mul_le_mul (show i ≤ 400 by omega) hw.2; omega
      have m2 : (i + 1) * w ≤ l.length := by
        have h1 : (i + 1) * w ≤ hh * w := Nat.mul_le_mul_right _ (by omega)
        rw [Nat.mul_comm hh w] at h1; omega
      have w2 : IntKind.wrap .i64 ((i : Int) * (w : Int)) = ((i * w : Nat) : Int) := by rw [← Int.natCast_mul]; exact wrapNat (by omega)
      have w3 : IntKind.wrap .i64 (((i + 1 : Nat) : Int) * (w : Int)) = (((i + 1) * w : Nat) : Int) := by rw [← Int.natCast_mul]; exact wrapNat (by omega)
      have l2 := own.hp.load (b := u) (k := 6) (cs := mat w hh v' x y s) (List.mem_cons_self ..) (o := 2) rfl
      obtain ⟨sl, _⟩ := (h.grow hf gg).slice (m := i * w) (n := (i + 1) * w) (Nat.mul_le_mul_right _ (by omega)) m2
      obtain ⟨_, rs⟩ := h.slice (m := i * w) (n := (i + 1) * w) (Nat.mul_le_mul_right _ (by omega)) m2
      obtain ⟨z, hz⟩ : ∃ z, slcOf v (i * w) ((i + 1) * w) = z := ⟨_, rfl⟩
      rw [hz] at sl rs
      obtain ⟨H6, H7, v2, p1, p2, own4, k7⟩ := own.push (bytes := 24) (by omega) (by omega) (by omega) z rs.one
      obtain ⟨H8, s8, own5, k8⟩ := own4.store (o := 2) own4.one (by simp [mat])
      have g8 : Gr H H8 := mkGr own5.hp (by have := gg.keep; rw [hq] at this; exact this.trans (k7.trans k8))
      simp only [e1, e2, e3, e4, d, b0, b1, b2, l2, w1, w2, w3, sl, Option.map_some, bs1V_one rs.one, p1, p2, s8, SX, Opd.ev, resVal, resVals, ARes.val, Bool.false_eq_true, Bool.not_false, Bool.not_true, List.getD_cons_succ, List.getD_cons_zero, List.map_cons, List.map_nil, Nat.add_zero, Nat.zero_add, Option.map_none, Option.map_some, Option.some.injEq, and_true, decide_false, decide_true, true_and, reduceCtorEq, Nat.reduceEqDiff, ↓reduceIte, Int.reduceEq, Int.reduceLT, Int.reduceLE, Nat.reduceAdd]
      refine ⟨hh - (i + 1), by omega, (hI _ _ _).2 ⟨i + 1, v2, xs ++ [z], rfl, by omega, by simp [hxl], ?_, own5, g8, (by first | (simp only [SX, Opd.ev, resVal, resVals, ARes.val, Bool.false_eq_true, Bool.not_false, Bool.not_true, List.getD_cons_succ, List.getD_cons_zero, List.map_cons, List.map_nil, Nat.add_zero, Nat.zero_add, Option.map_none, Option.map_some, Option.some.injEq, and_true, decide_false, decide_true, true_and, reduceCtorEq, Nat.reduceEqDiff, ↓reduceIte, Int.reduceEq, Int.reduceLT, Int.reduceLE, Nat.reduceAdd, e1]; done) | exact e1 | (simp only [SX, Opd.ev, resVal, resVals, ARes.val, Bool.false_eq_true, Bool.not_false, Bool.not_true, List.getD_cons_succ, List.getD_cons_zero, List.map_cons, List.map_nil, Nat.add_zero, Nat.zero_add, Option.map_none, Option.map_some, Option.some.injEq, and_true, decide_false, decide_true, true_and, reduceCtorEq, Nat.reduceEqDiff, ↓reduceIte, Int.reduceEq, Int.reduceLT, Int.reduceLE, Nat.reduceAdd, e1]; rfl)), (by first | (simp only [SX, Opd.ev, resVal, resVals, ARes.val, Bool.false_eq_true, Bool.not_false, Bool.not_true, List.getD_cons_succ, List.getD_cons_zero, List.map_cons, List.map_nil, Nat.add_zero, Nat.zero_add, Option.map_none, Option.map_some, Option.some.injEq, and_true, decide_false, decide_true, true_and, reduceCtorEq, Nat.reduceEqDiff, ↓reduceIte, Int.reduceEq, Int.reduceLT, Int.reduceLE, Nat.reduceAdd, e2]; done) | exact e2 | (simp only [SX, Opd.ev, resVal, resVals, ARes.val, Bool.false_eq_true, Bool.not_false, Bool.not_true, List.getD_cons_succ, List.getD_cons_zero, List.map_cons, List.map_nil, Nat.add_zero, Nat.zero_add, Option.map_none, Option.map_some, Option.some.injEq, and_true, decide_false, decide_true, true_and, reduceCtorEq, Nat.reduceEqDiff, ↓reduceIte, Int.reduceEq, Int.reduceLT, Int.reduceLE, Nat.reduceAdd, e2]; rfl)), (by first | (simp only [SX, Opd.ev, resVal, resVals, ARes.val, Bool.false_eq_true, Bool.not_false, Bool.not_true, List.getD_cons_succ, List.getD_cons_zero, List.map_cons, List.map_nil, Nat.add_zero, Nat.zero_add, Option.map_none, Option.map_some, Option.some.injEq, and_true, decide_false, decide_true, true_and, reduceCtorEq, Nat.reduceEqDiff, ↓reduceIte, Int.reduceEq, Int.reduceLT, Int.reduceLE, Nat.reduceAdd, e3]; done) | exact e3 | (simp only [SX, Opd.ev, resVal, resVals, ARes.val, Bool.false_eq_true, Bool.not_false, Bool.not_true, List.getD_cons_succ, List.getD_cons_zero, List.map_cons, List.map_nil, Nat.add_zero, Nat.zero_add, Option.map_none, Option.map_some, Option.some.injEq, and_true, decide_false, decide_true, true_and, reduceCtorEq, Nat.reduceEqDiff, ↓reduceIte, Int.reduceEq, Int.reduceLT, Int.reduceLE, Nat.reduceAdd, e3]; rfl)), (by first | (simp only [SX, Opd.ev, resVal, resVals, ARes.val, Bool.false_eq_true, Bool.not_false, Bool.not_true, List.getD_cons_succ, List.getD_cons_zero, List.map_cons, List.map_nil, Nat.add_zero, Nat.zero_add, Option.map_none, Option.map_some, Option.some.injEq, and_true, decide_false, decide_true, true_and, reduceCtorEq, Nat.reduceEqDiff, ↓reduceIte, Int.reduceEq, Int.reduceLT, Int.reduceLE, Nat.reduceAdd]; done) | (simp only [SX, Opd.ev, resVal, resVals, ARes.val, Bool.false_eq_true, Bool.not_false, Bool.not_true, List.getD_cons_succ, List.getD_cons_zero, List.map_cons, List.map_nil, Nat.add_zero, Nat.zero_add, Option.map_none, Option.map_some, Option.some.injEq, and_true, decide_false, decide_true, true_and, reduceCtorEq, Nat.reduceEqDiff, ↓reduceIte, Int.reduceEq, Int.reduceLT, Int.reduceLE, Nat.reduceAdd]; rfl) | rfl)⟩⟩
      intro j y' hy
      by_cases hj : j < i
      · rw [List.getElem?_append_left (by omega)] at hy
        exact hxs j y' hy
      · rw [List.getElem?_append_right (by omega), hxl] at hy
        have hji : j = i := by
          have := (List.getElem?_eq_some_iff.1 hy).1
          simp at this; omega
        subst hji
        simp at hy
        subst hy
        exact rs
    · obtain rfl : i = hh := by omega
      have l6 := own.hp.loadN (b := u) (k := 6) (cs := mat w i v' x y s) (List.mem_cons_self ..) (n := 6) rfl
      obtain ⟨H5, s5, own5, k5⟩ := own.storeTail (new := mat w i v' x y s) hZl rfl (mat_one own.one)
      have l7 := own5.hp.loadN (b := t) (k := 6) (cs := mat w i v' x y s) (List.mem_cons_self ..) (n := 6) rfl
      simp only [e1, e2, e3, e4, d, b1, l6, s5, resCell, l7, SX, Opd.ev, resVal, resVals, ARes.val, Bool.false_eq_true, Bool.not_false, Bool.not_true, List.getD_cons_succ, List.getD_cons_zero, List.map_cons, List.map_nil, Nat.add_zero, Nat.zero_add, Option.map_none, Option.map_some, Option.some.injEq, and_true, decide_false, decide_true, true_and, reduceCtorEq, Nat.reduceEqDiff, ↓reduceIte, Int.reduceEq, Int.reduceLT, Int.reduceLE, Nat.reduceAdd]
      have g5 : Gr H H5 := mkGr own5.hp (by have := gg.keep; rw [hq] at this; exact this.trans k5)
      refine ⟨g5, v', rfl, own.one, own5.rows (by simp [hxl]) fun j z hz => ?_⟩
      simp only [List.getElem?_map, Option.map_eq_some_iff] at hz
      obtain ⟨j', hj, rfl⟩ := hz
      obtain ⟨hj1, hj2⟩ := List.getElem?_eq_some_iff.1 hj
      simp at hj1 hj2
      subst hj2
      obtain ⟨y', hy⟩ : ∃ y', xs[j]? = some y' := ⟨_, List.getElem?_eq_getElem (by omega)⟩
      exact ⟨y', hy, (hxs j y' hy).grow hf g5⟩
end
end Go.Proofs.YtkfnjjloefanjaaDoor.AM
