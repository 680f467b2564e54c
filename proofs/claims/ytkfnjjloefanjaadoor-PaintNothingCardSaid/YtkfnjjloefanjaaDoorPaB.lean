/-
  Whether a row, and a frame, may be; a frame of plain blanks; walked on the abstract machine.
-/
import Derived.Test.YtkfnjjloefanjaaDoorPaA
set_option linter.unusedVariables false
set_option linter.unusedSimpArgs false
namespace Go.Proofs.YtkfnjjloefanjaaDoor.AM
open Go
/-! ### How wide a character is -/
def ofB (mid : Nat) : Int := if IntKind.wrap .i64 (((BitVec.ofInt 64 ((33948543 : Int).fdiv (2 ^ (min mid 64))) &&& BitVec.ofInt 64 1).toNat : Nat) : Int) = 1 then 0 else 2
def ofF : Nat → Int → Nat → Nat → Int
  | 0, _, _, _ => 1
  | f + 1, r, lo, hi =>
    if lo < hi then
      (if r < zbounds.getD (2 * ((lo + hi) / 2)) 0 then ofF f r lo ((lo + hi) / 2)
      else if zbounds.getD (2 * ((lo + hi) / 2) + 1) 0 < r then ofF f r ((lo + hi) / 2 + 1) hi
      else ofB ((lo + hi) / 2))
    else 1
def ofP (r : Int) : Int := ofF 26 r 0 26
theorem ofF_end (f : Nat) (r : Int) {lo hi : Nat} (h : ¬ lo < hi) : ofF f r lo hi = 1 := by
  cases f with
  | zero => rfl
  | succ f => unfold ofF; rw [if_neg h]
theorem zb_len : zbounds.length = 52 := rfl
theorem tb_at {H : AHeap} (h : hasTabs H TT = true) {i : Nat} (hi : i < 52) : loadV H none (.ptr 0 i) = some (.int .i32 (zbounds.getD i 0)) := by
  have h1 := List.all_eq_true.1 h ⟨0, .i32, zbounds⟩ (by simp [TT])
  split at h1
  · rename_i B hB
    simp only [Bool.and_eq_true] at h1
    have hc := sameL_eq1 h1.2
    have hr : H.row 0 = some B := by simp only [AHeap.row, hB, h1.1, if_true]
    have hz : zbounds[i]? = some zbounds[i] := List.getElem?_eq_getElem (by rw [zb_len]; exact hi)
    simp only [loadV, ROp.run, Opd.ev, hr, hc, Tb.cs, List.getElem?_map, hz]
    rw [List.getD_eq_getElem?_getD, hz]; rfl
  · cases h1
theorem ixA {n es : Nat} {b o i : Nat} (h : i < n) (k : IntKind) : idxAV n es (.ptr b o) (.int k (i : Int)) = some (.ptr b (o + i * es)) := by
  simp only [idxAV, ROp.run, Opd.ev, inIndex, if_pos (show 0 ≤ (i : Int) ∧ (i : Int) < (n : Int) by omega), Int.toNat_natCast]
/-! ### What may be -/
def colP (k n : Int) : Bool := (decide (k = 0) && decide (n = 0)) || (decide (k = 1) && decide (n ≤ 255)) || (decide (k = 2) && decide (n < 16777216))
def attrP (c : Ce) : Bool := decide (c.f ≤ 255) && colP c.k1 c.n1 && colP c.k2 c.n2
def validP (r : Int) : Bool := (decide (0 ≤ r) && decide (r < 55296)) || (decide (57343 < r) && decide (r ≤ 1114111))
def wholeP : List Int → Bool
  | [] => true
  | w :: t => if w = 0 then wholeP t else match t with
    | [] => false
    | v :: t' => if w = 1 ∧ v = 2 then wholeP t' else false
theorem wholeP_cons (w : Int) (t : List Int) : wholeP (w :: t) = if w = 0 then wholeP t else match t with | [] => false | v :: t' => if w = 1 ∧ v = 2 then wholeP t' else false := by rw [wholeP.eq_def]
def ws (l : List Ce) : List Int := l.map (·.w)
theorem ws_drop (l : List Ce) (i : Nat) : ws (l.drop i) = (ws l).drop i := List.map_drop ..
theorem ws_len (l : List Ce) : (ws l).length = l.length := List.length_map ..
theorem ws_at {l : List Ce} {i : Nat} {c : Ce} (h : l[i]? = some c) : (ws l).drop i = c.w :: (ws l).drop (i + 1) := by
  obtain ⟨h1, h2⟩ := List.getElem?_eq_some_iff.1 h
  have : (ws l)[i]? = some c.w := by simp [ws, h]
  obtain ⟨h3, h4⟩ := List.getElem?_eq_some_iff.1 this
  rw [List.drop_eq_getElem_cons h3, h4]
/-- a cell, behind another one -/
def sameA (c d : Ce) : Prop := c.f = d.f ∧ c.k1 = d.k1 ∧ c.n1 = d.n1 ∧ c.k2 = d.k2 ∧ c.n2 = d.n2
instance (c d : Ce) : Decidable (sameA c d) := by unfold sameA; exact inferInstance
def okC (p : Ce) (c : Ce) : Bool := if c.w = 2 then decide (c.r = p.r) && decide (sameA c p) else attrP c && (validP c.r && decide (ofP c.r = if c.w = 1 then 2 else 1))
def okF (l : List Ce) (i : Nat) : Bool := match l[i]? with | some c => okC (l.getD (i - 1) blankC) c | none => true
def rightP (l : List Ce) : Bool := wholeP (ws l) && (List.range l.length).all (okF l)
theorem all_range (n : Nat) (f : Nat → Bool) : (List.range n).all f = true ↔ ∀ i < n, f i = true := by simp
theorem whole_first : ∀ {t : List Int}, wholeP t = true → t.head? ≠ some 2
  | [], _ => by simp
  | w :: t, h => by
    intro e
    simp only [List.head?_cons, Option.some.injEq] at e
    subst e
    unfold wholeP at h
    simp at h
    cases t <;> simp at h
theorem seq5 (c d : Ce) : seqV [1, 1, 1, 1, 1] true (.agg c.at) (.agg d.at) = some (.bool (!decide (sameA c d))) := by
  simp only [seqV, ROp.run, Opd.ev, Ce.at, List.length_cons, List.length_nil, Nat.zero_add, Nat.reduceAdd, and_self, if_true, cellsEq, sameA]
  by_cases h1 : c.f = d.f <;> by_cases h2 : c.k1 = d.k1 <;> by_cases h3 : c.n1 = d.n1 <;> by_cases h4 : c.k2 = d.k2 <;> by_cases h5 : c.n2 = d.n2 <;> simp [h1, h2, h3, h4, h5]
section
variable {Q : Prog} (pq : PaQ Q) {H : AHeap}
include pq
set_option maxHeartbeats 4000000 in
theorem of_spec (ht : hasTabs H TT = true) (r : Int) : FnTo Q 43 [.int .i32 r] H (fun v H' => v = .int .i64 (ofP r) ∧ H' = H) := by
  refine fn_wp (pq.ho 43 rfl _) pq.q43 (by simp [A43]) ?_
  simp only [A43, SX, Opd.ev, resVal, resVals, ARes.val, Bool.false_eq_true, Bool.not_false, Bool.not_true, List.getD_cons_succ, List.getD_cons_zero, List.map_cons, List.map_nil, Nat.add_zero, Nat.zero_add, Option.map_none, Option.map_some, Option.some.injEq, and_true, decide_false, decide_true, true_and, reduceCtorEq, Nat.reduceEqDiff, ↓reduceIte, Int.reduceEq, Int.reduceLT, Int.reduceLE, Nat.reduceAdd]
  obtain ⟨I, hI⟩ : ∃ I : Nat → Env → AHeap → Prop, ∀ m e H', I m e H' ↔ (H' = H ∧ ∃ f lo hi : Nat, m = hi - lo ∧ hi ≤ 26 ∧ hi - lo ≤ f ∧ ofF f r lo hi = ofP r ∧ Env.get e 0 = .int .i32 r ∧ Env.get e 3 = .int .i64 lo ∧ Env.get e 4 = .int .i64 hi) := ⟨_, fun _ _ _ => Iff.rfl⟩
  refine loop_by I 26 ?_ ?_
  · exact (hI _ _ _).2 ⟨rfl, 26, 0, 26, rfl, by omega, by omega, rfl, (by first | (simp only [SX, Opd.ev, resVal, resVals, ARes.val, Bool.false_eq_true, Bool.not_false, Bool.not_true, List.getD_cons_succ, List.getD_cons_zero, List.map_cons, List.map_nil, Nat.add_zero, Nat.zero_add, Option.map_none, Option.map_some, Option.some.injEq, and_true, decide_false, decide_true, true_and, reduceCtorEq, Nat.reduceEqDiff, ↓reduceIte, Int.reduceEq, Int.reduceLT, Int.reduceLE, Nat.reduceAdd]; done) | (simp only [SX, Opd.ev, resVal, resVals, ARes.val, Bool.false_eq_true, Bool.not_false, Bool.not_true, List.getD_cons_succ, List.getD_cons_zero, List.map_cons, List.map_nil, Nat.add_zero, Nat.zero_add, Option.map_none, Option.map_some, Option.some.injEq, and_true, decide_false, decide_true, true_and, reduceCtorEq, Nat.reduceEqDiff, ↓reduceIte, Int.reduceEq, Int.reduceLT, Int.reduceLE, Nat.reduceAdd]; rfl) | rfl), (by first | (simp only [SX, Opd.ev, resVal, resVals, ARes.val, Bool.false_eq_true, Bool.not_false, Bool.not_true, List.getD_cons_succ, List.getD_cons_zero, List.map_cons, List.map_nil, Nat.add_zero, Nat.zero_add, Option.map_none, Option.map_some, Option.some.injEq, and_true, decide_false, decide_true, true_and, reduceCtorEq, Nat.reduceEqDiff, ↓reduceIte, Int.reduceEq, Int.reduceLT, Int.reduceLE, Nat.reduceAdd]; done) | (simp only [SX, Opd.ev, resVal, resVals, ARes.val, Bool.false_eq_true, Bool.not_false, Bool.not_true, List.getD_cons_succ, List.getD_cons_zero, List.map_cons, List.map_nil, Nat.add_zero, Nat.zero_add, Option.map_none, Option.map_some, Option.some.injEq, and_true, decide_false, decide_true, true_and, reduceCtorEq, Nat.reduceEqDiff, ↓reduceIte, Int.reduceEq, Int.reduceLT, Int.reduceLE, Nat.reduceAdd]; rfl) | rfl), (by first | (simp only [SX, Opd.ev, resVal, resVals, ARes.val, Bool.false_eq_true, Bool.not_false, Bool.not_true, List.getD_cons_succ, List.getD_cons_zero, List.map_cons, List.map_nil, Nat.add_zero, Nat.zero_add, Option.map_none, Option.map_some, Option.some.injEq, and_true, decide_false, decide_true, true_and, reduceCtorEq, Nat.reduceEqDiff, ↓reduceIte, Int.reduceEq, Int.reduceLT, Int.reduceLE, Nat.reduceAdd]; done) | (simp only [SX, Opd.ev, resVal, resVals, ARes.val, Bool.false_eq_true, Bool.not_false, Bool.not_true, List.getD_cons_succ, List.getD_cons_zero, List.map_cons, List.map_nil, Nat.add_zero, Nat.zero_add, Option.map_none, Option.map_some, Option.some.injEq, and_true, decide_false, decide_true, true_and, reduceCtorEq, Nat.reduceEqDiff, ↓reduceIte, Int.reduceEq, Int.reduceLT, Int.reduceLE, Nat.reduceAdd]; rfl) | rfl)⟩
  · intro m e H' hinv
    obtain ⟨hx, f, lo, hi, rfl, h26, hf, hof, e0, e3, e4⟩ := (hI _ _ _).1 hinv
    subst hx
    by_cases c : lo < hi
    · have d : decide ((lo : Int) < (hi : Int)) = true := decide_eq_true (by omega)
      obtain ⟨f, rfl⟩ : ∃ g, f = g + 1 := ⟨f - 1, by omega⟩
      unfold ofF at hof
      rw [if_pos c] at hof
      obtain ⟨mid, hm⟩ : ∃ mid, (lo + hi) / 2 = mid := ⟨_, rfl⟩
      have hm1 : lo ≤ mid ∧ mid < hi := by omega
      have w1 : IntKind.wrap .i64 ((lo : Int) + (hi : Int)) = ((lo + hi : Nat) : Int) := by rw [wrapI64 (by omega) (by omega)]; rfl
      have q1 : binV .quo (.int .i64 ((lo + hi : Nat) : Int)) (.int .i64 2) = some (.int .i64 (mid : Int)) := by
        have e : binV .quo (.int .i64 ((lo + hi : Nat) : Int)) (.int .i64 2) = some (.int .i64 (IntKind.wrap .i64 (((lo + hi : Nat) : Int).tdiv 2))) := by simp [binV, intBin]
        have e2 : (((lo + hi : Nat) : Int)).tdiv 2 = (((lo + hi) / 2 : Nat) : Int) := rfl
        rw [e, e2, hm, wrapI64 (by omega) (by omega)]
      rw [hm] at hof
      have i1 : idxAV 26 2 (.ptr 0 0) (.int .i64 (mid : Int)) = some (.ptr 0 (0 + mid * 2)) := ixA (by omega) _
      have i2 : idxAV 2 1 (.ptr 0 (0 + mid * 2)) (.int .i64 0) = some (.ptr 0 (0 + mid * 2 + 0 * 1)) := ixA (i := 0) (by omega) _
      have i3 : idxAV 2 1 (.ptr 0 (0 + mid * 2)) (.int .i64 1) = some (.ptr 0 (0 + mid * 2 + 1 * 1)) := ixA (i := 1) (by omega) _
      have n1 : 0 + mid * 2 + 0 * 1 = 2 * mid := by omega
      have n2 : 0 + mid * 2 + 1 * 1 = 2 * mid + 1 := by omega
      rw [n1] at i2
      rw [n2] at i3
      rw [Nat.zero_add] at i1 i2 i3
      have l1 := tb_at ht (i := 2 * mid) (by omega)
      have l2 := tb_at ht (i := 2 * mid + 1) (by omega)
      by_cases c1 : r < zbounds.getD (2 * mid) 0
      · have d1 : decide (r < zbounds.getD (2 * mid) 0) = true := decide_eq_true c1
        rw [if_pos c1] at hof
        simp only [e0, e3, e4, d, w1, q1, i1, i2, l1, d1, SX, Opd.ev, resVal, resVals, ARes.val, Bool.false_eq_true, Bool.not_false, Bool.not_true, List.getD_cons_succ, List.getD_cons_zero, List.map_cons, List.map_nil, Nat.add_zero, Nat.zero_add, Option.map_none, Option.map_some, Option.some.injEq, and_true, decide_false, decide_true, true_and, reduceCtorEq, Nat.reduceEqDiff, ↓reduceIte, Int.reduceEq, Int.reduceLT, Int.reduceLE, Nat.reduceAdd]
        refine ⟨mid - lo, by omega, (hI _ _ _).2 ⟨rfl, f, lo, mid, rfl, by omega, by omega, hof, (by first | (simp only [SX, Opd.ev, resVal, resVals, ARes.val, Bool.false_eq_true, Bool.not_false, Bool.not_true, List.getD_cons_succ, List.getD_cons_zero, List.map_cons, List.map_nil, Nat.add_zero, Nat.zero_add, Option.map_none, Option.map_some, Option.some.injEq, and_true, decide_false, decide_true, true_and, reduceCtorEq, Nat.reduceEqDiff, ↓reduceIte, Int.reduceEq, Int.reduceLT, Int.reduceLE, Nat.reduceAdd, e0]; done) | exact e0 | (simp only [SX, Opd.ev, resVal, resVals, ARes.val, Bool.false_eq_true, Bool.not_false, Bool.not_true, List.getD_cons_succ, List.getD_cons_zero, List.map_cons, List.map_nil, Nat.add_zero, Nat.zero_add, Option.map_none, Option.map_some, Option.some.injEq, and_true, decide_false, decide_true, true_and, reduceCtorEq, Nat.reduceEqDiff, ↓reduceIte, Int.reduceEq, Int.reduceLT, Int.reduceLE, Nat.reduceAdd, e0]; rfl)), (by first | (simp only [SX, Opd.ev, resVal, resVals, ARes.val, Bool.false_eq_true, Bool.not_false, Bool.not_true, List.getD_cons_succ, List.getD_cons_zero, List.map_cons, List.map_nil, Nat.add_zero, Nat.zero_add, Option.map_none, Option.map_some, Option.some.injEq, and_true, decide_false, decide_true, true_and, reduceCtorEq, Nat.reduceEqDiff, ↓reduceIte, Int.reduceEq, Int.reduceLT, Int.reduceLE, Nat.reduceAdd, e3]; done) | exact e3 | (simp only [SX, Opd.ev, resVal, resVals, ARes.val, Bool.false_eq_true, Bool.not_false, Bool.not_true, List.getD_cons_succ, List.getD_cons_zero, List.map_cons, List.map_nil, Nat.add_zero, Nat.zero_add, Option.map_none, Option.map_some, Option.some.injEq, and_true, decide_false, decide_true, true_and, reduceCtorEq, Nat.reduceEqDiff, ↓reduceIte, Int.reduceEq, Int.reduceLT, Int.reduceLE, Nat.reduceAdd, e3]; rfl)), (by first | (simp only [SX, Opd.ev, resVal, resVals, ARes.val, Bool.false_eq_true, Bool.not_false, Bool.not_true, List.getD_cons_succ, List.getD_cons_zero, List.map_cons, List.map_nil, Nat.add_zero, Nat.zero_add, Option.map_none, Option.map_some, Option.some.injEq, and_true, decide_false, decide_true, true_and, reduceCtorEq, Nat.reduceEqDiff, ↓reduceIte, Int.reduceEq, Int.reduceLT, Int.reduceLE, Nat.reduceAdd]; done) | (simp only [SX, Opd.ev, resVal, resVals, ARes.val, Bool.false_eq_true, Bool.not_false, Bool.not_true, List.getD_cons_succ, List.getD_cons_zero, List.map_cons, List.map_nil, Nat.add_zero, Nat.zero_add, Option.map_none, Option.map_some, Option.some.injEq, and_true, decide_false, decide_true, true_and, reduceCtorEq, Nat.reduceEqDiff, ↓reduceIte, Int.reduceEq, Int.reduceLT, Int.reduceLE, Nat.reduceAdd]; rfl) | rfl)⟩⟩
      · have d1 : decide (r < zbounds.getD (2 * mid) 0) = false := decide_eq_false c1
        rw [if_neg c1] at hof
        by_cases c2 : zbounds.getD (2 * mid + 1) 0 < r
        · have d2 : decide (zbounds.getD (2 * mid + 1) 0 < r) = true := decide_eq_true c2
          rw [if_pos c2] at hof
          have w2 : IntKind.wrap .i64 ((mid : Int) + 1) = ((mid + 1 : Nat) : Int) := by rw [wrapI64 (by omega) (by omega)]; rfl
          simp only [e0, e3, e4, d, w1, q1, i1, i2, i3, l1, l2, d1, d2, w2, SX, Opd.ev, resVal, resVals, ARes.val, Bool.false_eq_true, Bool.not_false, Bool.not_true, List.getD_cons_succ, List.getD_cons_zero, List.map_cons, List.map_nil, Nat.add_zero, Nat.zero_add, Option.map_none, Option.map_some, Option.some.injEq, and_true, decide_false, decide_true, true_and, reduceCtorEq, Nat.reduceEqDiff, ↓reduceIte, Int.reduceEq, Int.reduceLT, Int.reduceLE, Nat.reduceAdd]
          refine ⟨hi - (mid + 1), by omega, (hI _ _ _).2 ⟨rfl, f, mid + 1, hi, rfl, by omega, by omega, hof, (by first | (simp only [SX, Opd.ev, resVal, resVals, ARes.val, Bool.false_eq_true, Bool.not_false, Bool.not_true, List.getD_cons_succ, List.getD_cons_zero, List.map_cons, List.map_nil, Nat.add_zero, Nat.zero_add, Option.map_none, Option.map_some, Option.some.injEq, and_true, decide_false, decide_true, true_and, reduceCtorEq, Nat.reduceEqDiff, ↓reduceIte, Int.reduceEq, Int.reduceLT, Int.reduceLE, Nat.reduceAdd, e0]; done) | exact e0 | (simp only [SX, Opd.ev, resVal, resVals, ARes.val, Bool.false_eq_true, Bool.not_false, Bool.not_true, List.getD_cons_succ, List.getD_cons_zero, List.map_cons, List.map_nil, Nat.add_zero, Nat.zero_add, Option.map_none, Option.map_some, Option.some.injEq, and_true, decide_false, decide_true, true_and, reduceCtorEq, Nat.reduceEqDiff, ↓reduceIte, Int.reduceEq, Int.reduceLT, Int.reduceLE, Nat.reduceAdd, e0]; rfl)), (by first | (simp only [SX, Opd.ev, resVal, resVals, ARes.val, Bool.false_eq_true, Bool.not_false, Bool.not_true, List.getD_cons_succ, List.getD_cons_zero, List.map_cons, List.map_nil, Nat.add_zero, Nat.zero_add, Option.map_none, Option.map_some, Option.some.injEq, and_true, decide_false, decide_true, true_and, reduceCtorEq, Nat.reduceEqDiff, ↓reduceIte, Int.reduceEq, Int.reduceLT, Int.reduceLE, Nat.reduceAdd]; done) | (simp only [SX, Opd.ev, resVal, resVals, ARes.val, Bool.false_eq_true, Bool.not_false, Bool.not_true, List.getD_cons_succ, List.getD_cons_zero, List.map_cons, List.map_nil, Nat.add_zero, Nat.zero_add, Option.map_none, Option.map_some, Option.some.injEq, and_true, decide_false, decide_true, true_and, reduceCtorEq, Nat.reduceEqDiff, ↓reduceIte, Int.reduceEq, Int.reduceLT, Int.reduceLE, Nat.reduceAdd]; rfl) | rfl), (by first | (simp only [SX, Opd.ev, resVal, resVals, ARes.val, Bool.false_eq_true, Bool.not_false, Bool.not_true, List.getD_cons_succ, List.getD_cons_zero, List.map_cons, List.map_nil, Nat.add_zero, Nat.zero_add, Option.map_none, Option.map_some, Option.some.injEq, and_true, decide_false, decide_true, true_and, reduceCtorEq, Nat.reduceEqDiff, ↓reduceIte, Int.reduceEq, Int.reduceLT, Int.reduceLE, Nat.reduceAdd, e4]; done) | exact e4 | (simp only [SX, Opd.ev, resVal, resVals, ARes.val, Bool.false_eq_true, Bool.not_false, Bool.not_true, List.getD_cons_succ, List.getD_cons_zero, List.map_cons, List.map_nil, Nat.add_zero, Nat.zero_add, Option.map_none, Option.map_some, Option.some.injEq, and_true, decide_false, decide_true, true_and, reduceCtorEq, Nat.reduceEqDiff, ↓reduceIte, Int.reduceEq, Int.reduceLT, Int.reduceLE, Nat.reduceAdd, e4]; rfl))⟩⟩
        · have d2 : decide (zbounds.getD (2 * mid + 1) 0 < r) = false := decide_eq_false c2
          rw [if_neg c2] at hof
          have sh : binV .shr (.int .i64 33948543) (.int .i64 (mid : Int)) = some (.int .i64 ((33948543 : Int).fdiv (2 ^ (min mid 64)))) := by
            simp only [binV, shiftBin, Int.toNat_natCast]
            rw [if_neg (by omega)]; rfl
          have an : ∀ a b : Int, binV .and (.int .i64 a) (.int .i64 b) = some (.int .i64 (IntKind.wrap .i64 (((BitVec.ofInt 64 a &&& BitVec.ofInt 64 b).toNat : Nat) : Int))) := fun a b => rfl
          unfold ofB at hof
          by_cases c3 : IntKind.wrap .i64 (((BitVec.ofInt 64 ((33948543 : Int).fdiv (2 ^ (min mid 64))) &&& BitVec.ofInt 64 1).toNat : Nat) : Int) = 1
          · have d3 : decide (IntKind.wrap .i64 (((BitVec.ofInt 64 ((33948543 : Int).fdiv (2 ^ (min mid 64))) &&& BitVec.ofInt 64 1).toNat : Nat) : Int) = 1) = true := decide_eq_true c3
            rw [if_pos c3] at hof
            have hof := hof.symm
            simp only [e0, e3, e4, d, w1, q1, i1, i2, i3, l1, l2, d1, d2, sh, an, d3, hof, SX, Opd.ev, resVal, resVals, ARes.val, Bool.false_eq_true, Bool.not_false, Bool.not_true, List.getD_cons_succ, List.getD_cons_zero, List.map_cons, List.map_nil, Nat.add_zero, Nat.zero_add, Option.map_none, Option.map_some, Option.some.injEq, and_true, decide_false, decide_true, true_and, reduceCtorEq, Nat.reduceEqDiff, ↓reduceIte, Int.reduceEq, Int.reduceLT, Int.reduceLE, Nat.reduceAdd]
          · have d3 : decide (IntKind.wrap .i64 (((BitVec.ofInt 64 ((33948543 : Int).fdiv (2 ^ (min mid 64))) &&& BitVec.ofInt 64 1).toNat : Nat) : Int) = 1) = false := decide_eq_false c3
            rw [if_neg c3] at hof
            have hof := hof.symm
            simp only [e0, e3, e4, d, w1, q1, i1, i2, i3, l1, l2, d1, d2, sh, an, d3, hof, SX, Opd.ev, resVal, resVals, ARes.val, Bool.false_eq_true, Bool.not_false, Bool.not_true, List.getD_cons_succ, List.getD_cons_zero, List.map_cons, List.map_nil, Nat.add_zero, Nat.zero_add, Option.map_none, Option.map_some, Option.some.injEq, and_true, decide_false, decide_true, true_and, reduceCtorEq, Nat.reduceEqDiff, ↓reduceIte, Int.reduceEq, Int.reduceLT, Int.reduceLE, Nat.reduceAdd]
    · have d : decide ((lo : Int) < (hi : Int)) = false := decide_eq_false (by omega)
      rw [ofF_end f r c] at hof
      have hof := hof.symm
      simp only [e0, e3, e4, d, hof, SX, Opd.ev, resVal, resVals, ARes.val, Bool.false_eq_true, Bool.not_false, Bool.not_true, List.getD_cons_succ, List.getD_cons_zero, List.map_cons, List.map_nil, Nat.add_zero, Nat.zero_add, Option.map_none, Option.map_some, Option.some.injEq, and_true, decide_false, decide_true, true_and, reduceCtorEq, Nat.reduceEqDiff, ↓reduceIte, Int.reduceEq, Int.reduceLT, Int.reduceLE, Nat.reduceAdd]
set_option maxHeartbeats 4000000 in
theorem color_spec (hf : Fr H) (k n : Int) : FnTo Q 48 [.agg [.int .u8 k, .int .u32 n]] H (fun r H' => r = .bool (colP k n) ∧ Gr H H') := by
  refine fn_wp (pq.ho 48 rfl _) pq.q48 (by simp [A48]) ?_
  obtain ⟨H1, s1, g1, k1⟩ := (Hp.nil H hf).make [.int .u8 k, .int .u32 n] 2
  have bx : boxV (.agg [.int .u8 k, .int .u32 n]) = some (.row ⟨[.int .u8 k, .int .u32 n], 0, false, true, 0⟩, .ptr) := rfl
  have l0 := g1.load (List.mem_cons_self ..) (o := 0) rfl
  have l1 := g1.load (List.mem_cons_self ..) (o := 1) rfl
  have g := g1.gr k1
  unfold colP
  by_cases c0 : k = 0
  · have d0 := decide_eq_true c0
    have d1 : decide (k = 1) = false := decide_eq_false (by omega)
    have d2 : decide (k = 2) = false := decide_eq_false (by omega)
    by_cases e0 : n = 0
    · have f0 := decide_eq_true e0
      simp only [A48, bx, s1, l0, l1, d0, d1, d2, f0, Bool.true_and, Bool.false_and, Bool.or_true, Bool.or_false, Bool.true_or, Bool.false_or, wantV_undef, SX, Opd.ev, resVal, resVals, ARes.val, Bool.false_eq_true, Bool.not_false, Bool.not_true, List.getD_cons_succ, List.getD_cons_zero, List.map_cons, List.map_nil, Nat.add_zero, Nat.zero_add, Option.map_none, Option.map_some, Option.some.injEq, and_true, decide_false, decide_true, true_and, reduceCtorEq, Nat.reduceEqDiff, ↓reduceIte, Int.reduceEq, Int.reduceLT, Int.reduceLE, Nat.reduceAdd]
      exact g
    · have f0 := decide_eq_false e0
      simp only [A48, bx, s1, l0, l1, d0, d1, d2, f0, Bool.true_and, Bool.false_and, Bool.or_true, Bool.or_false, Bool.true_or, Bool.false_or, wantV_undef, SX, Opd.ev, resVal, resVals, ARes.val, Bool.false_eq_true, Bool.not_false, Bool.not_true, List.getD_cons_succ, List.getD_cons_zero, List.map_cons, List.map_nil, Nat.add_zero, Nat.zero_add, Option.map_none, Option.map_some, Option.some.injEq, and_true, decide_false, decide_true, true_and, reduceCtorEq, Nat.reduceEqDiff, ↓reduceIte, Int.reduceEq, Int.reduceLT, Int.reduceLE, Nat.reduceAdd]
      exact g
  · have d0 := decide_eq_false c0
    by_cases c1 : k = 1
    · have d1 := decide_eq_true c1
      have d2 : decide (k = 2) = false := decide_eq_false (by omega)
      by_cases e1 : n ≤ 255
      · have f1 := decide_eq_true e1
        simp only [A48, bx, s1, l0, l1, d0, d1, d2, f1, Bool.true_and, Bool.false_and, Bool.or_true, Bool.or_false, Bool.true_or, Bool.false_or, wantV_undef, SX, Opd.ev, resVal, resVals, ARes.val, Bool.false_eq_true, Bool.not_false, Bool.not_true, List.getD_cons_succ, List.getD_cons_zero, List.map_cons, List.map_nil, Nat.add_zero, Nat.zero_add, Option.map_none, Option.map_some, Option.some.injEq, and_true, decide_false, decide_true, true_and, reduceCtorEq, Nat.reduceEqDiff, ↓reduceIte, Int.reduceEq, Int.reduceLT, Int.reduceLE, Nat.reduceAdd]
        exact g
      · have f1 := decide_eq_false e1
        simp only [A48, bx, s1, l0, l1, d0, d1, d2, f1, Bool.true_and, Bool.false_and, Bool.or_true, Bool.or_false, Bool.true_or, Bool.false_or, wantV_undef, SX, Opd.ev, resVal, resVals, ARes.val, Bool.false_eq_true, Bool.not_false, Bool.not_true, List.getD_cons_succ, List.getD_cons_zero, List.map_cons, List.map_nil, Nat.add_zero, Nat.zero_add, Option.map_none, Option.map_some, Option.some.injEq, and_true, decide_false, decide_true, true_and, reduceCtorEq, Nat.reduceEqDiff, ↓reduceIte, Int.reduceEq, Int.reduceLT, Int.reduceLE, Nat.reduceAdd]
        exact g
    · have d1 := decide_eq_false c1
      by_cases c2 : k = 2
      · have d2 := decide_eq_true c2
        by_cases e2 : n < 16777216
        · have f2 := decide_eq_true e2
          simp only [A48, bx, s1, l0, l1, d0, d1, d2, f2, Bool.true_and, Bool.false_and, Bool.or_true, Bool.or_false, Bool.true_or, Bool.false_or, wantV_undef, SX, Opd.ev, resVal, resVals, ARes.val, Bool.false_eq_true, Bool.not_false, Bool.not_true, List.getD_cons_succ, List.getD_cons_zero, List.map_cons, List.map_nil, Nat.add_zero, Nat.zero_add, Option.map_none, Option.map_some, Option.some.injEq, and_true, decide_false, decide_true, true_and, reduceCtorEq, Nat.reduceEqDiff, ↓reduceIte, Int.reduceEq, Int.reduceLT, Int.reduceLE, Nat.reduceAdd]
          exact g
        · have f2 := decide_eq_false e2
          simp only [A48, bx, s1, l0, l1, d0, d1, d2, f2, Bool.true_and, Bool.false_and, Bool.or_true, Bool.or_false, Bool.true_or, Bool.false_or, wantV_undef, SX, Opd.ev, resVal, resVals, ARes.val, Bool.false_eq_true, Bool.not_false, Bool.not_true, List.getD_cons_succ, List.getD_cons_zero, List.map_cons, List.map_nil, Nat.add_zero, Nat.zero_add, Option.map_none, Option.map_some, Option.some.injEq, and_true, decide_false, decide_true, true_and, reduceCtorEq, Nat.reduceEqDiff, ↓reduceIte, Int.reduceEq, Int.reduceLT, Int.reduceLE, Nat.reduceAdd]
          exact g
      · have d2 := decide_eq_false c2
        simp only [A48, bx, s1, l0, l1, d0, d1, d2, Bool.true_and, Bool.false_and, Bool.or_true, Bool.or_false, Bool.true_or, Bool.false_or, wantV_undef, SX, Opd.ev, resVal, resVals, ARes.val, Bool.false_eq_true, Bool.not_false, Bool.not_true, List.getD_cons_succ, List.getD_cons_zero, List.map_cons, List.map_nil, Nat.add_zero, Nat.zero_add, Option.map_none, Option.map_some, Option.some.injEq, and_true, decide_false, decide_true, true_and, reduceCtorEq, Nat.reduceEqDiff, ↓reduceIte, Int.reduceEq, Int.reduceLT, Int.reduceLE, Nat.reduceAdd]
        exact g
set_option maxHeartbeats 4000000 in
theorem attr_spec (hf : Fr H) (c : Ce) : FnTo Q 41 [.agg c.at] H (fun r H' => r = .bool (attrP c) ∧ Gr H H') := by
  refine fn_wp (pq.ho 41 rfl _) pq.q41 (by simp [A41]) ?_
  obtain ⟨H1, s1, g1, k1⟩ := (Hp.nil H hf).make c.at 5
  have ha : c.at.all AV.one = true := rfl
  have lf : ∀ {H' : AHeap}, Hp H.next H' [⟨H.next, 5, c.at⟩] → loadV H' Option.none (.ptr H.next 0) = some (.int .u16 c.f) ∧ loadV H' (some 2) (.ptr H.next 1) = some (.agg [.int .u8 c.k1, .int .u32 c.n1]) ∧ loadV H' (some 2) (.ptr H.next 3) = some (.agg [.int .u8 c.k2, .int .u32 c.n2]) := fun g =>
    ⟨g.load (List.mem_cons_self ..) (o := 0) rfl, g.loadO (a := [.int .u16 c.f]) (x := [.int .u8 c.k1, .int .u32 c.n1]) (c := [.int .u8 c.k2, .int .u32 c.n2]) (k := 5) (List.mem_cons_self ..) rfl rfl, g.loadO (a := [.int .u16 c.f, .int .u8 c.k1, .int .u32 c.n1]) (x := [.int .u8 c.k2, .int .u32 c.n2]) (c := []) (k := 5) (List.mem_cons_self ..) rfl rfl⟩
  obtain ⟨l0, l1, l3⟩ := lf g1
  have n1 := g1.gr k1
  unfold attrP
  by_cases c0 : c.f ≤ 255
  · have d0 := decide_eq_true c0
    simp only [A41, boxV_agg ha, s1, l0, l1, d0, Bool.true_and, wantV_undef, SX, Opd.ev, resVal, resVals, ARes.val, Bool.false_eq_true, Bool.not_false, Bool.not_true, List.getD_cons_succ, List.getD_cons_zero, List.map_cons, List.map_nil, Nat.add_zero, Nat.zero_add, Option.map_none, Option.map_some, Option.some.injEq, and_true, decide_false, decide_true, true_and, reduceCtorEq, Nat.reduceEqDiff, ↓reduceIte, Int.reduceEq, Int.reduceLT, Int.reduceLE, Nat.reduceAdd]
    refine (color_spec pq g1.fr c.k1 c.n1).mono ?_
    rintro _ H2 ⟨rfl, g2⟩
    have g3 := g1.keep g2.keep g2.next g2.fr
    obtain ⟨_, _, l3⟩ := lf g3
    obtain ⟨b1, hb1⟩ : ∃ b, colP c.k1 c.n1 = b := ⟨_, rfl⟩
    rw [hb1]
    cases b1
    · simp only [Bool.false_and, wantV_undef, SX, Opd.ev, resVal, resVals, ARes.val, Bool.false_eq_true, Bool.not_false, Bool.not_true, List.getD_cons_succ, List.getD_cons_zero, List.map_cons, List.map_nil, Nat.add_zero, Nat.zero_add, Option.map_none, Option.map_some, Option.some.injEq, and_true, decide_false, decide_true, true_and, reduceCtorEq, Nat.reduceEqDiff, ↓reduceIte, Int.reduceEq, Int.reduceLT, Int.reduceLE, Nat.reduceAdd]
      exact n1.trans g2
    · simp only [l3, Bool.true_and, wantV_undef, SX, Opd.ev, resVal, resVals, ARes.val, Bool.false_eq_true, Bool.not_false, Bool.not_true, List.getD_cons_succ, List.getD_cons_zero, List.map_cons, List.map_nil, Nat.add_zero, Nat.zero_add, Option.map_none, Option.map_some, Option.some.injEq, and_true, decide_false, decide_true, true_and, reduceCtorEq, Nat.reduceEqDiff, ↓reduceIte, Int.reduceEq, Int.reduceLT, Int.reduceLE, Nat.reduceAdd]
      refine (color_spec pq g2.fr c.k2 c.n2).mono ?_
      rintro _ H4 ⟨rfl, g4⟩
      simp only [SX, Opd.ev, resVal, resVals, ARes.val, Bool.false_eq_true, Bool.not_false, Bool.not_true, List.getD_cons_succ, List.getD_cons_zero, List.map_cons, List.map_nil, Nat.add_zero, Nat.zero_add, Option.map_none, Option.map_some, Option.some.injEq, and_true, decide_false, decide_true, true_and, reduceCtorEq, Nat.reduceEqDiff, ↓reduceIte, Int.reduceEq, Int.reduceLT, Int.reduceLE, Nat.reduceAdd]
      exact n1.trans (g2.trans g4)
  · have d0 := decide_eq_false c0
    simp only [A41, boxV_agg ha, s1, l0, l1, d0, Bool.false_and, wantV_undef, SX, Opd.ev, resVal, resVals, ARes.val, Bool.false_eq_true, Bool.not_false, Bool.not_true, List.getD_cons_succ, List.getD_cons_zero, List.map_cons, List.map_nil, Nat.add_zero, Nat.zero_add, Option.map_none, Option.map_some, Option.some.injEq, and_true, decide_false, decide_true, true_and, reduceCtorEq, Nat.reduceEqDiff, ↓reduceIte, Int.reduceEq, Int.reduceLT, Int.reduceLE, Nat.reduceAdd]
    exact n1
set_option maxHeartbeats 4000000 in
theorem valid_spec (r : Int) : FnTo Q 42 [.int .i32 r] H (fun v H' => v = .bool (validP r) ∧ H' = H) := by
  refine fn_wp (pq.ho 42 rfl _) pq.q42 (by simp [A42]) ?_
  unfold validP
  by_cases c0 : 0 ≤ r
  · have d0 := decide_eq_true c0
    by_cases c1 : r < 55296
    · have d1 := decide_eq_true c1
      simp only [A42, d0, d1, Bool.true_and, Bool.true_or, wantV_undef, SX, Opd.ev, resVal, resVals, ARes.val, Bool.false_eq_true, Bool.not_false, Bool.not_true, List.getD_cons_succ, List.getD_cons_zero, List.map_cons, List.map_nil, Nat.add_zero, Nat.zero_add, Option.map_none, Option.map_some, Option.some.injEq, and_true, decide_false, decide_true, true_and, reduceCtorEq, Nat.reduceEqDiff, ↓reduceIte, Int.reduceEq, Int.reduceLT, Int.reduceLE, Nat.reduceAdd]
    · have d1 := decide_eq_false c1
      by_cases c2 : 57343 < r
      · have d2 := decide_eq_true c2
        by_cases c3 : r ≤ 1114111
        · have d3 := decide_eq_true c3
          simp only [A42, d0, d1, d2, d3, Bool.true_and, Bool.and_false, Bool.false_or, wantV_undef, SX, Opd.ev, resVal, resVals, ARes.val, Bool.false_eq_true, Bool.not_false, Bool.not_true, List.getD_cons_succ, List.getD_cons_zero, List.map_cons, List.map_nil, Nat.add_zero, Nat.zero_add, Option.map_none, Option.map_some, Option.some.injEq, and_true, decide_false, decide_true, true_and, reduceCtorEq, Nat.reduceEqDiff, ↓reduceIte, Int.reduceEq, Int.reduceLT, Int.reduceLE, Nat.reduceAdd]
        · have d3 := decide_eq_false c3
          simp only [A42, d0, d1, d2, d3, Bool.true_and, Bool.and_false, Bool.false_or, wantV_undef, SX, Opd.ev, resVal, resVals, ARes.val, Bool.false_eq_true, Bool.not_false, Bool.not_true, List.getD_cons_succ, List.getD_cons_zero, List.map_cons, List.map_nil, Nat.add_zero, Nat.zero_add, Option.map_none, Option.map_some, Option.some.injEq, and_true, decide_false, decide_true, true_and, reduceCtorEq, Nat.reduceEqDiff, ↓reduceIte, Int.reduceEq, Int.reduceLT, Int.reduceLE, Nat.reduceAdd]
      · have d2 := decide_eq_false c2
        simp only [A42, d0, d1, d2, Bool.true_and, Bool.false_and, Bool.and_false, Bool.false_or, wantV_undef, SX, Opd.ev, resVal, resVals, ARes.val, Bool.false_eq_true, Bool.not_false, Bool.not_true, List.getD_cons_succ, List.getD_cons_zero, List.map_cons, List.map_nil, Nat.add_zero, Nat.zero_add, Option.map_none, Option.map_some, Option.some.injEq, and_true, decide_false, decide_true, true_and, reduceCtorEq, Nat.reduceEqDiff, ↓reduceIte, Int.reduceEq, Int.reduceLT, Int.reduceLE, Nat.reduceAdd]
  · have d0 := decide_eq_false c0
    have d2 : decide (57343 < r) = false := decide_eq_false (by omega)
    simp only [A42, d0, d2, Bool.false_and, Bool.and_false, Bool.false_or, wantV_undef, SX, Opd.ev, resVal, resVals, ARes.val, Bool.false_eq_true, Bool.not_false, Bool.not_true, List.getD_cons_succ, List.getD_cons_zero, List.map_cons, List.map_nil, Nat.add_zero, Nat.zero_add, Option.map_none, Option.map_some, Option.some.injEq, and_true, decide_false, decide_true, true_and, reduceCtorEq, Nat.reduceEqDiff, ↓reduceIte, Int.reduceEq, Int.reduceLT, Int.reduceLE, Nat.reduceAdd]
set_option maxHeartbeats 4000000 in
theorem whole_spec {v : AV} {l : List Ce} (h : RowS H v l) (hl : l.length ≤ 1000000) : FnTo Q 40 [v] H (fun r H' => r = .bool (wholeP (ws l)) ∧ H' = H) := by
  refine fn_wp (pq.ho 40 rfl _) pq.q40 (by simp [A40]) ?_
  simp only [A40, SX, Opd.ev, resVal, resVals, ARes.val, Bool.false_eq_true, Bool.not_false, Bool.not_true, List.getD_cons_succ, List.getD_cons_zero, List.map_cons, List.map_nil, Nat.add_zero, Nat.zero_add, Option.map_none, Option.map_some, Option.some.injEq, and_true, decide_false, decide_true, true_and, reduceCtorEq, Nat.reduceEqDiff, ↓reduceIte, Int.reduceEq, Int.reduceLT, Int.reduceLE, Nat.reduceAdd]
  obtain ⟨I, hI⟩ : ∃ I : Nat → Env → AHeap → Prop, ∀ m e H', I m e H' ↔ (H' = H ∧ ∃ i : Nat, m = l.length - i ∧ i ≤ l.length ∧ wholeP (ws l) = wholeP ((ws l).drop i) ∧ Env.get e 0 = v ∧ Env.get e 3 = .int .i64 i) := ⟨_, fun _ _ _ => Iff.rfl⟩
  refine loop_by I l.length ?_ ?_
  · exact (hI _ _ _).2 ⟨rfl, 0, rfl, by omega, rfl, (by first | (simp only [SX, Opd.ev, resVal, resVals, ARes.val, Bool.false_eq_true, Bool.not_false, Bool.not_true, List.getD_cons_succ, List.getD_cons_zero, List.map_cons, List.map_nil, Nat.add_zero, Nat.zero_add, Option.map_none, Option.map_some, Option.some.injEq, and_true, decide_false, decide_true, true_and, reduceCtorEq, Nat.reduceEqDiff, ↓reduceIte, Int.reduceEq, Int.reduceLT, Int.reduceLE, Nat.reduceAdd]; done) | (simp only [SX, Opd.ev, resVal, resVals, ARes.val, Bool.false_eq_true, Bool.not_false, Bool.not_true, List.getD_cons_succ, List.getD_cons_zero, List.map_cons, List.map_nil, Nat.add_zero, Nat.zero_add, Option.map_none, Option.map_some, Option.some.injEq, and_true, decide_false, decide_true, true_and, reduceCtorEq, Nat.reduceEqDiff, ↓reduceIte, Int.reduceEq, Int.reduceLT, Int.reduceLE, Nat.reduceAdd]; rfl) | rfl), (by first | (simp only [SX, Opd.ev, resVal, resVals, ARes.val, Bool.false_eq_true, Bool.not_false, Bool.not_true, List.getD_cons_succ, List.getD_cons_zero, List.map_cons, List.map_nil, Nat.add_zero, Nat.zero_add, Option.map_none, Option.map_some, Option.some.injEq, and_true, decide_false, decide_true, true_and, reduceCtorEq, Nat.reduceEqDiff, ↓reduceIte, Int.reduceEq, Int.reduceLT, Int.reduceLE, Nat.reduceAdd]; done) | (simp only [SX, Opd.ev, resVal, resVals, ARes.val, Bool.false_eq_true, Bool.not_false, Bool.not_true, List.getD_cons_succ, List.getD_cons_zero, List.map_cons, List.map_nil, Nat.add_zero, Nat.zero_add, Option.map_none, Option.map_some, Option.some.injEq, and_true, decide_false, decide_true, true_and, reduceCtorEq, Nat.reduceEqDiff, ↓reduceIte, Int.reduceEq, Int.reduceLT, Int.reduceLE, Nat.reduceAdd]; rfl) | rfl)⟩
  · intro m e H' hinv
    obtain ⟨rfl, i, rfl, hi, hw, e0, e3⟩ := (hI _ _ _).1 hinv
    have ln := h.len H'
    by_cases d : (i : Int) < l.length
    · obtain ⟨c, hc⟩ : ∃ c, l[i]? = some c := ⟨_, List.getElem?_eq_getElem (by omega)⟩
      obtain ⟨b, p, ix, _, _, lw, _⟩ := h.cell hc .i64
      have w1 : IntKind.wrap .i64 ((i : Int) + 1) = ((i + 1 : Nat) : Int) := wrapNat (n := i + 1) (by omega)
      rw [ws_at hc, wholeP_cons] at hw
      by_cases c0 : c.w = 0
      · have d0 := decide_eq_true c0
        rw [if_pos c0] at hw
        simp only [e0, e3, ln, d, ix, lw, d0, w1, SX, Opd.ev, resVal, resVals, ARes.val, Bool.false_eq_true, Bool.not_false, Bool.not_true, List.getD_cons_succ, List.getD_cons_zero, List.map_cons, List.map_nil, Nat.add_zero, Nat.zero_add, Option.map_none, Option.map_some, Option.some.injEq, and_true, decide_false, decide_true, true_and, reduceCtorEq, Nat.reduceEqDiff, ↓reduceIte, Int.reduceEq, Int.reduceLT, Int.reduceLE, Nat.reduceAdd]
        exact ⟨l.length - (i + 1), by omega, (hI _ _ _).2 ⟨rfl, i + 1, rfl, by omega, hw, (by first | (simp only [SX, Opd.ev, resVal, resVals, ARes.val, Bool.false_eq_true, Bool.not_false, Bool.not_true, List.getD_cons_succ, List.getD_cons_zero, List.map_cons, List.map_nil, Nat.add_zero, Nat.zero_add, Option.map_none, Option.map_some, Option.some.injEq, and_true, decide_false, decide_true, true_and, reduceCtorEq, Nat.reduceEqDiff, ↓reduceIte, Int.reduceEq, Int.reduceLT, Int.reduceLE, Nat.reduceAdd, e0]; done) | exact e0 | (simp only [SX, Opd.ev, resVal, resVals, ARes.val, Bool.false_eq_true, Bool.not_false, Bool.not_true, List.getD_cons_succ, List.getD_cons_zero, List.map_cons, List.map_nil, Nat.add_zero, Nat.zero_add, Option.map_none, Option.map_some, Option.some.injEq, and_true, decide_false, decide_true, true_and, reduceCtorEq, Nat.reduceEqDiff, ↓reduceIte, Int.reduceEq, Int.reduceLT, Int.reduceLE, Nat.reduceAdd, e0]; rfl)), (by first | (simp only [SX, Opd.ev, resVal, resVals, ARes.val, Bool.false_eq_true, Bool.not_false, Bool.not_true, List.getD_cons_succ, List.getD_cons_zero, List.map_cons, List.map_nil, Nat.add_zero, Nat.zero_add, Option.map_none, Option.map_some, Option.some.injEq, and_true, decide_false, decide_true, true_and, reduceCtorEq, Nat.reduceEqDiff, ↓reduceIte, Int.reduceEq, Int.reduceLT, Int.reduceLE, Nat.reduceAdd]; done) | (simp only [SX, Opd.ev, resVal, resVals, ARes.val, Bool.false_eq_true, Bool.not_false, Bool.not_true, List.getD_cons_succ, List.getD_cons_zero, List.map_cons, List.map_nil, Nat.add_zero, Nat.zero_add, Option.map_none, Option.map_some, Option.some.injEq, and_true, decide_false, decide_true, true_and, reduceCtorEq, Nat.reduceEqDiff, ↓reduceIte, Int.reduceEq, Int.reduceLT, Int.reduceLE, Nat.reduceAdd]; rfl) | rfl)⟩⟩
      · have d0 := decide_eq_false c0
        rw [if_neg c0] at hw
        by_cases c1 : c.w = 1
        · have d1 := decide_eq_true c1
          by_cases dn : ((i + 1 : Nat) : Int) < l.length
          · obtain ⟨c', hc'⟩ : ∃ c, l[i + 1]? = some c := ⟨_, List.getElem?_eq_getElem (by omega)⟩
            obtain ⟨b', p', ix', _, _, lw', _⟩ := h.cell hc' .i64
            rw [ws_at hc'] at hw
            simp only at hw
            by_cases c2 : c'.w = 2
            · have d2 := decide_eq_true c2
              rw [if_pos ⟨c1, c2⟩] at hw
              have w2 : IntKind.wrap .i64 (((i + 1 : Nat) : Int) + 1) = ((i + 2 : Nat) : Int) := wrapNat (n := i + 2) (by omega)
              simp only [e0, e3, ln, d, ix, lw, d0, d1, w1, dn, ix', lw', d2, w2, wantV_undef, SX, Opd.ev, resVal, resVals, ARes.val, Bool.false_eq_true, Bool.not_false, Bool.not_true, List.getD_cons_succ, List.getD_cons_zero, List.map_cons, List.map_nil, Nat.add_zero, Nat.zero_add, Option.map_none, Option.map_some, Option.some.injEq, and_true, decide_false, decide_true, true_and, reduceCtorEq, Nat.reduceEqDiff, ↓reduceIte, Int.reduceEq, Int.reduceLT, Int.reduceLE, Nat.reduceAdd]
              exact ⟨l.length - (i + 2), by omega, (hI _ _ _).2 ⟨rfl, i + 2, rfl, by omega, hw, (by first | (simp only [SX, Opd.ev, resVal, resVals, ARes.val, Bool.false_eq_true, Bool.not_false, Bool.not_true, List.getD_cons_succ, List.getD_cons_zero, List.map_cons, List.map_nil, Nat.add_zero, Nat.zero_add, Option.map_none, Option.map_some, Option.some.injEq, and_true, decide_false, decide_true, true_and, reduceCtorEq, Nat.reduceEqDiff, ↓reduceIte, Int.reduceEq, Int.reduceLT, Int.reduceLE, Nat.reduceAdd, e0]; done) | exact e0 | (simp only [SX, Opd.ev, resVal, resVals, ARes.val, Bool.false_eq_true, Bool.not_false, Bool.not_true, List.getD_cons_succ, List.getD_cons_zero, List.map_cons, List.map_nil, Nat.add_zero, Nat.zero_add, Option.map_none, Option.map_some, Option.some.injEq, and_true, decide_false, decide_true, true_and, reduceCtorEq, Nat.reduceEqDiff, ↓reduceIte, Int.reduceEq, Int.reduceLT, Int.reduceLE, Nat.reduceAdd, e0]; rfl)), (by first | (simp only [SX, Opd.ev, resVal, resVals, ARes.val, Bool.false_eq_true, Bool.not_false, Bool.not_true, List.getD_cons_succ, List.getD_cons_zero, List.map_cons, List.map_nil, Nat.add_zero, Nat.zero_add, Option.map_none, Option.map_some, Option.some.injEq, and_true, decide_false, decide_true, true_and, reduceCtorEq, Nat.reduceEqDiff, ↓reduceIte, Int.reduceEq, Int.reduceLT, Int.reduceLE, Nat.reduceAdd]; done) | (simp only [SX, Opd.ev, resVal, resVals, ARes.val, Bool.false_eq_true, Bool.not_false, Bool.not_true, List.getD_cons_succ, List.getD_cons_zero, List.map_cons, List.map_nil, Nat.add_zero, Nat.zero_add, Option.map_none, Option.map_some, Option.some.injEq, and_true, decide_false, decide_true, true_and, reduceCtorEq, Nat.reduceEqDiff, ↓reduceIte, Int.reduceEq, Int.reduceLT, Int.reduceLE, Nat.reduceAdd]; rfl) | rfl)⟩⟩
            · have d2 := decide_eq_false c2
              rw [if_neg (fun hh => c2 hh.2)] at hw
              simp only [e0, e3, ln, d, ix, lw, d0, d1, w1, dn, ix', lw', d2, hw, wantV_undef, SX, Opd.ev, resVal, resVals, ARes.val, Bool.false_eq_true, Bool.not_false, Bool.not_true, List.getD_cons_succ, List.getD_cons_zero, List.map_cons, List.map_nil, Nat.add_zero, Nat.zero_add, Option.map_none, Option.map_some, Option.some.injEq, and_true, decide_false, decide_true, true_and, reduceCtorEq, Nat.reduceEqDiff, ↓reduceIte, Int.reduceEq, Int.reduceLT, Int.reduceLE, Nat.reduceAdd]
          · have : (ws l).drop (i + 1) = [] := List.drop_eq_nil_of_le (by rw [ws_len]; omega)
            rw [this] at hw
            simp only at hw
            simp only [e0, e3, ln, d, ix, lw, d0, d1, w1, dn, hw, wantV_undef, SX, Opd.ev, resVal, resVals, ARes.val, Bool.false_eq_true, Bool.not_false, Bool.not_true, List.getD_cons_succ, List.getD_cons_zero, List.map_cons, List.map_nil, Nat.add_zero, Nat.zero_add, Option.map_none, Option.map_some, Option.some.injEq, and_true, decide_false, decide_true, true_and, reduceCtorEq, Nat.reduceEqDiff, ↓reduceIte, Int.reduceEq, Int.reduceLT, Int.reduceLE, Nat.reduceAdd]
        · have d1 := decide_eq_false c1
          have hw' : wholeP (ws l) = false := by
            rw [hw]
            cases (ws l).drop (i + 1) with
            | nil => rfl
            | cons a t => simp only; rw [if_neg (fun hh => c1 hh.1)]
          simp only [e0, e3, ln, d, ix, lw, d0, d1, hw', wantV_undef, SX, Opd.ev, resVal, resVals, ARes.val, Bool.false_eq_true, Bool.not_false, Bool.not_true, List.getD_cons_succ, List.getD_cons_zero, List.map_cons, List.map_nil, Nat.add_zero, Nat.zero_add, Option.map_none, Option.map_some, Option.some.injEq, and_true, decide_false, decide_true, true_and, reduceCtorEq, Nat.reduceEqDiff, ↓reduceIte, Int.reduceEq, Int.reduceLT, Int.reduceLE, Nat.reduceAdd]
    · have : (ws l).drop i = [] := List.drop_eq_nil_of_le (by rw [ws_len]; omega)
      rw [this] at hw
      have hw' : wholeP (ws l) = true := hw
      simp only [e0, e3, ln, d, hw', SX, Opd.ev, resVal, resVals, ARes.val, Bool.false_eq_true, Bool.not_false, Bool.not_true, List.getD_cons_succ, List.getD_cons_zero, List.map_cons, List.map_nil, Nat.add_zero, Nat.zero_add, Option.map_none, Option.map_some, Option.some.injEq, and_true, decide_false, decide_true, true_and, reduceCtorEq, Nat.reduceEqDiff, ↓reduceIte, Int.reduceEq, Int.reduceLT, Int.reduceLE, Nat.reduceAdd]
end
end Go.Proofs.YtkfnjjloefanjaaDoor.AM
