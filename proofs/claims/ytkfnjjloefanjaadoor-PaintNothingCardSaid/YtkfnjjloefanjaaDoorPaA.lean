/-
  Rows of cells: what lies there, a blank one, whether one may be; walked on the abstract machine.
-/
import Derived.Test.YtkfnjjloefanjaaDoorCode
import Derived.Test.YtkfnjjloefanjaaDoorLaid
import Derived.Test.YtkfnjjloefanjaaDoorAmBit
set_option linter.unusedVariables false
set_option linter.unusedSimpArgs false
namespace Go.Proofs.YtkfnjjloefanjaaDoor.AM
open Go
theorem resNil (e : Env) (H : AHeap) : resVal e H [] = some (.tup []) := rfl
theorem wantV_undef (b : Bool) : wantV .undef b = false := rfl
theorem resCell (e : Env) (H : AHeap) (i n : Nat) : resVal e H [.cell i (some n)] = loadV H (some n) (Env.get e i) := by
  simp only [resVal, resVals, ARes.val]
  show (match (match loadV H (some n) (Env.get e i) with | some v => some [v] | none => none) with | some [v] => some v | some vs => some (.tup vs) | none => none) = _
  cases loadV H (some n) (Env.get e i) <;> rfl
def mkV (es bs : Nat) (z : List AV) (l c : AV) : Option (AObj × AKind) := LOp.run .nil (.mkslice es bs z (.c l) (.c c))
theorem run_mk (e : Env) (es bs : Nat) (z : List AV) (l c : Opd) : LOp.run e (.mkslice es bs z l c) = mkV es bs z (l.ev e) (c.ev e) := rfl
/-- a cell: its character, which half, its attribute's five numbers -/
structure Ce where
  r : Int
  w : Int
  f : Int
  k1 : Int
  n1 : Int
  k2 : Int
  n2 : Int
def Ce.at (c : Ce) : List AV := [.int .u16 c.f, .int .u8 c.k1, .int .u32 c.n1, .int .u8 c.k2, .int .u32 c.n2]
def Ce.cs (c : Ce) : List AV := .int .i32 c.r :: .int .u8 c.w :: c.at
def blankC : Ce := ⟨32, 0, 0, 0, 0, 0, 0⟩
def at0 : List AV := [.int .u16 0, .int .u8 0, .int .u32 0, .int .u8 0, .int .u32 0]
def rowV (l : List Ce) : List AV := l.flatMap Ce.cs
theorem rowV_len (l : List Ce) : (rowV l).length = 7 * l.length := by
  induction l with
  | nil => rfl
  | cons c l ih =>
    have : rowV (c :: l) = c.cs ++ rowV l := by simp [rowV]
    rw [this, List.length_append, ih]
    simp [Ce.cs, Ce.at]; omega
theorem rowV_app (a b : List Ce) : rowV (a ++ b) = rowV a ++ rowV b := List.flatMap_append ..
theorem rowV_one (c : Ce) : rowV [c] = c.cs := by simp [rowV]
theorem rowV_split {l : List Ce} {i : Nat} {c : Ce} (h : l[i]? = some c) : rowV l = rowV (l.take i) ++ (c.cs ++ rowV (l.drop (i + 1))) := by
  obtain ⟨h1, h2⟩ := List.getElem?_eq_some_iff.1 h
  have : l = l.take i ++ (c :: l.drop (i + 1)) := by rw [← h2, ← List.drop_eq_getElem_cons h1, List.take_append_drop]
  conv => lhs; rw [this]
  rw [rowV_app]
  simp [rowV]
theorem rowV_ones (l : List Ce) : (rowV l).all AV.one = true := by
  induction l with
  | nil => rfl
  | cons c l ih =>
    have : rowV (c :: l) = c.cs ++ rowV l := by simp [rowV]
    rw [this, List.all_append, ih]
    rfl
/-- a slice of cells, where it may be read and cut -/
def RowS (H : AHeap) (v : AV) (l : List Ce) : Prop := (v = .nils ∧ l = []) ∨ ∃ b o cap B, v = .slc b o l.length cap ∧ l.length ≤ cap ∧ H.get b = some (.row B) ∧ B.live = true ∧ (B.es = 0 ∨ B.es = 7) ∧ ∃ pre post, B.cells = pre ++ (rowV l ++ post) ∧ pre.length = o
section
variable {H : AHeap} {v : AV} {l : List Ce}
theorem part_load {b p : Nat} {B : Blk} {a x c : List AV} (hB : H.get b = some (.row B)) (hl : B.live = true) (hc : B.cells = a ++ (x ++ c)) (hp : a.length = p) : loadV H (some x.length) (.ptr b p) = some (.agg x) := by
  have hr : H.row b = some B := by simp only [AHeap.row, hB, hl, if_true]
  simp only [loadV, ROp.run, Opd.ev, hr, hc, AM.cut]
  rw [if_pos (by simp; omega)]
  simp [← hp]
theorem part_one {b p : Nat} {B : Blk} {a x c : List AV} (hB : H.get b = some (.row B)) (hl : B.live = true) (hc : B.cells = a ++ (x ++ c)) (hp : a.length = p) {j : Nat} {y : AV} (hy : x[j]? = some y) : loadV H none (.ptr b (p + j)) = some y := by
  have hr : H.row b = some B := by simp only [AHeap.row, hB, hl, if_true]
  have hj := (List.getElem?_eq_some_iff.1 hy).1
  simp only [loadV, ROp.run, Opd.ev, hr, hc]
  rw [List.getElem?_append_right (by omega), ← hp, Nat.add_sub_cancel_left, List.getElem?_append_left hj, hy]
theorem RowS.len (h : RowS H v l) (H2 : AHeap) : lngV H2 1 v = some (.int .i64 l.length) := by
  rcases h with ⟨rfl, rfl⟩ | ⟨b, o, cap, B, rfl, _⟩ <;> rfl
theorem RowS.grow {H' : AHeap} (h : RowS H v l) (hf : Fr H) (g : Gr H H') : RowS H' v l := by
  rcases h with h | ⟨b, o, cap, B, h1, h2, h3, h4⟩
  · exact .inl h
  · exact .inr ⟨b, o, cap, B, h1, h2, g.get hf h3, h4⟩
/-- one cell of it -/
theorem RowS.cell (h : RowS H v l) {i : Nat} {c : Ce} (hc : l[i]? = some c) (kd : IntKind) : ∃ b p, idxSV 7 v (.int kd i) = some (.ptr b p) ∧ loadV H (some 7) (.ptr b p) = some (.agg c.cs) ∧ loadV H none (.ptr b p) = some (.int .i32 c.r) ∧ loadV H none (.ptr b (p + 1)) = some (.int .u8 c.w) ∧ loadV H (some 5) (.ptr b (p + 2)) = some (.agg c.at) := by
  have hi := (List.getElem?_eq_some_iff.1 hc).1
  rcases h with ⟨rfl, rfl⟩ | ⟨b, o, cap, B, rfl, h2, h3, h4, h5, pre, post, h6, h7⟩
  · simp at hi
  · have e : B.cells = (pre ++ rowV (l.take i)) ++ (c.cs ++ (rowV (l.drop (i + 1)) ++ post)) := by rw [h6, rowV_split hc]; simp
    have hl : (pre ++ rowV (l.take i)).length = o + i * 7 := by
      rw [List.length_append, rowV_len, List.length_take, h7, Nat.min_eq_left (by omega)]; omega
    have e2 : B.cells = (pre ++ rowV (l.take i) ++ ([AV.int .i32 c.r, AV.int .u8 c.w] : List AV)) ++ (c.at ++ (rowV (l.drop (i + 1)) ++ post)) := by rw [e]; simp [Ce.cs]
    have hl2 : (pre ++ rowV (l.take i) ++ ([AV.int .i32 c.r, AV.int .u8 c.w] : List AV)).length = o + i * 7 + 2 := by rw [List.length_append, hl]; rfl
    refine ⟨b, o + i * 7, ?_, part_load h3 h4 e hl, part_one h3 h4 e hl (j := 0) rfl, part_one h3 h4 e hl (j := 1) rfl, part_load h3 h4 e2 hl2⟩
    simp only [idxSV, ROp.run, Opd.ev, inIndex, if_pos (show 0 ≤ (i : Int) ∧ (i : Int) < (l.length : Int) by omega), Int.toNat_natCast]
/-- a part of it -/
def slcOf (v : AV) (m n : Nat) : AV := match v with | .slc b o len cap => .slc b (o + m * 7) (n - m) (cap - m) | x => x
theorem RowS.slice (h : RowS H v l) {m n : Nat} (hm : m ≤ n) (hn : n ≤ l.length) : slSV H 7 v (some (.int .i64 m)) (some (.int .i64 n)) = some (slcOf v m n) ∧ RowS H (slcOf v m n) ((l.take n).drop m) := by
  rcases h with ⟨rfl, rfl⟩ | ⟨b, o, cap, B, rfl, h2, h3, h4, h5, pre, post, h6, h7⟩
  · simp only [List.length_nil, Nat.le_zero] at hn
    subst hn
    obtain rfl : m = 0 := by omega
    exact ⟨rfl, .inl ⟨rfl, by simp⟩⟩
  · refine ⟨?_, .inr ⟨b, o + m * 7, cap - m, B, ?_, ?_, h3, h4, h5, pre ++ rowV (l.take m), rowV (l.drop n) ++ post, ?_, ?_⟩⟩
    · simp only [slSV, ROp.run, Opd.ev, Option.map_some, bounds, bound, if_pos (show 0 ≤ (n : Int) ∧ (n : Int) ≤ (cap : Int) by omega), Int.toNat_natCast, if_pos (show 0 ≤ (m : Int) ∧ (m : Int) ≤ (n : Int) by omega), h3, if_pos h5, slcOf]
    · simp [slcOf, List.length_drop, List.length_take, Nat.min_eq_left hn]
    · simp [List.length_drop, List.length_take]; omega
    · have : l = l.take m ++ ((l.take n).drop m ++ l.drop n) := by
        have e1 : l.take m ++ (l.take n).drop m = l.take n := by
          have := List.take_append_drop m (l.take n)
          rw [List.take_take, Nat.min_eq_left hm] at this
          exact this
        rw [← List.append_assoc, e1, List.take_append_drop]
      rw [h6]
      conv => lhs; rw [this]
      simp [rowV_app]
    · rw [List.length_append, rowV_len, List.length_take, h7, Nat.min_eq_left (by omega)]; omega
end
theorem Hp.rowS {base : Nat} {H : AHeap} {L : List Cel} (h : Hp base H L) {b : Nat} {l : List Ce} {cap : Nat} (hx : (⟨b, 7, rowV l⟩ : Cel) ∈ L) (hc : l.length ≤ cap) : RowS H (.slc b 0 l.length cap) l := by
  obtain ⟨es, ty, h1, h2⟩ := h.has _ hx
  exact .inr ⟨b, 0, cap, _, rfl, hc, h1, rfl, h2, [], [], by simp, rfl⟩
structure PaQ (Q : Prog) : Prop where
  q7 : Q.fns 7 = some A7
  q11 : Q.fns 11 = some A11
  q27 : Q.fns 27 = some A27
  q28 : Q.fns 28 = some A28
  q31 : Q.fns 31 = some A31
  q32 : Q.fns 32 = some A32
  q39 : Q.fns 39 = some A39
  q40 : Q.fns 40 = some A40
  q41 : Q.fns 41 = some A41
  q42 : Q.fns 42 = some A42
  q43 : Q.fns 43 = some A43
  q47 : Q.fns 47 = some A47
  q48 : Q.fns 48 = some A48
  ho : ∀ f, (Nat.beq f 6 || Nat.beq f 46) = false → ∀ a, Q.orc f a = Option.none
theorem boxV_agg {x : List AV} (h : x.all AV.one = true) : boxV (.agg x) = some (.row ⟨x, 0, false, true, 0⟩, .ptr) := by
  simp [boxV, AV.cells, h]
def sizeP (w h : Int) : Bool := decide (1 ≤ w) && decide (w ≤ 400) && decide (1 ≤ h) && decide (h ≤ 400)
section
variable {Q : Prog} (pq : PaQ Q) {H : AHeap}
include pq
set_option maxHeartbeats 2000000 in
theorem size_spec (w h : Int) : FnTo Q 27 [.int .i64 w, .int .i64 h] H (fun r H' => r = .bool (sizeP w h) ∧ H' = H) := by
  refine fn_wp (pq.ho 27 rfl _) pq.q27 (by simp [A27]) ?_
  unfold sizeP
  by_cases c1 : 1 ≤ w
  · have d1 := decide_eq_true c1
    by_cases c2 : w ≤ 400
    · have d2 := decide_eq_true c2
      by_cases c3 : 1 ≤ h
      · have d3 := decide_eq_true c3
        simp only [A27, d1, d2, d3, Bool.and_self, Bool.true_and, SX, Opd.ev, resVal, resVals, ARes.val, Bool.false_eq_true, Bool.not_false, Bool.not_true, List.getD_cons_succ, List.getD_cons_zero, List.map_cons, List.map_nil, Nat.add_zero, Nat.zero_add, Option.map_none, Option.map_some, Option.some.injEq, and_true, decide_false, decide_true, true_and, reduceCtorEq, Nat.reduceEqDiff, ↓reduceIte, Int.reduceEq, Int.reduceLT, Int.reduceLE, Nat.reduceAdd]
      · have d3 := decide_eq_false c3
        simp only [A27, d1, d2, d3, Bool.and_self, Bool.true_and, Bool.and_false, Bool.false_and, wantV_undef, SX, Opd.ev, resVal, resVals, ARes.val, Bool.false_eq_true, Bool.not_false, Bool.not_true, List.getD_cons_succ, List.getD_cons_zero, List.map_cons, List.map_nil, Nat.add_zero, Nat.zero_add, Option.map_none, Option.map_some, Option.some.injEq, and_true, decide_false, decide_true, true_and, reduceCtorEq, Nat.reduceEqDiff, ↓reduceIte, Int.reduceEq, Int.reduceLT, Int.reduceLE, Nat.reduceAdd]
    · have d2 := decide_eq_false c2
      simp only [A27, d1, d2, Bool.and_self, Bool.true_and, Bool.and_false, Bool.false_and, wantV_undef, SX, Opd.ev, resVal, resVals, ARes.val, Bool.false_eq_true, Bool.not_false, Bool.not_true, List.getD_cons_succ, List.getD_cons_zero, List.map_cons, List.map_nil, Nat.add_zero, Nat.zero_add, Option.map_none, Option.map_some, Option.some.injEq, and_true, decide_false, decide_true, true_and, reduceCtorEq, Nat.reduceEqDiff, ↓reduceIte, Int.reduceEq, Int.reduceLT, Int.reduceLE, Nat.reduceAdd]
  · have d1 := decide_eq_false c1
    simp only [A27, d1, Bool.false_and, wantV_undef, SX, Opd.ev, resVal, resVals, ARes.val, Bool.false_eq_true, Bool.not_false, Bool.not_true, List.getD_cons_succ, List.getD_cons_zero, List.map_cons, List.map_nil, Nat.add_zero, Nat.zero_add, Option.map_none, Option.map_some, Option.some.injEq, and_true, decide_false, decide_true, true_and, reduceCtorEq, Nat.reduceEqDiff, ↓reduceIte, Int.reduceEq, Int.reduceLT, Int.reduceLE, Nat.reduceAdd]
set_option maxHeartbeats 2000000 in
theorem blank_spec (hf : Fr H) {a : List AV} (ha : a.length = 5) (h1 : a.all AV.one = true) : FnTo Q 47 [.agg a] H (fun r H' => r = .agg (.int .i32 32 :: .int .u8 0 :: a) ∧ Gr H H') := by
  refine fn_wp (pq.ho 47 rfl _) pq.q47 (by simp [A47]) ?_
  obtain ⟨H1, s1, g1, k1⟩ := (Hp.nil H hf).make a 5
  obtain ⟨H2, s2, g2, k2⟩ := g1.make [.int .i32 0, .int .u8 0, .int .u16 0, .int .u8 0, .int .u32 0, .int .u8 0, .int .u32 0] 7
  have n1 : H1.next = H.next + 1 := by rw [← s1]; rfl
  have l1 := g2.loadN (b := H.next) (k := 5) (cs := a) (by simp) ha
  obtain ⟨H3, s3, g3, k3, _⟩ := g2.storeN (n := 7) (new := .int .i32 32 :: .int .u8 0 :: a) rfl (by simp [ha]) (by simp [AV.one, h1])
  have l3 := g3.loadN (List.mem_cons_self ..) (n := 7) (by simp [ha])
  have bd : buildV [.int .i32 0, .int .u8 0, .int .u16 0, .int .u8 0, .int .u32 0, .int .u8 0, .int .u32 0] [(0, 1, .int .i32 32), (2, 5, .agg a)] = some (.agg (.int .i32 32 :: .int .u8 0 :: a)) := by
    match a, ha with
    | [a0, a1, a2, a3, a4], _ => rfl
  simp only [A47, boxV_agg h1, s1, run_allocL, s2, l1, run_build, bd, s3, resCell, l3, SX, Opd.ev, resVal, resVals, ARes.val, Bool.false_eq_true, Bool.not_false, Bool.not_true, List.getD_cons_succ, List.getD_cons_zero, List.map_cons, List.map_nil, Nat.add_zero, Nat.zero_add, Option.map_none, Option.map_some, Option.some.injEq, and_true, decide_false, decide_true, true_and, reduceCtorEq, Nat.reduceEqDiff, ↓reduceIte, Int.reduceEq, Int.reduceLT, Int.reduceLE, Nat.reduceAdd]
  exact g3.gr (k1.trans (k2.trans k3))
set_option maxHeartbeats 4000000 in
theorem fill_spec {base b n : Nat} {cs : List AV} {L : List Cel} {c : Ce} (h : Hp base H (⟨b, 7, cs⟩ :: L)) (hn : cs.length = 7 * n) (hn2 : n ≤ 1000000) (hc : c.r = 32 ∧ c.w = 0) : FnTo Q 39 [.slc b 0 n n, .agg c.at] H (fun _ H' => Hp base H' (⟨b, 7, rowV (List.replicate n c)⟩ :: L) ∧ Keep base H H') := by
  refine fn_wp (pq.ho 39 rfl _) pq.q39 (by simp [A39]) ?_
  have ha : c.at.all AV.one = true := rfl
  obtain ⟨H1, s1, g1, k1⟩ := h.make c.at 5
  obtain ⟨t, ht⟩ : ∃ t, H.next = t := ⟨_, rfl⟩
  rw [ht] at g1
  simp only [A39, boxV_agg ha, s1, ht, SX, Opd.ev, resVal, resVals, ARes.val, Bool.false_eq_true, Bool.not_false, Bool.not_true, List.getD_cons_succ, List.getD_cons_zero, List.map_cons, List.map_nil, Nat.add_zero, Nat.zero_add, Option.map_none, Option.map_some, Option.some.injEq, and_true, decide_false, decide_true, true_and, reduceCtorEq, Nat.reduceEqDiff, ↓reduceIte, Int.reduceEq, Int.reduceLT, Int.reduceLE, Nat.reduceAdd]
  obtain ⟨I, hI⟩ : ∃ I : Nat → Env → AHeap → Prop, ∀ m e H', I m e H' ↔ (∃ (i : Nat) (rest : List AV), m = n - i ∧ i ≤ n ∧ rest.length = 7 * (n - i) ∧ Hp base H' (⟨b, 7, rowV (List.replicate i c) ++ rest⟩ :: ⟨t, 5, c.at⟩ :: L) ∧ Keep base H H' ∧ Env.get e 0 = .slc b 0 n n ∧ Env.get e 3 = .ptr t 0 ∧ Env.get e 6 = .int .i64 n ∧ Env.get e 7 = .int .i64 i) := ⟨_, fun _ _ _ => Iff.rfl⟩
  refine loop_by I n ?_ ?_
  · exact (hI _ _ _).2 ⟨0, cs, rfl, by omega, by omega, by simpa [rowV] using g1.swap, k1, (by first | (simp only [SX, Opd.ev, resVal, resVals, ARes.val, Bool.false_eq_true, Bool.not_false, Bool.not_true, List.getD_cons_succ, List.getD_cons_zero, List.map_cons, List.map_nil, Nat.add_zero, Nat.zero_add, Option.map_none, Option.map_some, Option.some.injEq, and_true, decide_false, decide_true, true_and, reduceCtorEq, Nat.reduceEqDiff, ↓reduceIte, Int.reduceEq, Int.reduceLT, Int.reduceLE, Nat.reduceAdd]; done) | (simp only [SX, Opd.ev, resVal, resVals, ARes.val, Bool.false_eq_true, Bool.not_false, Bool.not_true, List.getD_cons_succ, List.getD_cons_zero, List.map_cons, List.map_nil, Nat.add_zero, Nat.zero_add, Option.map_none, Option.map_some, Option.some.injEq, and_true, decide_false, decide_true, true_and, reduceCtorEq, Nat.reduceEqDiff, ↓reduceIte, Int.reduceEq, Int.reduceLT, Int.reduceLE, Nat.reduceAdd]; rfl) | rfl), (by first | (simp only [SX, Opd.ev, resVal, resVals, ARes.val, Bool.false_eq_true, Bool.not_false, Bool.not_true, List.getD_cons_succ, List.getD_cons_zero, List.map_cons, List.map_nil, Nat.add_zero, Nat.zero_add, Option.map_none, Option.map_some, Option.some.injEq, and_true, decide_false, decide_true, true_and, reduceCtorEq, Nat.reduceEqDiff, ↓reduceIte, Int.reduceEq, Int.reduceLT, Int.reduceLE, Nat.reduceAdd]; done) | (simp only [SX, Opd.ev, resVal, resVals, ARes.val, Bool.false_eq_true, Bool.not_false, Bool.not_true, List.getD_cons_succ, List.getD_cons_zero, List.map_cons, List.map_nil, Nat.add_zero, Nat.zero_add, Option.map_none, Option.map_some, Option.some.injEq, and_true, decide_false, decide_true, true_and, reduceCtorEq, Nat.reduceEqDiff, ↓reduceIte, Int.reduceEq, Int.reduceLT, Int.reduceLE, Nat.reduceAdd]; rfl) | rfl), (by first | (simp only [SX, Opd.ev, resVal, resVals, ARes.val, Bool.false_eq_true, Bool.not_false, Bool.not_true, List.getD_cons_succ, List.getD_cons_zero, List.map_cons, List.map_nil, Nat.add_zero, Nat.zero_add, Option.map_none, Option.map_some, Option.some.injEq, and_true, decide_false, decide_true, true_and, reduceCtorEq, Nat.reduceEqDiff, ↓reduceIte, Int.reduceEq, Int.reduceLT, Int.reduceLE, Nat.reduceAdd]; done) | (simp only [SX, Opd.ev, resVal, resVals, ARes.val, Bool.false_eq_true, Bool.not_false, Bool.not_true, List.getD_cons_succ, List.getD_cons_zero, List.map_cons, List.map_nil, Nat.add_zero, Nat.zero_add, Option.map_none, Option.map_some, Option.some.injEq, and_true, decide_false, decide_true, true_and, reduceCtorEq, Nat.reduceEqDiff, ↓reduceIte, Int.reduceEq, Int.reduceLT, Int.reduceLE, Nat.reduceAdd]; rfl) | rfl), (by first | (simp only [SX, Opd.ev, resVal, resVals, ARes.val, Bool.false_eq_true, Bool.not_false, Bool.not_true, List.getD_cons_succ, List.getD_cons_zero, List.map_cons, List.map_nil, Nat.add_zero, Nat.zero_add, Option.map_none, Option.map_some, Option.some.injEq, and_true, decide_false, decide_true, true_and, reduceCtorEq, Nat.reduceEqDiff, ↓reduceIte, Int.reduceEq, Int.reduceLT, Int.reduceLE, Nat.reduceAdd]; done) | (simp only [SX, Opd.ev, resVal, resVals, ARes.val, Bool.false_eq_true, Bool.not_false, Bool.not_true, List.getD_cons_succ, List.getD_cons_zero, List.map_cons, List.map_nil, Nat.add_zero, Nat.zero_add, Option.map_none, Option.map_some, Option.some.injEq, and_true, decide_false, decide_true, true_and, reduceCtorEq, Nat.reduceEqDiff, ↓reduceIte, Int.reduceEq, Int.reduceLT, Int.reduceLE, Nat.reduceAdd]; rfl) | rfl)⟩
  · intro m e H2 hinv
    obtain ⟨i, rest, rfl, hi, hr, g2, k2, e0, e3, e6, e7⟩ := (hI _ _ _).1 hinv
    by_cases d : (i : Int) < n
    · have l3 := g2.loadN (b := t) (k := 5) (cs := c.at) (by simp) (n := 5) rfl
      have w1 : IntKind.wrap .i64 ((i : Int) + 1) = ((i + 1 : Nat) : Int) := wrapNat (n := i + 1) (by omega)
      simp only [e0, e3, e6, e7, d, l3, SX, Opd.ev, resVal, resVals, ARes.val, Bool.false_eq_true, Bool.not_false, Bool.not_true, List.getD_cons_succ, List.getD_cons_zero, List.map_cons, List.map_nil, Nat.add_zero, Nat.zero_add, Option.map_none, Option.map_some, Option.some.injEq, and_true, decide_false, decide_true, true_and, reduceCtorEq, Nat.reduceEqDiff, ↓reduceIte, Int.reduceEq, Int.reduceLT, Int.reduceLE, Nat.reduceAdd]
      refine (blank_spec pq g2.fr (a := c.at) rfl ha).mono ?_
      rintro _ H3 ⟨rfl, g3⟩
      have hcs : (AV.int .i32 32 :: AV.int .u8 0 :: c.at) = c.cs := by unfold Ce.cs; rw [hc.1, hc.2]
      have ix : idxSV 7 (.slc b 0 n n) (.int .i64 i) = some (.ptr b (i * 7)) := by
        simp only [idxSV, ROp.run, Opd.ev, inIndex, if_pos (show 0 ≤ (i : Int) ∧ (i : Int) < (n : Int) by omega), Int.toNat_natCast, Nat.zero_add]
      have g4 := g2.keep g3.keep g3.next g3.fr
      obtain ⟨x, c', e1, e2⟩ : ∃ x c', rest = x ++ c' ∧ x.length = 7 := ⟨rest.take 7, rest.drop 7, (List.take_append_drop 7 rest).symm, by rw [List.length_take]; omega⟩
      obtain ⟨H5, s5, g5, k5, _⟩ := g4.storeO (a := rowV (List.replicate i c)) (x := x) (c := c') (o := i * 7) (by rw [e1]) (by rw [rowV_len, List.length_replicate]; omega) (n := 7) (new := c.cs) e2 rfl rfl
      simp only [hcs, e0, e3, e6, e7, ix, s5, w1, SX, Opd.ev, resVal, resVals, ARes.val, Bool.false_eq_true, Bool.not_false, Bool.not_true, List.getD_cons_succ, List.getD_cons_zero, List.map_cons, List.map_nil, Nat.add_zero, Nat.zero_add, Option.map_none, Option.map_some, Option.some.injEq, and_true, decide_false, decide_true, true_and, reduceCtorEq, Nat.reduceEqDiff, ↓reduceIte, Int.reduceEq, Int.reduceLT, Int.reduceLE, Nat.reduceAdd]
      have hb := g2.bn
      refine ⟨n - (i + 1), by omega, (hI _ _ _).2 ⟨i + 1, c', rfl, by omega, by rw [e1, List.length_append, e2] at hr; omega, ?_, k2.trans ((g3.keep.le hb).trans k5), (by first | (simp only [SX, Opd.ev, resVal, resVals, ARes.val, Bool.false_eq_true, Bool.not_false, Bool.not_true, List.getD_cons_succ, List.getD_cons_zero, List.map_cons, List.map_nil, Nat.add_zero, Nat.zero_add, Option.map_none, Option.map_some, Option.some.injEq, and_true, decide_false, decide_true, true_and, reduceCtorEq, Nat.reduceEqDiff, ↓reduceIte, Int.reduceEq, Int.reduceLT, Int.reduceLE, Nat.reduceAdd, e0]; done) | exact e0 | (simp only [SX, Opd.ev, resVal, resVals, ARes.val, Bool.false_eq_true, Bool.not_false, Bool.not_true, List.getD_cons_succ, List.getD_cons_zero, List.map_cons, List.map_nil, Nat.add_zero, Nat.zero_add, Option.map_none, Option.map_some, Option.some.injEq, and_true, decide_false, decide_true, true_and, reduceCtorEq, Nat.reduceEqDiff, ↓reduceIte, Int.reduceEq, Int.reduceLT, Int.reduceLE, Nat.reduceAdd, e0]; rfl)), (by first | (simp only [SX, Opd.ev, resVal, resVals, ARes.val, Bool.false_eq_true, Bool.not_false, Bool.not_true, List.getD_cons_succ, List.getD_cons_zero, List.map_cons, List.map_nil, Nat.add_zero, Nat.zero_add, Option.map_none, Option.map_some, Option.some.injEq, and_true, decide_false, decide_true, true_and, reduceCtorEq, Nat.reduceEqDiff, ↓reduceIte, Int.reduceEq, Int.reduceLT, Int.reduceLE, Nat.reduceAdd, e3]; done) | exact e3 | (simp only [SX, Opd.ev, resVal, resVals, ARes.val, Bool.false_eq_true, Bool.not_false, Bool.not_true, List.getD_cons_succ, List.getD_cons_zero, List.map_cons, List.map_nil, Nat.add_zero, Nat.zero_add, Option.map_none, Option.map_some, Option.some.injEq, and_true, decide_false, decide_true, true_and, reduceCtorEq, Nat.reduceEqDiff, ↓reduceIte, Int.reduceEq, Int.reduceLT, Int.reduceLE, Nat.reduceAdd, e3]; rfl)), (by first | (simp only [SX, Opd.ev, resVal, resVals, ARes.val, Bool.false_eq_true, Bool.not_false, Bool.not_true, List.getD_cons_succ, List.getD_cons_zero, List.map_cons, List.map_nil, Nat.add_zero, Nat.zero_add, Option.map_none, Option.map_some, Option.some.injEq, and_true, decide_false, decide_true, true_and, reduceCtorEq, Nat.reduceEqDiff, ↓reduceIte, Int.reduceEq, Int.reduceLT, Int.reduceLE, Nat.reduceAdd, e6]; done) | exact e6 | (simp only [SX, Opd.ev, resVal, resVals, ARes.val, Bool.false_eq_true, Bool.not_false, Bool.not_true, List.getD_cons_succ, List.getD_cons_zero, List.map_cons, List.map_nil, Nat.add_zero, Nat.zero_add, Option.map_none, Option.map_some, Option.some.injEq, and_true, decide_false, decide_true, true_and, reduceCtorEq, Nat.reduceEqDiff, ↓reduceIte, Int.reduceEq, Int.reduceLT, Int.reduceLE, Nat.reduceAdd, e6]; rfl)), (by first | (simp only [SX, Opd.ev, resVal, resVals, ARes.val, Bool.false_eq_true, Bool.not_false, Bool.not_true, List.getD_cons_succ, List.getD_cons_zero, List.map_cons, List.map_nil, Nat.add_zero, Nat.zero_add, Option.map_none, Option.map_some, Option.some.injEq, and_true, decide_false, decide_true, true_and, reduceCtorEq, Nat.reduceEqDiff, ↓reduceIte, Int.reduceEq, Int.reduceLT, Int.reduceLE, Nat.reduceAdd]; done) | (simp only [SX, Opd.ev, resVal, resVals, ARes.val, Bool.false_eq_true, Bool.not_false, Bool.not_true, List.getD_cons_succ, List.getD_cons_zero, List.map_cons, List.map_nil, Nat.add_zero, Nat.zero_add, Option.map_none, Option.map_some, Option.some.injEq, and_true, decide_false, decide_true, true_and, reduceCtorEq, Nat.reduceEqDiff, ↓reduceIte, Int.reduceEq, Int.reduceLT, Int.reduceLE, Nat.reduceAdd]; rfl) | rfl)⟩⟩
      rw [List.replicate_succ', rowV_app, rowV_one, List.append_assoc]
      exact g5
    · obtain rfl : i = n := by omega
      have hr0 : rest = [] := List.length_eq_zero_iff.1 (by omega)
      rw [hr0, List.append_nil] at g2
      simp only [e0, e3, e6, e7, d, resNil, SX, Opd.ev, resVal, resVals, ARes.val, Bool.false_eq_true, Bool.not_false, Bool.not_true, List.getD_cons_succ, List.getD_cons_zero, List.map_cons, List.map_nil, Nat.add_zero, Nat.zero_add, Option.map_none, Option.map_some, Option.some.injEq, and_true, decide_false, decide_true, true_and, reduceCtorEq, Nat.reduceEqDiff, ↓reduceIte, Int.reduceEq, Int.reduceLT, Int.reduceLE, Nat.reduceAdd]
      exact ⟨g2.swap.drop, k2⟩
set_option maxHeartbeats 2000000 in
theorem rowBlank_spec (hf : Fr H) {w : Int} {c : Ce} (hc : c.r = 32 ∧ c.w = 0) : FnTo Q 28 [.int .i64 w, .agg c.at] H (fun r H' => Keep H.next H H' ∧ ((¬ (1 ≤ w ∧ w ≤ 400) ∧ r = .nils ∧ Hp H.next H' []) ∨ (1 ≤ w ∧ w ≤ 400 ∧ ∃ b, r = .slc b 0 w.toNat w.toNat ∧ Hp H.next H' [⟨b, 7, rowV (List.replicate w.toNat c)⟩]))) := by
  refine fn_wp (pq.ho 28 rfl _) pq.q28 (by simp [A28]) ?_
  have ha : c.at.all AV.one = true := rfl
  obtain ⟨H1, s1, g1, k1⟩ := (Hp.nil H hf).make c.at 5
  by_cases c1 : w < 1
  · have d1 := decide_eq_true c1
    simp only [A28, boxV_agg ha, s1, d1, wantV_undef, SX, Opd.ev, resVal, resVals, ARes.val, Bool.false_eq_true, Bool.not_false, Bool.not_true, List.getD_cons_succ, List.getD_cons_zero, List.map_cons, List.map_nil, Nat.add_zero, Nat.zero_add, Option.map_none, Option.map_some, Option.some.injEq, and_true, decide_false, decide_true, true_and, reduceCtorEq, Nat.reduceEqDiff, ↓reduceIte, Int.reduceEq, Int.reduceLT, Int.reduceLE, Nat.reduceAdd]
    exact ⟨k1, .inl ⟨by omega, g1.drop⟩⟩
  · have d1 := decide_eq_false c1
    by_cases c2 : 400 < w
    · have d2 := decide_eq_true c2
      simp only [A28, boxV_agg ha, s1, d1, d2, wantV_undef, SX, Opd.ev, resVal, resVals, ARes.val, Bool.false_eq_true, Bool.not_false, Bool.not_true, List.getD_cons_succ, List.getD_cons_zero, List.map_cons, List.map_nil, Nat.add_zero, Nat.zero_add, Option.map_none, Option.map_some, Option.some.injEq, and_true, decide_false, decide_true, true_and, reduceCtorEq, Nat.reduceEqDiff, ↓reduceIte, Int.reduceEq, Int.reduceLT, Int.reduceLE, Nat.reduceAdd]
      exact ⟨k1, .inl ⟨by omega, g1.drop⟩⟩
    · have d2 := decide_eq_false c2
      obtain ⟨n, rfl⟩ : ∃ n : Nat, w = n := ⟨w.toNat, by omega⟩
      have mk : mkV 7 28 [.int .i32 0, .int .u8 0, .int .u16 0, .int .u8 0, .int .u32 0, .int .u8 0, .int .u32 0] (.int .i64 n) (.int .i64 n) = some (.row ⟨zeros [.int .i32 0, .int .u8 0, .int .u16 0, .int .u8 0, .int .u32 0, .int .u8 0, .int .u32 0] (n * 7), 0, false, true, 0⟩, .slc n n) := by
        simp only [mkV, LOp.run, Opd.ev, Int.toNat_natCast]
        rw [if_pos ⟨by omega, by omega, by omega, by omega, by simp, rfl⟩]
      obtain ⟨zs, hzs⟩ : ∃ zs, zeros [.int .i32 0, .int .u8 0, .int .u16 0, .int .u8 0, .int .u32 0, .int .u8 0, .int .u32 0] (n * 7) = zs := ⟨_, rfl⟩
      have hzl : zs.length = 7 * n := by rw [← hzs]; simp [zeros]; omega
      rw [hzs] at mk
      obtain ⟨H2, s2, g2, k2⟩ := g1.make zs 7
      have l1 := g2.loadN (b := H.next) (k := 5) (cs := c.at) (by simp) (n := 5) rfl
      obtain ⟨t, ht⟩ : ∃ t, H1.next = t := ⟨_, rfl⟩
      rw [ht] at g2
      simp only [A28, boxV_agg ha, s1, d1, d2, wantV_undef, run_mk, mk, s2, ht, l1, SX, Opd.ev, resVal, resVals, ARes.val, Bool.false_eq_true, Bool.not_false, Bool.not_true, List.getD_cons_succ, List.getD_cons_zero, List.map_cons, List.map_nil, Nat.add_zero, Nat.zero_add, Option.map_none, Option.map_some, Option.some.injEq, and_true, decide_false, decide_true, true_and, reduceCtorEq, Nat.reduceEqDiff, ↓reduceIte, Int.reduceEq, Int.reduceLT, Int.reduceLE, Nat.reduceAdd]
      refine (fill_spec pq g2 hzl (by omega) hc).mono ?_
      rintro _ H3 ⟨g3, k3⟩
      simp only [SX, Opd.ev, resVal, resVals, ARes.val, Bool.false_eq_true, Bool.not_false, Bool.not_true, List.getD_cons_succ, List.getD_cons_zero, List.map_cons, List.map_nil, Nat.add_zero, Nat.zero_add, Option.map_none, Option.map_some, Option.some.injEq, and_true, decide_false, decide_true, true_and, reduceCtorEq, Nat.reduceEqDiff, ↓reduceIte, Int.reduceEq, Int.reduceLT, Int.reduceLE, Nat.reduceAdd]
      exact ⟨k1.trans (k2.trans k3), .inr ⟨by omega, by omega, t, rfl, g3.sub (by simp)⟩⟩
end
end Go.Proofs.YtkfnjjloefanjaaDoor.AM
