/-
  Rows of cells, frames: which may be; blank frames; what the document is given.
-/
import Derived.Test.YtfcnjfbnffijhaaDoorCode
import Derived.Test.YtfcnjfbnffijhaaDoorLaid
import Derived.Test.YtfcnjfbnffijhaaDoorAmBit
set_option linter.unusedVariables false
set_option linter.unusedSimpArgs false
namespace Go.Proofs.YtfcnjfbnffijhaaDoor.AM
open Go
theorem resNil (e : Env) (H : AHeap) : resVal e H [] = some (.tup []) := rfl
theorem wantV_undef (b : Bool) : wantV .undef b = false := rfl
theorem resCell (e : Env) (H : AHeap) (i n : Nat) : resVal e H [.cell i (some n)] = loadV H (some n) (Env.get e i) := by
  simp only [resVal, resVals, ARes.val]
  show (match (match loadV H (some n) (Env.get e i) with | some v => some [v] | none => none) with | some [v] => some v | some vs => some (.tup vs) | none => none) = _
  cases loadV H (some n) (Env.get e i) <;> rfl
def mkV (es bs : Nat) (z : List AV) (l c : AV) : Option (AObj × AKind) := LOp.run .nil (.mkslice es bs z (.c l) (.c c))
theorem run_mk (e : Env) (es bs : Nat) (z : List AV) (l c : Opd) : LOp.run e (.mkslice es bs z l c) = mkV es bs z (l.ev e) (c.ev e) := rfl
/-- a cell: its character, which half, its attribute's five numbers -/
structure Ce where
  r : Int
  w : Int
  f : Int
  k1 : Int
  n1 : Int
  k2 : Int
  n2 : Int
def Ce.at (c : Ce) : List AV := [.int .u16 c.f, .int .u8 c.k1, .int .u32 c.n1, .int .u8 c.k2, .int .u32 c.n2]
def Ce.cs (c : Ce) : List AV := .int .i32 c.r :: .int .u8 c.w :: c.at
def blankC : Ce := ⟨32, 0, 0, 0, 0, 0, 0⟩
def at0 : List AV := [.int .u16 0, .int .u8 0, .int .u32 0, .int .u8 0, .int .u32 0]
def rowV (l : List Ce) : List AV := l.flatMap Ce.cs
theorem rowV_len (l : List Ce) : (rowV l).length = 7 * l.length := by
  induction l with
  | nil => rfl
  | cons c l ih =>
    have : rowV (c :: l) = c.cs ++ rowV l := by simp [rowV]
    rw [this, List.length_append, ih]
    simp [Ce.cs, Ce.at]; omega
theorem rowV_app (a b : List Ce) : rowV (a ++ b) = rowV a ++ rowV b := List.flatMap_append ..
theorem rowV_one (c : Ce) : rowV [c] = c.cs := by simp [rowV]
theorem rowV_split {l : List Ce} {i : Nat} {c : Ce} (h : l[i]? = some c) : rowV l = rowV (l.take i) ++ (c.cs ++ rowV (l.drop (i + 1))) := by
  obtain ⟨h1, h2⟩ := List.getElem?_eq_some_iff.1 h
  have : l = l.take i ++ (c :: l.drop (i + 1)) := by rw [← h2, ← List.drop_eq_getElem_cons h1, List.take_append_drop]
  conv => lhs; rw [this]
  rw [rowV_app]
  simp [rowV]
theorem rowV_ones (l : List Ce) : (rowV l).all AV.one = true := by
  induction l with
  | nil => rfl
  | cons c l ih =>
    have : rowV (c :: l) = c.cs ++ rowV l := by simp [rowV]
    rw [this, List.all_append, ih]
    rfl
/-- a slice of cells, where it may be read and cut -/
def RowS (H : AHeap) (v : AV) (l : List Ce) : Prop := (v = .nils ∧ l = []) ∨ ∃ b o cap B, v = .slc b o l.length cap ∧ l.length ≤ cap ∧ H.get b = some (.row B) ∧ B.live = true ∧ (B.es = 0 ∨ B.es = 7) ∧ ∃ pre post, B.cells = pre ++ (rowV l ++ post) ∧ pre.length = o
section
variable {H : AHeap} {v : AV} {l : List Ce}
theorem part_load {b p : Nat} {B : Blk} {a x c : List AV} (hB : H.get b = some (.row B)) (hl : B.live = true) (hc : B.cells = a ++ (x ++ c)) (hp : a.length = p) : loadV H (some x.length) (.ptr b p) = some (.agg x) := by
  have hr : H.row b = some B := by simp only [AHeap.row, hB, hl, if_true]
  simp only [loadV, ROp.run, Opd.ev, hr, hc, AM.cut]
  rw [if_pos (by simp; omega)]
  simp [← hp]
theorem part_one {b p : Nat} {B : Blk} {a x c : List AV} (hB : H.get b = some (.row B)) (hl : B.live = true) (hc : B.cells = a ++ (x ++ c)) (hp : a.length = p) {j : Nat} {y : AV} (hy : x[j]? = some y) : loadV H none (.ptr b (p + j)) = some y := by
  have hr : H.row b = some B := by simp only [AHeap.row, hB, hl, if_true]
  have hj := (List.getElem?_eq_some_iff.1 hy).1
  simp only [loadV, ROp.run, Opd.ev, hr, hc]
  rw [List.getElem?_append_right (by omega), ← hp, Nat.add_sub_cancel_left, List.getElem?_append_left hj, hy]
theorem RowS.len (h : RowS H v l) (H2 : AHeap) : lngV H2 1 v = some (.int .i64 l.length) := by
  rcases h with ⟨rfl, rfl⟩ | ⟨b, o, cap, B, rfl, _⟩ <;> rfl
theorem RowS.grow {H' : AHeap} (h : RowS H v l) (hf : Fr H) (g : Gr H H') : RowS H' v l := by
  rcases h with h | ⟨b, o, cap, B, h1, h2, h3, h4⟩
  · exact .inl h
  · exact .inr ⟨b, o, cap, B, h1, h2, g.get hf h3, h4⟩
/-- one cell of it -/
theorem RowS.cell (h : RowS H v l) {i : Nat} {c : Ce} (hc : l[i]? = some c) (kd : IntKind) : ∃ b p, idxSV 7 v (.int kd i) = some (.ptr b p) ∧ loadV H (some 7) (.ptr b p) = some (.agg c.cs) ∧ loadV H none (.ptr b p) = some (.int .i32 c.r) ∧ loadV H none (.ptr b (p + 1)) = some (.int .u8 c.w) ∧ loadV H (some 5) (.ptr b (p + 2)) = some (.agg c.at) := by
  have hi := (List.getElem?_eq_some_iff.1 hc).1
  rcases h with ⟨rfl, rfl⟩ | ⟨b, o, cap, B, rfl, h2, h3, h4, h5, pre, post, h6, h7⟩
  · simp at hi
  · have e : B.cells = (pre ++ rowV (l.take i)) ++ (c.cs ++ (rowV (l.drop (i + 1)) ++ post)) := by rw [h6, rowV_split hc]; simp
    have hl : (pre ++ rowV (l.take i)).length = o + i * 7 := by
      rw [List.length_append, rowV_len, List.length_take, h7, Nat.min_eq_left (by omega)]; omega
    have e2 : B.cells = (pre ++ rowV (l.take i) ++ ([AV.int .i32 c.r, AV.int .u8 c.w] : List AV)) ++ (c.at ++ (rowV (l.drop (i + 1)) ++ post)) := by rw [e]; simp [Ce.cs]
    have hl2 : (pre ++ rowV (l.take i) ++ ([AV.int .i32 c.r, AV.int .u8 c.w] : List AV)).length = o + i * 7 + 2 := by rw [List.length_append, hl]; rfl
    refine ⟨b, o + i * 7, ?_, part_load h3 h4 e hl, part_one h3 h4 e hl (j := 0) rfl, part_one h3 h4 e hl (j := 1) rfl, part_load h3 h4 e2 hl2⟩
    simp only [idxSV, ROp.run, Opd.ev, inIndex, if_pos (show 0 ≤ (i : Int) ∧ (i : Int) < (l.length : Int) by omega), Int.toNat_natCast]
/-- a part of it -/
def slcOf (v : AV) (m n : Nat) : AV := match v with | .slc b o len cap => .slc b (o + m * 7) (n - m) (cap - m) | x => x
theorem RowS.slice (h : RowS H v l) {m n : Nat} (hm : m ≤ n) (hn : n ≤ l.length) : slSV H 7 v (some (.int .i64 m)) (some (.int .i64 n)) = some (slcOf v m n) ∧ RowS H (slcOf v m n) ((l.take n).drop m) := by
  rcases h with ⟨rfl, rfl⟩ | ⟨b, o, cap, B, rfl, h2, h3, h4, h5, pre, post, h6, h7⟩
  · simp only [List.length_nil, Nat.le_zero] at hn
    subst hn
    obtain rfl : m = 0 := by omega
    exact ⟨rfl, .inl ⟨rfl, by simp⟩⟩
  · refine ⟨?_, .inr ⟨b, o + m * 7, cap - m, B, ?_, ?_, h3, h4, h5, pre ++ rowV (l.take m), rowV (l.drop n) ++ post, ?_, ?_⟩⟩
    · simp only [slSV, ROp.run, Opd.ev, Option.map_some, bounds, bound, if_pos (show 0 ≤ (n : Int) ∧ (n : Int) ≤ (cap : Int) by omega), Int.toNat_natCast, if_pos (show 0 ≤ (m : Int) ∧ (m : Int) ≤ (n : Int) by omega), h3, if_pos h5, slcOf]
    · simp [slcOf, List.length_drop, List.length_take, Nat.min_eq_left hn]
    · simp [List.length_drop, List.length_take]; omega
    · have : l = l.take m ++ ((l.take n).drop m ++ l.drop n) := by
        have e1 : l.take m ++ (l.take n).drop m = l.take n := by
          have := List.take_append_drop m (l.take n)
          rw [List.take_take, Nat.min_eq_left hm] at this
          exact this
        rw [← List.append_assoc, e1, List.take_append_drop]
      rw [h6]
      conv => lhs; rw [this]
      simp [rowV_app]
    · rw [List.length_append, rowV_len, List.length_take, h7, Nat.min_eq_left (by omega)]; omega
end
theorem Hp.rowS {base : Nat} {H : AHeap} {L : List Cel} (h : Hp base H L) {b : Nat} {l : List Ce} {cap : Nat} (hx : (⟨b, 7, rowV l⟩ : Cel) ∈ L) (hc : l.length ≤ cap) : RowS H (.slc b 0 l.length cap) l := by
  obtain ⟨es, ty, h1, h2⟩ := h.has _ hx
  exact .inr ⟨b, 0, cap, _, rfl, hc, h1, rfl, h2, [], [], by simp, rfl⟩
structure PaQ (Q : Prog) : Prop where
  q16 : Q.fns 16 = some A16
  q7 : Q.fns 7 = some A7
  q17 : Q.fns 17 = some A17
  q35 : Q.fns 35 = some A35
  q18 : Q.fns 18 = some A18
  q19 : Q.fns 19 = some A19
  q49 : Q.fns 49 = some A49
  q36 : Q.fns 36 = some A36
  q37 : Q.fns 37 = some A37
  q38 : Q.fns 38 = some A38
  q39 : Q.fns 39 = some A39
  q56 : Q.fns 56 = some A56
  q50 : Q.fns 50 = some A50
  ho : ∀ f, (Nat.beq f 5 || Nat.beq f 44) = false → ∀ a, Q.orc f a = Option.none
theorem boxV_agg {x : List AV} (h : x.all AV.one = true) : boxV (.agg x) = some (.row ⟨x, 0, false, true, 0⟩, .ptr) := by
  simp [boxV, AV.cells, h]
def sizeP (w h : Int) : Bool := decide (1 ≤ w) && decide (w ≤ 400) && decide (1 ≤ h) && decide (h ≤ 400)
section
variable {Q : Prog} (pq : PaQ Q) {H : AHeap}
include pq
set_option maxHeartbeats 2000000 in
theorem size_spec (w h : Int) : FnTo Q 17 [.int .i64 w, .int .i64 h] H (fun r H' => r = .bool (sizeP w h) ∧ H' = H) := by
  refine fn_wp (pq.ho 17 rfl _) pq.q17 (by simp [A17]) ?_
  unfold sizeP
  by_cases c1 : 1 ≤ w
  · have d1 := decide_eq_true c1
    by_cases c2 : w ≤ 400
    · have d2 := decide_eq_true c2
      by_cases c3 : 1 ≤ h
      · have d3 := decide_eq_true c3
        simp only [A17, d1, d2, d3, Bool.and_self, Bool.true_and, SX, reduceCtorEq, Nat.reduceEqDiff, ↓reduceIte, Int.reduceEq, Int.reduceLT, Int.reduceLE, Nat.reduceAdd]
      · have d3 := decide_eq_false c3
        simp only [A17, d1, d2, d3, Bool.and_self, Bool.true_and, Bool.and_false, Bool.false_and, wantV_undef, SX, reduceCtorEq, Nat.reduceEqDiff, ↓reduceIte, Int.reduceEq, Int.reduceLT, Int.reduceLE, Nat.reduceAdd]
    · have d2 := decide_eq_false c2
      simp only [A17, d1, d2, Bool.and_self, Bool.true_and, Bool.and_false, Bool.false_and, wantV_undef, SX, reduceCtorEq, Nat.reduceEqDiff, ↓reduceIte, Int.reduceEq, Int.reduceLT, Int.reduceLE, Nat.reduceAdd]
  · have d1 := decide_eq_false c1
    simp only [A17, d1, Bool.false_and, wantV_undef, SX, reduceCtorEq, Nat.reduceEqDiff, ↓reduceIte, Int.reduceEq, Int.reduceLT, Int.reduceLE, Nat.reduceAdd]
set_option maxHeartbeats 2000000 in
theorem blank_spec (hf : Fr H) {a : List AV} (ha : a.length = 5) (h1 : a.all AV.one = true) : FnTo Q 56 [.agg a] H (fun r H' => r = .agg (.int .i32 32 :: .int .u8 0 :: a) ∧ Gr H H') := by
  refine fn_wp (pq.ho 56 rfl _) pq.q56 (by simp [A56]) ?_
  obtain ⟨H1, s1, g1, k1⟩ := (Hp.nil H hf).make a 5
  obtain ⟨H2, s2, g2, k2⟩ := g1.make [.int .i32 0, .int .u8 0, .int .u16 0, .int .u8 0, .int .u32 0, .int .u8 0, .int .u32 0] 7
  have n1 : H1.next = H.next + 1 := by rw [← s1]; rfl
  have l1 := g2.loadN (b := H.next) (k := 5) (cs := a) (by simp) ha
  obtain ⟨H3, s3, g3, k3, _⟩ := g2.storeN (n := 7) (new := .int .i32 32 :: .int .u8 0 :: a) rfl (by simp [ha]) (by simp [AV.one, h1])
  have l3 := g3.loadN (List.mem_cons_self ..) (n := 7) (by simp [ha])
  have bd : buildV [.int .i32 0, .int .u8 0, .int .u16 0, .int .u8 0, .int .u32 0, .int .u8 0, .int .u32 0] [(0, 1, .int .i32 32), (2, 5, .agg a)] = some (.agg (.int .i32 32 :: .int .u8 0 :: a)) := by
    match a, ha with
    | [a0, a1, a2, a3, a4], _ => rfl
  simp only [A56, boxV_agg h1, s1, run_allocL, s2, l1, run_build, bd, s3, resCell, l3, SX, reduceCtorEq, Nat.reduceEqDiff, ↓reduceIte, Int.reduceEq, Int.reduceLT, Int.reduceLE, Nat.reduceAdd]
  exact g3.gr (k1.trans (k2.trans k3))
set_option maxHeartbeats 4000000 in
theorem fill_spec {base b n : Nat} {cs : List AV} {L : List Cel} {c : Ce} (h : Hp base H (⟨b, 7, cs⟩ :: L)) (hn : cs.length = 7 * n) (hn2 : n ≤ 1000000) (hc : c.r = 32 ∧ c.w = 0) : FnTo Q 49 [.slc b 0 n n, .agg c.at] H (fun _ H' => Hp base H' (⟨b, 7, rowV (List.replicate n c)⟩ :: L) ∧ Keep base H H') := by
  refine fn_wp (pq.ho 49 rfl _) pq.q49 (by simp [A49]) ?_
  have ha : c.at.all AV.one = true := rfl
  obtain ⟨H1, s1, g1, k1⟩ := h.make c.at 5
  obtain ⟨t, ht⟩ : ∃ t, H.next = t := ⟨_, rfl⟩
  rw [ht] at g1
  simp only [A49, boxV_agg ha, s1, ht, SX, reduceCtorEq, Nat.reduceEqDiff, ↓reduceIte, Int.reduceEq, Int.reduceLT, Int.reduceLE, Nat.reduceAdd]
  obtain ⟨I, hI⟩ : ∃ I : Nat → Env → AHeap → Prop, ∀ m e H', I m e H' ↔ (∃ (i : Nat) (rest : List AV), m = n - i ∧ i ≤ n ∧ rest.length = 7 * (n - i) ∧ Hp base H' (⟨b, 7, rowV (List.replicate i c) ++ rest⟩ :: ⟨t, 5, c.at⟩ :: L) ∧ Keep base H H' ∧ Env.get e 0 = .slc b 0 n n ∧ Env.get e 3 = .ptr t 0 ∧ Env.get e 6 = .int .i64 n ∧ Env.get e 7 = .int .i64 i) := ⟨_, fun _ _ _ => Iff.rfl⟩
  refine loop_by I n ?_ ?_
  · exact (hI _ _ _).2 ⟨0, cs, rfl, by omega, by omega, by simpa [rowV] using g1.swap, k1, (by first | (simp only [SG, reduceCtorEq, Nat.reduceEqDiff, ↓reduceIte] <;> rfl) | rfl), (by first | (simp only [SG, reduceCtorEq, Nat.reduceEqDiff, ↓reduceIte] <;> rfl) | rfl), (by first | (simp only [SG, reduceCtorEq, Nat.reduceEqDiff, ↓reduceIte] <;> rfl) | rfl), (by first | (simp only [SG, reduceCtorEq, Nat.reduceEqDiff, ↓reduceIte] <;> rfl) | rfl)⟩
  · intro m e H2 hinv
    obtain ⟨i, rest, rfl, hi, hr, g2, k2, e0, e3, e6, e7⟩ := (hI _ _ _).1 hinv
    by_cases d : (i : Int) < n
    · have l3 := g2.loadN (b := t) (k := 5) (cs := c.at) (by simp) (n := 5) rfl
      have w1 : IntKind.wrap .i64 ((i : Int) + 1) = ((i + 1 : Nat) : Int) := wrapNat (n := i + 1) (by omega)
      simp only [e0, e3, e6, e7, d, l3, SX, reduceCtorEq, Nat.reduceEqDiff, ↓reduceIte, Int.reduceEq, Int.reduceLT, Int.reduceLE, Nat.reduceAdd]
      refine (blank_spec pq g2.fr (a := c.at) rfl ha).mono ?_
      rintro _ H3 ⟨rfl, g3⟩
      have hcs : (AV.int .i32 32 :: AV.int .u8 0 :: c.at) = c.cs := by unfold Ce.cs; rw [hc.1, hc.2]
      have ix : idxSV 7 (.slc b 0 n n) (.int .i64 i) = some (.ptr b (i * 7)) := by
        simp only [idxSV, ROp.run, Opd.ev, inIndex, if_pos (show 0 ≤ (i : Int) ∧ (i : Int) < (n : Int) by omega), Int.toNat_natCast, Nat.zero_add]
      have g4 := g2.keep g3.keep g3.next g3.fr
      obtain ⟨x, c', e1, e2⟩ : ∃ x c', rest = x ++ c' ∧ x.length = 7 := ⟨rest.take 7, rest.drop 7, (List.take_append_drop 7 rest).symm, by rw [List.length_take]; omega⟩
      obtain ⟨H5, s5, g5, k5, _⟩ := g4.storeO (a := rowV (List.replicate i c)) (x := x) (c := c') (o := i * 7) (by rw [e1]) (by rw [rowV_len, List.length_replicate]; omega) (n := 7) (new := c.cs) e2 rfl rfl
      simp only [hcs, e0, e3, e6, e7, ix, s5, w1, SX, reduceCtorEq, Nat.reduceEqDiff, ↓reduceIte, Int.reduceEq, Int.reduceLT, Int.reduceLE, Nat.reduceAdd]
      have hb := g2.bn
      refine ⟨n - (i + 1), by omega, (hI _ _ _).2 ⟨i + 1, c', rfl, by omega, by rw [e1, List.length_append, e2] at hr; omega, ?_, k2.trans ((g3.keep.le hb).trans k5), (by simp only [SG, reduceCtorEq, Nat.reduceEqDiff, ↓reduceIte, e0] <;> rfl), (by simp only [SG, reduceCtorEq, Nat.reduceEqDiff, ↓reduceIte, e3] <;> rfl), (by simp only [SG, reduceCtorEq, Nat.reduceEqDiff, ↓reduceIte, e6] <;> rfl), (by first | (simp only [SG, reduceCtorEq, Nat.reduceEqDiff, ↓reduceIte] <;> rfl) | rfl)⟩⟩
      rw [List.replicate_succ', rowV_app, rowV_one, List.append_assoc]
      exact g5
    · obtain rfl : i = n := by omega
      have hr0 : rest = [] := List.length_eq_zero_iff.1 (by omega)
      rw [hr0, List.append_nil] at g2
      simp only [e0, e3, e6, e7, d, resNil, SX, reduceCtorEq, Nat.reduceEqDiff, ↓reduceIte, Int.reduceEq, Int.reduceLT, Int.reduceLE, Nat.reduceAdd]
      exact ⟨g2.swap.drop, k2⟩
set_option maxHeartbeats 2000000 in
theorem rowBlank_spec (hf : Fr H) {w : Int} {c : Ce} (hc : c.r = 32 ∧ c.w = 0) : FnTo Q 35 [.int .i64 w, .agg c.at] H (fun r H' => Keep H.next H H' ∧ ((¬ (1 ≤ w ∧ w ≤ 400) ∧ r = .nils ∧ Hp H.next H' []) ∨ (1 ≤ w ∧ w ≤ 400 ∧ ∃ b, r = .slc b 0 w.toNat w.toNat ∧ Hp H.next H' [⟨b, 7, rowV (List.replicate w.toNat c)⟩]))) := by
  refine fn_wp (pq.ho 35 rfl _) pq.q35 (by simp [A35]) ?_
  have ha : c.at.all AV.one = true := rfl
  obtain ⟨H1, s1, g1, k1⟩ := (Hp.nil H hf).make c.at 5
  by_cases c1 : w < 1
  · have d1 := decide_eq_true c1
    simp only [A35, boxV_agg ha, s1, d1, wantV_undef, SX, reduceCtorEq, Nat.reduceEqDiff, ↓reduceIte, Int.reduceEq, Int.reduceLT, Int.reduceLE, Nat.reduceAdd]
    exact ⟨k1, .inl ⟨by omega, g1.drop⟩⟩
  · have d1 := decide_eq_false c1
    by_cases c2 : 400 < w
    · have d2 := decide_eq_true c2
      simp only [A35, boxV_agg ha, s1, d1, d2, wantV_undef, SX, reduceCtorEq, Nat.reduceEqDiff, ↓reduceIte, Int.reduceEq, Int.reduceLT, Int.reduceLE, Nat.reduceAdd]
      exact ⟨k1, .inl ⟨by omega, g1.drop⟩⟩
    · have d2 := decide_eq_false c2
      obtain ⟨n, rfl⟩ : ∃ n : Nat, w = n := ⟨w.toNat, by omega⟩
      have mk : mkV 7 28 [.int .i32 0, .int .u8 0, .int .u16 0, .int .u8 0, .int .u32 0, .int .u8 0, .int .u32 0] (.int .i64 n) (.int .i64 n) = some (.row ⟨zeros [.int .i32 0, .int .u8 0, .int .u16 0, .int .u8 0, .int .u32 0, .int .u8 0, .int .u32 0] (n * 7), 0, false, true, 0⟩, .slc n n) := by
        simp only [mkV, LOp.run, Opd.ev, Int.toNat_natCast]
        rw [if_pos ⟨by omega, by omega, by omega, by omega, by simp, rfl⟩]
      obtain ⟨zs, hzs⟩ : ∃ zs, zeros [.int .i32 0, .int .u8 0, .int .u16 0, .int .u8 0, .int .u32 0, .int .u8 0, .int .u32 0] (n * 7) = zs := ⟨_, rfl⟩
      have hzl : zs.length = 7 * n := by rw [← hzs]; simp [zeros]; omega
      rw [hzs] at mk
      obtain ⟨H2, s2, g2, k2⟩ := g1.make zs 7
      have l1 := g2.loadN (b := H.next) (k := 5) (cs := c.at) (by simp) (n := 5) rfl
      obtain ⟨t, ht⟩ : ∃ t, H1.next = t := ⟨_, rfl⟩
      rw [ht] at g2
      simp only [A35, boxV_agg ha, s1, d1, d2, wantV_undef, run_mk, mk, s2, ht, l1, SX, reduceCtorEq, Nat.reduceEqDiff, ↓reduceIte, Int.reduceEq, Int.reduceLT, Int.reduceLE, Nat.reduceAdd]
      refine (fill_spec pq g2 hzl (by omega) hc).mono ?_
      rintro _ H3 ⟨g3, k3⟩
      simp only [SX, reduceCtorEq, Nat.reduceEqDiff, ↓reduceIte, Int.reduceEq, Int.reduceLT, Int.reduceLE, Nat.reduceAdd]
      exact ⟨k1.trans (k2.trans k3), .inr ⟨by omega, by omega, t, rfl, g3.sub (by simp)⟩⟩
end
/-! ### How wide a character is -/
def ofB (mid : Nat) : Int := if IntKind.wrap .i64 (((BitVec.ofInt 64 ((33948543 : Int).fdiv (2 ^ (min mid 64))) &&& BitVec.ofInt 64 1).toNat : Nat) : Int) = 1 then 0 else 2
def ofF : Nat → Int → Nat → Nat → Int
  | 0, _, _, _ => 1
  | f + 1, r, lo, hi =>
    if lo < hi then
      (if r < zbounds.getD (2 * ((lo + hi) / 2)) 0 then ofF f r lo ((lo + hi) / 2)
      else if zbounds.getD (2 * ((lo + hi) / 2) + 1) 0 < r then ofF f r ((lo + hi) / 2 + 1) hi
      else ofB ((lo + hi) / 2))
    else 1
def ofP (r : Int) : Int := ofF 26 r 0 26
theorem ofF_end (f : Nat) (r : Int) {lo hi : Nat} (h : ¬ lo < hi) : ofF f r lo hi = 1 := by
  cases f with
  | zero => rfl
  | succ f => unfold ofF; rw [if_neg h]
theorem zb_len : zbounds.length = 52 := rfl
theorem tb_at {H : AHeap} (h : hasTabs H TT = true) {i : Nat} (hi : i < 52) : loadV H none (.ptr 0 i) = some (.int .i32 (zbounds.getD i 0)) := by
  have h1 := List.all_eq_true.1 h ⟨0, .i32, zbounds⟩ (by simp [TT])
  split at h1
  · rename_i B hB
    simp only [Bool.and_eq_true] at h1
    have hc := sameL_eq1 h1.2
    have hr : H.row 0 = some B := by simp only [AHeap.row, hB, h1.1, if_true]
    have hz : zbounds[i]? = some zbounds[i] := List.getElem?_eq_getElem (by rw [zb_len]; exact hi)
    simp only [loadV, ROp.run, Opd.ev, hr, hc, Tb.cs, List.getElem?_map, hz]
    rw [List.getD_eq_getElem?_getD, hz]; rfl
  · cases h1
theorem ixA {n es : Nat} {b o i : Nat} (h : i < n) (k : IntKind) : idxAV n es (.ptr b o) (.int k (i : Int)) = some (.ptr b (o + i * es)) := by
  simp only [idxAV, ROp.run, Opd.ev, inIndex, if_pos (show 0 ≤ (i : Int) ∧ (i : Int) < (n : Int) by omega), Int.toNat_natCast]
/-! ### What may be -/
def colP (k n : Int) : Bool := (decide (k = 0) && decide (n = 0)) || (decide (k = 1) && decide (n ≤ 255)) || (decide (k = 2) && decide (n < 16777216))
def attrP (c : Ce) : Bool := decide (c.f ≤ 255) && colP c.k1 c.n1 && colP c.k2 c.n2
def validP (r : Int) : Bool := (decide (0 ≤ r) && decide (r < 55296)) || (decide (57343 < r) && decide (r ≤ 1114111))
def wholeP : List Int → Bool
  | [] => true
  | w :: t => if w = 0 then wholeP t else match t with
    | [] => false
    | v :: t' => if w = 1 ∧ v = 2 then wholeP t' else false
theorem wholeP_cons (w : Int) (t : List Int) : wholeP (w :: t) = if w = 0 then wholeP t else match t with | [] => false | v :: t' => if w = 1 ∧ v = 2 then wholeP t' else false := by rw [wholeP.eq_def]
def ws (l : List Ce) : List Int := l.map (·.w)
theorem ws_drop (l : List Ce) (i : Nat) : ws (l.drop i) = (ws l).drop i := List.map_drop ..
theorem ws_len (l : List Ce) : (ws l).length = l.length := List.length_map ..
theorem ws_at {l : List Ce} {i : Nat} {c : Ce} (h : l[i]? = some c) : (ws l).drop i = c.w :: (ws l).drop (i + 1) := by
  obtain ⟨h1, h2⟩ := List.getElem?_eq_some_iff.1 h
  have : (ws l)[i]? = some c.w := by simp [ws, h]
  obtain ⟨h3, h4⟩ := List.getElem?_eq_some_iff.1 this
  rw [List.drop_eq_getElem_cons h3, h4]
/-- a cell, behind another one -/
def sameA (c d : Ce) : Prop := c.f = d.f ∧ c.k1 = d.k1 ∧ c.n1 = d.n1 ∧ c.k2 = d.k2 ∧ c.n2 = d.n2
instance (c d : Ce) : Decidable (sameA c d) := by unfold sameA; exact inferInstance
def okC (p : Ce) (c : Ce) : Bool := if c.w = 2 then decide (c.r = p.r) && decide (sameA c p) else attrP c && (validP c.r && decide (ofP c.r = if c.w = 1 then 2 else 1))
def okF (l : List Ce) (i : Nat) : Bool := match l[i]? with | some c => okC (l.getD (i - 1) blankC) c | none => true
def rightP (l : List Ce) : Bool := wholeP (ws l) && (List.range l.length).all (okF l)
theorem all_range (n : Nat) (f : Nat → Bool) : (List.range n).all f = true ↔ ∀ i < n, f i = true := by simp
theorem whole_first : ∀ {t : List Int}, wholeP t = true → t.head? ≠ some 2
  | [], _ => by simp
  | w :: t, h => by
    intro e
    simp only [List.head?_cons, Option.some.injEq] at e
    subst e
    unfold wholeP at h
    simp at h
    cases t <;> simp at h
theorem seq5 (c d : Ce) : seqV [1, 1, 1, 1, 1] true (.agg c.at) (.agg d.at) = some (.bool (!decide (sameA c d))) := by
  simp only [seqV, ROp.run, Opd.ev, Ce.at, List.length_cons, List.length_nil, Nat.zero_add, Nat.reduceAdd, and_self, if_true, cellsEq, sameA]
  by_cases h1 : c.f = d.f <;> by_cases h2 : c.k1 = d.k1 <;> by_cases h3 : c.n1 = d.n1 <;> by_cases h4 : c.k2 = d.k2 <;> by_cases h5 : c.n2 = d.n2 <;> simp [h1, h2, h3, h4, h5]
section
variable {Q : Prog} (pq : PaQ Q) {H : AHeap}
include pq
set_option maxHeartbeats 4000000 in
theorem of_spec (ht : hasTabs H TT = true) (r : Int) : FnTo Q 39 [.int .i32 r] H (fun v H' => v = .int .i64 (ofP r) ∧ H' = H) := by
  refine fn_wp (pq.ho 39 rfl _) pq.q39 (by simp [A39]) ?_
  simp only [A39, SX, reduceCtorEq, Nat.reduceEqDiff, ↓reduceIte, Int.reduceEq, Int.reduceLT, Int.reduceLE, Nat.reduceAdd]
  obtain ⟨I, hI⟩ : ∃ I : Nat → Env → AHeap → Prop, ∀ m e H', I m e H' ↔ (H' = H ∧ ∃ f lo hi : Nat, m = hi - lo ∧ hi ≤ 26 ∧ hi - lo ≤ f ∧ ofF f r lo hi = ofP r ∧ Env.get e 0 = .int .i32 r ∧ Env.get e 3 = .int .i64 lo ∧ Env.get e 4 = .int .i64 hi) := ⟨_, fun _ _ _ => Iff.rfl⟩
  refine loop_by I 26 ?_ ?_
  · exact (hI _ _ _).2 ⟨rfl, 26, 0, 26, rfl, by omega, by omega, rfl, (by first | (simp only [SG, reduceCtorEq, Nat.reduceEqDiff, ↓reduceIte] <;> rfl) | rfl), (by first | (simp only [SG, reduceCtorEq, Nat.reduceEqDiff, ↓reduceIte] <;> rfl) | rfl), (by first | (simp only [SG, reduceCtorEq, Nat.reduceEqDiff, ↓reduceIte] <;> rfl) | rfl)⟩
  · intro m e H' hinv
    obtain ⟨hx, f, lo, hi, rfl, h26, hf, hof, e0, e3, e4⟩ := (hI _ _ _).1 hinv
    subst hx
    by_cases c : lo < hi
    · have d : decide ((lo : Int) < (hi : Int)) = true := decide_eq_true (by omega)
      obtain ⟨f, rfl⟩ : ∃ g, f = g + 1 := ⟨f - 1, by omega⟩
      unfold ofF at hof
      rw [if_pos c] at hof
      obtain ⟨mid, hm⟩ : ∃ mid, (lo + hi) / 2 = mid := ⟨_, rfl⟩
      have hm1 : lo ≤ mid ∧ mid < hi := by omega
      have w1 : IntKind.wrap .i64 ((lo : Int) + (hi : Int)) = ((lo + hi : Nat) : Int) := by rw [wrapI64 (by omega) (by omega)]; rfl
      have q1 : binV .quo (.int .i64 ((lo + hi : Nat) : Int)) (.int .i64 2) = some (.int .i64 (mid : Int)) := by
        have e : binV .quo (.int .i64 ((lo + hi : Nat) : Int)) (.int .i64 2) = some (.int .i64 (IntKind.wrap .i64 (((lo + hi : Nat) : Int).tdiv 2))) := by simp [binV, intBin]
        have e2 : (((lo + hi : Nat) : Int)).tdiv 2 = (((lo + hi) / 2 : Nat) : Int) := rfl
        rw [e, e2, hm, wrapI64 (by omega) (by omega)]
      rw [hm] at hof
      have i1 : idxAV 26 2 (.ptr 0 0) (.int .i64 (mid : Int)) = some (.ptr 0 (0 + mid * 2)) := ixA (by omega) _
      have i2 : idxAV 2 1 (.ptr 0 (0 + mid * 2)) (.int .i64 0) = some (.ptr 0 (0 + mid * 2 + 0 * 1)) := ixA (i := 0) (by omega) _
      have i3 : idxAV 2 1 (.ptr 0 (0 + mid * 2)) (.int .i64 1) = some (.ptr 0 (0 + mid * 2 + 1 * 1)) := ixA (i := 1) (by omega) _
      have n1 : 0 + mid * 2 + 0 * 1 = 2 * mid := by omega
      have n2 : 0 + mid * 2 + 1 * 1 = 2 * mid + 1 := by omega
      rw [n1] at i2
      rw [n2] at i3
      rw [Nat.zero_add] at i1 i2 i3
      have l1 := tb_at ht (i := 2 * mid) (by omega)
      have l2 := tb_at ht (i := 2 * mid + 1) (by omega)
      by_cases c1 : r < zbounds.getD (2 * mid) 0
      · have d1 : decide (r < zbounds.getD (2 * mid) 0) = true := decide_eq_true c1
        rw [if_pos c1] at hof
        simp only [e0, e3, e4, d, w1, q1, i1, i2, l1, d1, SX, reduceCtorEq, Nat.reduceEqDiff, ↓reduceIte, Int.reduceEq, Int.reduceLT, Int.reduceLE, Nat.reduceAdd]
        refine ⟨mid - lo, by omega, (hI _ _ _).2 ⟨rfl, f, lo, mid, rfl, by omega, by omega, hof, (by simp only [SG, reduceCtorEq, Nat.reduceEqDiff, ↓reduceIte, e0] <;> rfl), (by simp only [SG, reduceCtorEq, Nat.reduceEqDiff, ↓reduceIte, e3] <;> rfl), (by first | (simp only [SG, reduceCtorEq, Nat.reduceEqDiff, ↓reduceIte] <;> rfl) | rfl)⟩⟩
      · have d1 : decide (r < zbounds.getD (2 * mid) 0) = false := decide_eq_false c1
        rw [if_neg c1] at hof
        by_cases c2 : zbounds.getD (2 * mid + 1) 0 < r
        · have d2 : decide (zbounds.getD (2 * mid + 1) 0 < r) = true := decide_eq_true c2
          rw [if_pos c2] at hof
          have w2 : IntKind.wrap .i64 ((mid : Int) + 1) = ((mid + 1 : Nat) : Int) := by rw [wrapI64 (by omega) (by omega)]; rfl
          simp only [e0, e3, e4, d, w1, q1, i1, i2, i3, l1, l2, d1, d2, w2, SX, reduceCtorEq, Nat.reduceEqDiff, ↓reduceIte, Int.reduceEq, Int.reduceLT, Int.reduceLE, Nat.reduceAdd]
          refine ⟨hi - (mid + 1), by omega, (hI _ _ _).2 ⟨rfl, f, mid + 1, hi, rfl, by omega, by omega, hof, (by simp only [SG, reduceCtorEq, Nat.reduceEqDiff, ↓reduceIte, e0] <;> rfl), (by first | (simp only [SG, reduceCtorEq, Nat.reduceEqDiff, ↓reduceIte] <;> rfl) | rfl), (by simp only [SG, reduceCtorEq, Nat.reduceEqDiff, ↓reduceIte, e4] <;> rfl)⟩⟩
        · have d2 : decide (zbounds.getD (2 * mid + 1) 0 < r) = false := decide_eq_false c2
          rw [if_neg c2] at hof
          have sh : binV .shr (.int .i64 33948543) (.int .i64 (mid : Int)) = some (.int .i64 ((33948543 : Int).fdiv (2 ^ (min mid 64)))) := by
            simp only [binV, shiftBin, Int.toNat_natCast]
            rw [if_neg (by omega)]; rfl
          have an : ∀ a b : Int, binV .and (.int .i64 a) (.int .i64 b) = some (.int .i64 (IntKind.wrap .i64 (((BitVec.ofInt 64 a &&& BitVec.ofInt 64 b).toNat : Nat) : Int))) := fun a b => rfl
          unfold ofB at hof
          by_cases c3 : IntKind.wrap .i64 (((BitVec.ofInt 64 ((33948543 : Int).fdiv (2 ^ (min mid 64))) &&& BitVec.ofInt 64 1).toNat : Nat) : Int) = 1
          · have d3 : decide (IntKind.wrap .i64 (((BitVec.ofInt 64 ((33948543 : Int).fdiv (2 ^ (min mid 64))) &&& BitVec.ofInt 64 1).toNat : Nat) : Int) = 1) = true := decide_eq_true c3
            rw [if_pos c3] at hof
            have hof := hof.symm
            simp only [e0, e3, e4, d, w1, q1, i1, i2, i3, l1, l2, d1, d2, sh, an, d3, hof, SX, reduceCtorEq, Nat.reduceEqDiff, ↓reduceIte, Int.reduceEq, Int.reduceLT, Int.reduceLE, Nat.reduceAdd]
          · have d3 : decide (IntKind.wrap .i64 (((BitVec.ofInt 64 ((33948543 : Int).fdiv (2 ^ (min mid 64))) &&& BitVec.ofInt 64 1).toNat : Nat) : Int) = 1) = false := decide_eq_false c3
            rw [if_neg c3] at hof
            have hof := hof.symm
            simp only [e0, e3, e4, d, w1, q1, i1, i2, i3, l1, l2, d1, d2, sh, an, d3, hof, SX, reduceCtorEq, Nat.reduceEqDiff, ↓reduceIte, Int.reduceEq, Int.reduceLT, Int.reduceLE, Nat.reduceAdd]
    · have d : decide ((lo : Int) < (hi : Int)) = false := decide_eq_false (by omega)
      rw [ofF_end f r c] at hof
      have hof := hof.symm
      simp only [e0, e3, e4, d, hof, SX, reduceCtorEq, Nat.reduceEqDiff, ↓reduceIte, Int.reduceEq, Int.reduceLT, Int.reduceLE, Nat.reduceAdd]
set_option maxHeartbeats 4000000 in
theorem color_spec (hf : Fr H) (k n : Int) : FnTo Q 50 [.agg [.int .u8 k, .int .u32 n]] H (fun r H' => r = .bool (colP k n) ∧ Gr H H') := by
  refine fn_wp (pq.ho 50 rfl _) pq.q50 (by simp [A50]) ?_
  obtain ⟨H1, s1, g1, k1⟩ := (Hp.nil H hf).make [.int .u8 k, .int .u32 n] 2
  have bx : boxV (.agg [.int .u8 k, .int .u32 n]) = some (.row ⟨[.int .u8 k, .int .u32 n], 0, false, true, 0⟩, .ptr) := rfl
  have l0 := g1.load (List.mem_cons_self ..) (o := 0) rfl
  have l1 := g1.load (List.mem_cons_self ..) (o := 1) rfl
  have g := g1.gr k1
  unfold colP
  by_cases c0 : k = 0
  · have d0 := decide_eq_true c0
    have d1 : decide (k = 1) = false := decide_eq_false (by omega)
    have d2 : decide (k = 2) = false := decide_eq_false (by omega)
    by_cases e0 : n = 0
    · have f0 := decide_eq_true e0
      simp only [A50, bx, s1, l0, l1, d0, d1, d2, f0, Bool.true_and, Bool.false_and, Bool.or_true, Bool.or_false, Bool.true_or, Bool.false_or, wantV_undef, SX, reduceCtorEq, Nat.reduceEqDiff, ↓reduceIte, Int.reduceEq, Int.reduceLT, Int.reduceLE, Nat.reduceAdd]
      exact g
    · have f0 := decide_eq_false e0
      simp only [A50, bx, s1, l0, l1, d0, d1, d2, f0, Bool.true_and, Bool.false_and, Bool.or_true, Bool.or_false, Bool.true_or, Bool.false_or, wantV_undef, SX, reduceCtorEq, Nat.reduceEqDiff, ↓reduceIte, Int.reduceEq, Int.reduceLT, Int.reduceLE, Nat.reduceAdd]
      exact g
  · have d0 := decide_eq_false c0
    by_cases c1 : k = 1
    · have d1 := decide_eq_true c1
      have d2 : decide (k = 2) = false := decide_eq_false (by omega)
      by_cases e1 : n ≤ 255
      · have f1 := decide_eq_true e1
        simp only [A50, bx, s1, l0, l1, d0, d1, d2, f1, Bool.true_and, Bool.false_and, Bool.or_true, Bool.or_false, Bool.true_or, Bool.false_or, wantV_undef, SX, reduceCtorEq, Nat.reduceEqDiff, ↓reduceIte, Int.reduceEq, Int.reduceLT, Int.reduceLE, Nat.reduceAdd]
        exact g
      · have f1 := decide_eq_false e1
        simp only [A50, bx, s1, l0, l1, d0, d1, d2, f1, Bool.true_and, Bool.false_and, Bool.or_true, Bool.or_false, Bool.true_or, Bool.false_or, wantV_undef, SX, reduceCtorEq, Nat.reduceEqDiff, ↓reduceIte, Int.reduceEq, Int.reduceLT, Int.reduceLE, Nat.reduceAdd]
        exact g
    · have d1 := decide_eq_false c1
      by_cases c2 : k = 2
      · have d2 := decide_eq_true c2
        by_cases e2 : n < 16777216
        · have f2 := decide_eq_true e2
          simp only [A50, bx, s1, l0, l1, d0, d1, d2, f2, Bool.true_and, Bool.false_and, Bool.or_true, Bool.or_false, Bool.true_or, Bool.false_or, wantV_undef, SX, reduceCtorEq, Nat.reduceEqDiff, ↓reduceIte, Int.reduceEq, Int.reduceLT, Int.reduceLE, Nat.reduceAdd]
          exact g
        · have f2 := decide_eq_false e2
          simp only [A50, bx, s1, l0, l1, d0, d1, d2, f2, Bool.true_and, Bool.false_and, Bool.or_true, Bool.or_false, Bool.true_or, Bool.false_or, wantV_undef, SX, reduceCtorEq, Nat.reduceEqDiff, ↓reduceIte, Int.reduceEq, Int.reduceLT, Int.reduceLE, Nat.reduceAdd]
          exact g
      · have d2 := decide_eq_false c2
        simp only [A50, bx, s1, l0, l1, d0, d1, d2, Bool.true_and, Bool.false_and, Bool.or_true, Bool.or_false, Bool.true_or, Bool.false_or, wantV_undef, SX, reduceCtorEq, Nat.reduceEqDiff, ↓reduceIte, Int.reduceEq, Int.reduceLT, Int.reduceLE, Nat.reduceAdd]
        exact g
set_option maxHeartbeats 4000000 in
theorem attr_spec (hf : Fr H) (c : Ce) : FnTo Q 37 [.agg c.at] H (fun r H' => r = .bool (attrP c) ∧ Gr H H') := by
  refine fn_wp (pq.ho 37 rfl _) pq.q37 (by simp [A37]) ?_
  obtain ⟨H1, s1, g1, k1⟩ := (Hp.nil H hf).make c.at 5
  have ha : c.at.all AV.one = true := rfl
  have lf : ∀ {H' : AHeap}, Hp H.next H' [⟨H.next, 5, c.at⟩] → loadV H' Option.none (.ptr H.next 0) = some (.int .u16 c.f) ∧ loadV H' (some 2) (.ptr H.next 1) = some (.agg [.int .u8 c.k1, .int .u32 c.n1]) ∧ loadV H' (some 2) (.ptr H.next 3) = some (.agg [.int .u8 c.k2, .int .u32 c.n2]) := fun g =>
    ⟨g.load (List.mem_cons_self ..) (o := 0) rfl, g.loadO (a := [.int .u16 c.f]) (x := [.int .u8 c.k1, .int .u32 c.n1]) (c := [.int .u8 c.k2, .int .u32 c.n2]) (k := 5) (List.mem_cons_self ..) rfl rfl, g.loadO (a := [.int .u16 c.f, .int .u8 c.k1, .int .u32 c.n1]) (x := [.int .u8 c.k2, .int .u32 c.n2]) (c := []) (k := 5) (List.mem_cons_self ..) rfl rfl⟩
  obtain ⟨l0, l1, l3⟩ := lf g1
  have n1 := g1.gr k1
  unfold attrP
  by_cases c0 : c.f ≤ 255
  · have d0 := decide_eq_true c0
    simp only [A37, boxV_agg ha, s1, l0, l1, d0, Bool.true_and, wantV_undef, SX, reduceCtorEq, Nat.reduceEqDiff, ↓reduceIte, Int.reduceEq, Int.reduceLT, Int.reduceLE, Nat.reduceAdd]
    refine (color_spec pq g1.fr c.k1 c.n1).mono ?_
    rintro _ H2 ⟨rfl, g2⟩
    have g3 := g1.keep g2.keep g2.next g2.fr
    obtain ⟨_, _, l3⟩ := lf g3
    obtain ⟨b1, hb1⟩ : ∃ b, colP c.k1 c.n1 = b := ⟨_, rfl⟩
    rw [hb1]
    cases b1
    · simp only [Bool.false_and, wantV_undef, SX, reduceCtorEq, Nat.reduceEqDiff, ↓reduceIte, Int.reduceEq, Int.reduceLT, Int.reduceLE, Nat.reduceAdd]
      exact n1.trans g2
    · simp only [l3, Bool.true_and, wantV_undef, SX, reduceCtorEq, Nat.reduceEqDiff, ↓reduceIte, Int.reduceEq, Int.reduceLT, Int.reduceLE, Nat.reduceAdd]
      refine (color_spec pq g2.fr c.k2 c.n2).mono ?_
      rintro _ H4 ⟨rfl, g4⟩
      simp only [SX, reduceCtorEq, Nat.reduceEqDiff, ↓reduceIte, Int.reduceEq, Int.reduceLT, Int.reduceLE, Nat.reduceAdd]
      exact n1.trans (g2.trans g4)
  · have d0 := decide_eq_false c0
    simp only [A37, boxV_agg ha, s1, l0, l1, d0, Bool.false_and, wantV_undef, SX, reduceCtorEq, Nat.reduceEqDiff, ↓reduceIte, Int.reduceEq, Int.reduceLT, Int.reduceLE, Nat.reduceAdd]
    exact n1
set_option maxHeartbeats 4000000 in
theorem valid_spec (r : Int) : FnTo Q 38 [.int .i32 r] H (fun v H' => v = .bool (validP r) ∧ H' = H) := by
  refine fn_wp (pq.ho 38 rfl _) pq.q38 (by simp [A38]) ?_
  unfold validP
  by_cases c0 : 0 ≤ r
  · have d0 := decide_eq_true c0
    by_cases c1 : r < 55296
    · have d1 := decide_eq_true c1
      simp only [A38, d0, d1, Bool.true_and, Bool.true_or, wantV_undef, SX, reduceCtorEq, Nat.reduceEqDiff, ↓reduceIte, Int.reduceEq, Int.reduceLT, Int.reduceLE, Nat.reduceAdd]
    · have d1 := decide_eq_false c1
      by_cases c2 : 57343 < r
      · have d2 := decide_eq_true c2
        by_cases c3 : r ≤ 1114111
        · have d3 := decide_eq_true c3
          simp only [A38, d0, d1, d2, d3, Bool.true_and, Bool.and_false, Bool.false_or, wantV_undef, SX, reduceCtorEq, Nat.reduceEqDiff, ↓reduceIte, Int.reduceEq, Int.reduceLT, Int.reduceLE, Nat.reduceAdd]
        · have d3 := decide_eq_false c3
          simp only [A38, d0, d1, d2, d3, Bool.true_and, Bool.and_false, Bool.false_or, wantV_undef, SX, reduceCtorEq, Nat.reduceEqDiff, ↓reduceIte, Int.reduceEq, Int.reduceLT, Int.reduceLE, Nat.reduceAdd]
      · have d2 := decide_eq_false c2
        simp only [A38, d0, d1, d2, Bool.true_and, Bool.false_and, Bool.and_false, Bool.false_or, wantV_undef, SX, reduceCtorEq, Nat.reduceEqDiff, ↓reduceIte, Int.reduceEq, Int.reduceLT, Int.reduceLE, Nat.reduceAdd]
  · have d0 := decide_eq_false c0
    have d2 : decide (57343 < r) = false := decide_eq_false (by omega)
    simp only [A38, d0, d2, Bool.false_and, Bool.and_false, Bool.false_or, wantV_undef, SX, reduceCtorEq, Nat.reduceEqDiff, ↓reduceIte, Int.reduceEq, Int.reduceLT, Int.reduceLE, Nat.reduceAdd]
set_option maxHeartbeats 4000000 in
theorem whole_spec {v : AV} {l : List Ce} (h : RowS H v l) (hl : l.length ≤ 1000000) : FnTo Q 36 [v] H (fun r H' => r = .bool (wholeP (ws l)) ∧ H' = H) := by
  refine fn_wp (pq.ho 36 rfl _) pq.q36 (by simp [A36]) ?_
  simp only [A36, SX, reduceCtorEq, Nat.reduceEqDiff, ↓reduceIte, Int.reduceEq, Int.reduceLT, Int.reduceLE, Nat.reduceAdd]
  obtain ⟨I, hI⟩ : ∃ I : Nat → Env → AHeap → Prop, ∀ m e H', I m e H' ↔ (H' = H ∧ ∃ i : Nat, m = l.length - i ∧ i ≤ l.length ∧ wholeP (ws l) = wholeP ((ws l).drop i) ∧ Env.get e 0 = v ∧ Env.get e 3 = .int .i64 i) := ⟨_, fun _ _ _ => Iff.rfl⟩
  refine loop_by I l.length ?_ ?_
  · exact (hI _ _ _).2 ⟨rfl, 0, rfl, by omega, rfl, (by first | (simp only [SG, reduceCtorEq, Nat.reduceEqDiff, ↓reduceIte] <;> rfl) | rfl), (by first | (simp only [SG, reduceCtorEq, Nat.reduceEqDiff, ↓reduceIte] <;> rfl) | rfl)⟩
  · intro m e H' hinv
    obtain ⟨rfl, i, rfl, hi, hw, e0, e3⟩ := (hI _ _ _).1 hinv
    have ln := h.len H'
    by_cases d : (i : Int) < l.length
    · obtain ⟨c, hc⟩ : ∃ c, l[i]? = some c := ⟨_, List.getElem?_eq_getElem (by omega)⟩
      obtain ⟨b, p, ix, _, _, lw, _⟩ := h.cell hc .i64
      have w1 : IntKind.wrap .i64 ((i : Int) + 1) = ((i + 1 : Nat) : Int) := wrapNat (n := i + 1) (by omega)
      rw [ws_at hc, wholeP_cons] at hw
      by_cases c0 : c.w = 0
      · have d0 := decide_eq_true c0
        rw [if_pos c0] at hw
        simp only [e0, e3, ln, d, ix, lw, d0, w1, SX, reduceCtorEq, Nat.reduceEqDiff, ↓reduceIte, Int.reduceEq, Int.reduceLT, Int.reduceLE, Nat.reduceAdd]
        exact ⟨l.length - (i + 1), by omega, (hI _ _ _).2 ⟨rfl, i + 1, rfl, by omega, hw, (by simp only [SG, reduceCtorEq, Nat.reduceEqDiff, ↓reduceIte, e0] <;> rfl), (by first | (simp only [SG, reduceCtorEq, Nat.reduceEqDiff, ↓reduceIte] <;> rfl) | rfl)⟩⟩
      · have d0 := decide_eq_false c0
        rw [if_neg c0] at hw
        by_cases c1 : c.w = 1
        · have d1 := decide_eq_true c1
          by_cases dn : ((i + 1 : Nat) : Int) < l.length
          · obtain ⟨c', hc'⟩ : ∃ c, l[i + 1]? = some c := ⟨_, List.getElem?_eq_getElem (by omega)⟩
            obtain ⟨b', p', ix', _, _, lw', _⟩ := h.cell hc' .i64
            rw [ws_at hc'] at hw
            simp only at hw
            by_cases c2 : c'.w = 2
            · have d2 := decide_eq_true c2
              rw [if_pos ⟨c1, c2⟩] at hw
              have w2 : IntKind.wrap .i64 (((i + 1 : Nat) : Int) + 1) = ((i + 2 : Nat) : Int) := wrapNat (n := i + 2) (by omega)
              simp only [e0, e3, ln, d, ix, lw, d0, d1, w1, dn, ix', lw', d2, w2, wantV_undef, SX, reduceCtorEq, Nat.reduceEqDiff, ↓reduceIte, Int.reduceEq, Int.reduceLT, Int.reduceLE, Nat.reduceAdd]
              exact ⟨l.length - (i + 2), by omega, (hI _ _ _).2 ⟨rfl, i + 2, rfl, by omega, hw, (by simp only [SG, reduceCtorEq, Nat.reduceEqDiff, ↓reduceIte, e0] <;> rfl), (by first | (simp only [SG, reduceCtorEq, Nat.reduceEqDiff, ↓reduceIte] <;> rfl) | rfl)⟩⟩
            · have d2 := decide_eq_false c2
              rw [if_neg (fun hh => c2 hh.2)] at hw
              simp only [e0, e3, ln, d, ix, lw, d0, d1, w1, dn, ix', lw', d2, hw, wantV_undef, SX, reduceCtorEq, Nat.reduceEqDiff, ↓reduceIte, Int.reduceEq, Int.reduceLT, Int.reduceLE, Nat.reduceAdd]
          · have : (ws l).drop (i + 1) = [] := List.drop_eq_nil_of_le (by rw [ws_len]; omega)
            rw [this] at hw
            simp only at hw
            simp only [e0, e3, ln, d, ix, lw, d0, d1, w1, dn, hw, wantV_undef, SX, reduceCtorEq, Nat.reduceEqDiff, ↓reduceIte, Int.reduceEq, Int.reduceLT, Int.reduceLE, Nat.reduceAdd]
        · have d1 := decide_eq_false c1
          have hw' : wholeP (ws l) = false := by
            rw [hw]
            cases (ws l).drop (i + 1) with
            | nil => rfl
            | cons a t => simp only; rw [if_neg (fun hh => c1 hh.1)]
          simp only [e0, e3, ln, d, ix, lw, d0, d1, hw', wantV_undef, SX, reduceCtorEq, Nat.reduceEqDiff, ↓reduceIte, Int.reduceEq, Int.reduceLT, Int.reduceLE, Nat.reduceAdd]
    · have : (ws l).drop i = [] := List.drop_eq_nil_of_le (by rw [ws_len]; omega)
      rw [this] at hw
      have hw' : wholeP (ws l) = true := hw
      simp only [e0, e3, ln, d, hw', SX, reduceCtorEq, Nat.reduceEqDiff, ↓reduceIte, Int.reduceEq, Int.reduceLT, Int.reduceLE, Nat.reduceAdd]
end
def mat (w h : Int) (v : AV) (x y : Int) (s : Bool) : List AV := [.int .i64 w, .int .i64 h, v, .int .i64 x, .int .i64 y, .bool s]
theorem RowS.one {H : AHeap} {v : AV} {l : List Ce} (h : RowS H v l) : v.one = true := by
  rcases h with ⟨rfl, _⟩ | ⟨b, o, cap, B, rfl, _⟩ <;> rfl
theorem mat_one {w h x y : Int} {v : AV} {s : Bool} (hv : v.one = true) : (mat w h v x y s).all AV.one = true := by
  simp only [mat, List.all_cons, hv, List.all_nil]
  rfl
def lineP (l : List Ce) (w y : Nat) : List Ce := (l.take ((y + 1) * w)).drop (y * w)
def inP (w h x y : Int) : Bool := decide (0 ≤ x) && decide (x < w) && decide (0 ≤ y) && decide (y < h)
def linesP (w h : Nat) (l : List Ce) : Bool := (List.range h).all fun j => rightP (lineP l w j)
def rightM (w h x y : Int) (l : List Ce) : Bool := sizeP w h && decide ((l.length : Int) = w * h) && inP w h x y && linesP w.toNat h.toNat l
theorem sizeP_true {w h : Int} (c : sizeP w h = true) : 1 ≤ w ∧ w ≤ 400 ∧ 1 ≤ h ∧ h ≤ 400 := by
  unfold sizeP at c
  simp only [Bool.and_eq_true, decide_eq_true_eq] at c
  omega
theorem neqI (a b : Int) : (!decide (a = b)) = decide (a ≠ b) := by by_cases h : a = b <;> simp [h]
section
variable {Q : Prog} (pq : PaQ Q) {H : AHeap}
include pq
set_option maxHeartbeats 16000000 in
theorem right_spec {v : AV} {l : List Ce} (ht : hasTabs H TT = true) (hf : Fr H) (h : RowS H v l) (hl : l.length ≤ 1000000) : FnTo Q 18 [v] H (fun r H' => r = .bool (rightP l) ∧ Gr H H') := by
  refine fn_wp (pq.ho 18 rfl _) pq.q18 (by simp [A18]) ?_
  simp only [A18, SX, reduceCtorEq, Nat.reduceEqDiff, ↓reduceIte, Int.reduceEq, Int.reduceLT, Int.reduceLE, Nat.reduceAdd]
  refine (whole_spec pq h hl).mono ?_
  rintro _ H' ⟨rfl, hH⟩
  rw [hH]
  clear hH H'
  have ln := h.len H
  obtain ⟨wb, hwb⟩ : ∃ wb, wholeP (ws l) = wb := ⟨_, rfl⟩
  cases wb with
  | false =>
    have e : rightP l = false := by unfold rightP; rw [hwb]; rfl
    simp only [hwb, e, SX, reduceCtorEq, Nat.reduceEqDiff, ↓reduceIte, Int.reduceEq, Int.reduceLT, Int.reduceLE, Nat.reduceAdd]
    exact Gr.refl hf
  | true =>
    simp only [hwb, ln, SX, reduceCtorEq, Nat.reduceEqDiff, ↓reduceIte, Int.reduceEq, Int.reduceLT, Int.reduceLE, Nat.reduceAdd]
    have hrp : rightP l = (List.range l.length).all (okF l) := by unfold rightP; rw [hwb]; rfl
    obtain ⟨I, hI⟩ : ∃ I : Nat → Env → AHeap → Prop, ∀ m e H', I m e H' ↔ (∃ i : Nat, m = l.length - i ∧ i ≤ l.length ∧ Gr H H' ∧ (∀ j < i, okF l j = true) ∧ Env.get e 0 = v ∧ Env.get e 9 = v ∧ Env.get e 10 = .int .i64 l.length ∧ Env.get e 11 = .int .i64 i) := ⟨_, fun _ _ _ => Iff.rfl⟩
    refine loop_by I l.length ?_ ?_
    · exact (hI _ _ _).2 ⟨0, rfl, by omega, Gr.refl hf, fun j hj => by omega, (by first | (simp only [SG, reduceCtorEq, Nat.reduceEqDiff, ↓reduceIte] <;> rfl) | rfl), (by first | (simp only [SG, reduceCtorEq, Nat.reduceEqDiff, ↓reduceIte] <;> rfl) | rfl), (by first | (simp only [SG, reduceCtorEq, Nat.reduceEqDiff, ↓reduceIte] <;> rfl) | rfl), (by first | (simp only [SG, reduceCtorEq, Nat.reduceEqDiff, ↓reduceIte] <;> rfl) | rfl)⟩
    · intro m e H1 hinv
      obtain ⟨i, rfl, hi, g1, hok, e0, e9, e10, e11⟩ := (hI _ _ _).1 hinv
      by_cases d : (i : Int) < l.length
      · obtain ⟨c, hc⟩ : ∃ c, l[i]? = some c := ⟨_, List.getElem?_eq_getElem (by omega)⟩
        have h1 := h.grow hf g1
        obtain ⟨b, p, ix, l7, _, _, _⟩ := h1.cell hc .i64
        have w1 : IntKind.wrap .i64 ((i : Int) + 1) = ((i + 1 : Nat) : Int) := wrapNat (n := i + 1) (by omega)
        obtain ⟨H2, s2, g2, k2⟩ := (Hp.nil H1 g1.fr).make [.int .i32 0, .int .u8 0, .int .u16 0, .int .u8 0, .int .u32 0, .int .u8 0, .int .u32 0] 7
        obtain ⟨t, ht'⟩ : ∃ t, H1.next = t := ⟨_, rfl⟩
        obtain ⟨H3, s3, g3, k3, _⟩ := g2.storeN (n := 7) (new := c.cs) rfl rfl rfl
        rw [ht'] at s3
        have gg : Gr H H3 := g1.trans (g3.gr (k2.trans k3))
        have h3 := h.grow hf gg
        have lr : ∀ {H' : AHeap}, Gr H3 H' → loadV H' Option.none (.ptr t 0) = some (.int .i32 c.r) ∧ loadV H' Option.none (.ptr t 1) = some (.int .u8 c.w) ∧ loadV H' (some 5) (.ptr t 2) = some (.agg c.at) := fun {H'} g => by
          have g' := g3.keep g.keep g.next g.fr
          rw [ht'] at g'
          exact ⟨g'.load (List.mem_cons_self ..) (o := 0) rfl, g'.load (List.mem_cons_self ..) (o := 1) rfl, g'.loadO (a := [.int .i32 c.r, .int .u8 c.w]) (x := c.at) (c := []) (k := 7) (by simp [Ce.cs]) rfl rfl⟩
        obtain ⟨lr0, lr1, lr2⟩ := lr (Gr.refl g3.fr)
        have okE : okF l i = okC (l.getD (i - 1) blankC) c := by unfold okF; rw [hc]
        have bad : okF l i = false → rightP l = false := fun hh => by
          rw [hrp]
          cases hq : (List.range l.length).all (okF l) with
          | false => rfl
          | true => rw [(all_range _ _).1 hq i (by omega)] at hh; cases hh
        have next : okF l i = true → ∀ (e' : Env) (H' : AHeap), Gr H3 H' → Env.get e' 0 = v → Env.get e' 9 = v → Env.get e' 10 = .int .i64 l.length → Env.get e' 11 = .int .i64 ((i + 1 : Nat) : Int) → ∃ m', m' < l.length - i ∧ I m' e' H' := fun hh e' H' g a0 a9 a10 a11 =>
          ⟨l.length - (i + 1), by omega, (hI _ _ _).2 ⟨i + 1, rfl, by omega, gg.trans g, fun j hj => by
            by_cases hji : j = i
            · rw [hji]; exact hh
            · exact hok j (by omega), a0, a9, a10, a11⟩⟩
        by_cases c2 : c.w = 2
        · have d2 := decide_eq_true c2
          have d1 : decide (c.w = 1) = false := decide_eq_false (by omega)
          have i0 : 0 < i := Nat.pos_of_ne_zero fun hz => by
            subst hz
            refine whole_first hwb ?_
            have := ws_at hc
            rw [List.drop_zero] at this
            rw [this]; simp [c2]
          obtain ⟨q, hq⟩ : ∃ q, l[i - 1]? = some q := ⟨_, List.getElem?_eq_getElem (by omega)⟩
          obtain ⟨b', p', ix', _, lq, _, lqa⟩ := h3.cell hq .i64
          have wm : IntKind.wrap .i64 ((i : Int) - 1) = ((i - 1 : Nat) : Int) := by rw [wrapI64 (by omega) (by omega)]; omega
          have hgd : l.getD (i - 1) blankC = q := by rw [List.getD_eq_getElem?_getD, hq]; rfl
          rw [hgd] at okE
          unfold okC at okE
          rw [if_pos c2] at okE
          by_cases cr : c.r = q.r
          · have dr := decide_eq_true cr
            have sq := seq5 c q
            by_cases ca : sameA c q
            · have da := decide_eq_true ca
              rw [dr, da] at okE
              rw [da] at sq
              simp only [A18_sw, e0, e9, e10, e11, d, ix, l7, run_allocL, s2, ht', s3, lr0, lr1, lr2, d1, d2, wm, ix', lq, lqa, dr, run_seq, sq, w1, wantV_undef, SX, reduceCtorEq, Nat.reduceEqDiff, ↓reduceIte, Int.reduceEq, Int.reduceLT, Int.reduceLE, Nat.reduceAdd]
              exact next okE _ _ (Gr.refl g3.fr) (by simp only [SG, reduceCtorEq, Nat.reduceEqDiff, ↓reduceIte, e0] <;> rfl) (by simp only [SG, reduceCtorEq, Nat.reduceEqDiff, ↓reduceIte, e9] <;> rfl) (by simp only [SG, reduceCtorEq, Nat.reduceEqDiff, ↓reduceIte, e10] <;> rfl) (by first | (simp only [SG, reduceCtorEq, Nat.reduceEqDiff, ↓reduceIte] <;> rfl) | rfl)
            · have da := decide_eq_false ca
              rw [dr, da] at okE
              rw [da] at sq
              have e2 := bad okE
              simp only [A18_sw, e0, e9, e10, e11, d, ix, l7, run_allocL, s2, ht', s3, lr0, lr1, lr2, d1, d2, wm, ix', lq, lqa, dr, run_seq, sq, w1, e2, wantV_undef, SX, reduceCtorEq, Nat.reduceEqDiff, ↓reduceIte, Int.reduceEq, Int.reduceLT, Int.reduceLE, Nat.reduceAdd]
              exact gg
          · have dr := decide_eq_false cr
            rw [dr] at okE
            have e2 := bad okE
            simp only [A18_sw, e0, e9, e10, e11, d, ix, l7, run_allocL, s2, ht', s3, lr0, lr1, lr2, d1, d2, wm, ix', lq, lqa, dr, w1, e2, wantV_undef, SX, reduceCtorEq, Nat.reduceEqDiff, ↓reduceIte, Int.reduceEq, Int.reduceLT, Int.reduceLE, Nat.reduceAdd]
            exact gg
        · have d2 := decide_eq_false c2
          unfold okC at okE
          rw [if_neg c2] at okE
          have rest : ∀ (n : Int) (d1 : decide (c.w = 1) = decide (n = 2)), (n = if c.w = 1 then 2 else 1) → ∀ (e' : Env), Env.get e' 0 = v → Env.get e' 9 = v → Env.get e' 10 = .int .i64 l.length → Env.get e' 11 = .int .i64 i → Env.get e' 4 = .ptr t 0 → Env.get e' 5 = .int .i64 n →
              ∀ K : PostC, (∀ (e2 : Env) (H' : AHeap), rightP l = false → Gr H H' → Env.get e2 2 = .bool false → K .ret e2 H') → (∀ (e2 : Env) (H' : AHeap), okF l i = true → Gr H3 H' → Env.get e2 0 = v → Env.get e2 9 = v → Env.get e2 10 = .int .i64 l.length → Env.get e2 11 = .int .i64 i → K .normal e2 H') → ACode.wp Q A18_sw K e' H3 := by
            intro n d1 hn e' e0 e9 e10 e11 e4 e5 K kf kn
            simp only [A18_sw, e0, e9, e10, e11, e4, e5, lr0, lr1, lr2, d2, wantV_undef, SX, reduceCtorEq, Nat.reduceEqDiff, ↓reduceIte, Int.reduceEq, Int.reduceLT, Int.reduceLE, Nat.reduceAdd]
            refine (attr_spec pq g3.fr c).mono ?_
            rintro _ H4 ⟨rfl, g4⟩
            obtain ⟨lr0, lr1, lr2⟩ := lr g4
            obtain ⟨ab, hab⟩ : ∃ b, attrP c = b := ⟨_, rfl⟩
            rw [hab] at okE
            cases ab with
            | false =>
              rw [hab]
              simp only [wantV_undef, SX, reduceCtorEq, Nat.reduceEqDiff, ↓reduceIte, Int.reduceEq, Int.reduceLT, Int.reduceLE, Nat.reduceAdd]
              exact kf _ _ (bad okE) (gg.trans g4) (by first | (simp only [SG, reduceCtorEq, Nat.reduceEqDiff, ↓reduceIte] <;> rfl) | rfl)
            | true =>
              rw [hab]
              simp only [e0, e9, e10, e11, e4, e5, lr0, lr1, wantV_undef, SX, reduceCtorEq, Nat.reduceEqDiff, ↓reduceIte, Int.reduceEq, Int.reduceLT, Int.reduceLE, Nat.reduceAdd]
              refine (valid_spec pq c.r).mono ?_
              rintro _ H5 ⟨rfl, rfl⟩
              obtain ⟨vb, hvb⟩ : ∃ b, validP c.r = b := ⟨_, rfl⟩
              rw [hvb] at okE
              cases vb with
              | false =>
                rw [hvb]
                simp only [wantV_undef, SX, reduceCtorEq, Nat.reduceEqDiff, ↓reduceIte, Int.reduceEq, Int.reduceLT, Int.reduceLE, Nat.reduceAdd]
                exact kf _ _ (bad okE) (gg.trans g4) (by first | (simp only [SG, reduceCtorEq, Nat.reduceEqDiff, ↓reduceIte] <;> rfl) | rfl)
              | true =>
                rw [hvb]
                simp only [e0, e9, e10, e11, e4, e5, lr0, lr1, wantV_undef, SX, reduceCtorEq, Nat.reduceEqDiff, ↓reduceIte, Int.reduceEq, Int.reduceLT, Int.reduceLE, Nat.reduceAdd]
                refine (of_spec pq (H := H5) ((gg.trans g4).tabs hf ht) c.r).mono ?_
                rintro _ H6 ⟨rfl, rfl⟩
                by_cases cn : ofP c.r = n
                · have dn := decide_eq_true cn
                  have okT : okF l i = true := by rw [okE, ← hn, dn]; rfl
                  simp only [e0, e9, e10, e11, e4, e5, dn, wantV_undef, SX, reduceCtorEq, Nat.reduceEqDiff, ↓reduceIte, Int.reduceEq, Int.reduceLT, Int.reduceLE, Nat.reduceAdd]
                  exact kn _ _ okT g4 (by simp only [SG, reduceCtorEq, Nat.reduceEqDiff, ↓reduceIte, e0] <;> rfl) (by simp only [SG, reduceCtorEq, Nat.reduceEqDiff, ↓reduceIte, e9] <;> rfl) (by simp only [SG, reduceCtorEq, Nat.reduceEqDiff, ↓reduceIte, e10] <;> rfl) (by simp only [SG, reduceCtorEq, Nat.reduceEqDiff, ↓reduceIte, e11] <;> rfl)
                · have dn := decide_eq_false cn
                  have okT : okF l i = false := by rw [okE, ← hn, dn]; rfl
                  simp only [e0, e9, e10, e11, e4, e5, dn, wantV_undef, SX, reduceCtorEq, Nat.reduceEqDiff, ↓reduceIte, Int.reduceEq, Int.reduceLT, Int.reduceLE, Nat.reduceAdd]
                  exact kf _ _ (bad okT) (gg.trans g4) (by first | (simp only [SG, reduceCtorEq, Nat.reduceEqDiff, ↓reduceIte] <;> rfl) | rfl)
          by_cases c1 : c.w = 1
          · have d1 := decide_eq_true c1
            simp only [e0, e9, e10, e11, d, ix, l7, run_allocL, s2, ht', s3, lr1, d1, SX, reduceCtorEq, Nat.reduceEqDiff, ↓reduceIte, Int.reduceEq, Int.reduceLT, Int.reduceLE, Nat.reduceAdd]
            refine rest 2 (by rw [d1]; rfl) (by rw [if_pos c1]) _ (by simp only [SG, reduceCtorEq, Nat.reduceEqDiff, ↓reduceIte, e0] <;> rfl) (by simp only [SG, reduceCtorEq, Nat.reduceEqDiff, ↓reduceIte, e9] <;> rfl) (by simp only [SG, reduceCtorEq, Nat.reduceEqDiff, ↓reduceIte, e10] <;> rfl) (by simp only [SG, reduceCtorEq, Nat.reduceEqDiff, ↓reduceIte, e11] <;> rfl) (by first | (simp only [SG, reduceCtorEq, Nat.reduceEqDiff, ↓reduceIte] <;> rfl) | rfl) (by first | (simp only [SG, reduceCtorEq, Nat.reduceEqDiff, ↓reduceIte] <;> rfl) | rfl) _ ?_ ?_
            · intro e2 H' hb g a2
              simp only [a2, hb, SX, reduceCtorEq, Nat.reduceEqDiff, ↓reduceIte, Int.reduceEq, Int.reduceLT, Int.reduceLE, Nat.reduceAdd]
              exact g
            · intro e2 H' hb g a0 a9 a10 a11
              simp only [a0, a9, a10, a11, w1, SX, reduceCtorEq, Nat.reduceEqDiff, ↓reduceIte, Int.reduceEq, Int.reduceLT, Int.reduceLE, Nat.reduceAdd]
              exact next hb _ _ g (by simp only [SG, reduceCtorEq, Nat.reduceEqDiff, ↓reduceIte, a0] <;> rfl) (by simp only [SG, reduceCtorEq, Nat.reduceEqDiff, ↓reduceIte, a9] <;> rfl) (by simp only [SG, reduceCtorEq, Nat.reduceEqDiff, ↓reduceIte, a10] <;> rfl) (by first | (simp only [SG, reduceCtorEq, Nat.reduceEqDiff, ↓reduceIte] <;> rfl) | rfl)
          · have d1 := decide_eq_false c1
            simp only [e0, e9, e10, e11, d, ix, l7, run_allocL, s2, ht', s3, lr1, d1, SX, reduceCtorEq, Nat.reduceEqDiff, ↓reduceIte, Int.reduceEq, Int.reduceLT, Int.reduceLE, Nat.reduceAdd]
            refine rest 1 (by rw [d1]; rfl) (by rw [if_neg c1]) _ (by simp only [SG, reduceCtorEq, Nat.reduceEqDiff, ↓reduceIte, e0] <;> rfl) (by simp only [SG, reduceCtorEq, Nat.reduceEqDiff, ↓reduceIte, e9] <;> rfl) (by simp only [SG, reduceCtorEq, Nat.reduceEqDiff, ↓reduceIte, e10] <;> rfl) (by simp only [SG, reduceCtorEq, Nat.reduceEqDiff, ↓reduceIte, e11] <;> rfl) (by first | (simp only [SG, reduceCtorEq, Nat.reduceEqDiff, ↓reduceIte] <;> rfl) | rfl) (by first | (simp only [SG, reduceCtorEq, Nat.reduceEqDiff, ↓reduceIte] <;> rfl) | rfl) _ ?_ ?_
            · intro e2 H' hb g a2
              simp only [a2, hb, SX, reduceCtorEq, Nat.reduceEqDiff, ↓reduceIte, Int.reduceEq, Int.reduceLT, Int.reduceLE, Nat.reduceAdd]
              exact g
            · intro e2 H' hb g a0 a9 a10 a11
              simp only [a0, a9, a10, a11, w1, SX, reduceCtorEq, Nat.reduceEqDiff, ↓reduceIte, Int.reduceEq, Int.reduceLT, Int.reduceLE, Nat.reduceAdd]
              exact next hb _ _ g (by simp only [SG, reduceCtorEq, Nat.reduceEqDiff, ↓reduceIte, a0] <;> rfl) (by simp only [SG, reduceCtorEq, Nat.reduceEqDiff, ↓reduceIte, a9] <;> rfl) (by simp only [SG, reduceCtorEq, Nat.reduceEqDiff, ↓reduceIte, a10] <;> rfl) (by first | (simp only [SG, reduceCtorEq, Nat.reduceEqDiff, ↓reduceIte] <;> rfl) | rfl)
      · have e2 : rightP l = true := by rw [hrp, all_range]; intro j hj; exact hok j (by omega)
        simp only [e0, e9, e10, e11, d, e2, SX, reduceCtorEq, Nat.reduceEqDiff, ↓reduceIte, Int.reduceEq, Int.reduceLT, Int.reduceLE, Nat.reduceAdd]
        exact g1
set_option maxHeartbeats 4000000 in
theorem line_spec (hf : Fr H) {w hh x y : Int} {s : Bool} {v : AV} {l : List Ce} {wn yn : Nat} (h : RowS H v l) (hw : w = wn) (hwl : wn ≤ 400) (hyl : yn ≤ 400) (hle : (yn + 1) * wn ≤ l.length) : FnTo Q 19 [.agg (mat w hh v x y s), .int .i64 yn] H (fun r H' => Gr H H' ∧ RowS H' r (lineP l wn yn)) := by
  subst hw
  refine fn_wp (pq.ho 19 rfl _) pq.q19 (by simp [A19]) ?_
  have ho : (mat wn hh v x y s).all AV.one = true := mat_one h.one
  have hv := h.one
  obtain ⟨H1, s1, g1, k1⟩ := (Hp.nil H hf).make (mat wn hh v x y s) 6
  have l0 := g1.load (List.mem_cons_self ..) (o := 0) rfl
  have l2 := g1.load (List.mem_cons_self ..) (o := 2) rfl
  have g := g1.gr k1
  have m1 : yn * wn ≤ 160000 := by have := Nat.mul_le_mul hyl hwl; omega
  have m2 : (yn + 1) * wn ≤ 160400 := by have := Nat.mul_le_mul (show yn + 1 ≤ 401 by omega) hwl; omega
  have w1 : IntKind.wrap .i64 ((yn : Int) * (wn : Int)) = ((yn * wn : Nat) : Int) := by rw [← Int.natCast_mul]; exact wrapNat (by omega)
  have w2 : IntKind.wrap .i64 ((yn : Int) + 1) = ((yn + 1 : Nat) : Int) := wrapNat (n := yn + 1) (by omega)
  have w3 : IntKind.wrap .i64 (((yn + 1 : Nat) : Int) * (wn : Int)) = (((yn + 1) * wn : Nat) : Int) := by rw [← Int.natCast_mul]; exact wrapNat (by omega)
  obtain ⟨sl, rs⟩ := (h.grow hf g).slice (m := yn * wn) (n := (yn + 1) * wn) (Nat.mul_le_mul_right _ (by omega)) hle
  simp only [A19, boxV_agg ho, s1, l0, l2, w1, w2, w3, sl, Option.map_some, SX, reduceCtorEq, Nat.reduceEqDiff, ↓reduceIte, Int.reduceEq, Int.reduceLT, Int.reduceLE, Nat.reduceAdd]
  exact ⟨g, rs⟩
set_option maxHeartbeats 16000000 in
theorem Right_spec (ht : hasTabs H TT = true) (hf : Fr H) {w hh x y : Int} {s : Bool} {v : AV} {l : List Ce} (h : RowS H v l) : FnTo Q 7 [.agg (mat w hh v x y s)] H (fun r H' => r = .bool (rightM w hh x y l) ∧ Gr H H') := by
  refine fn_wp (pq.ho 7 rfl _) pq.q7 (by simp [A7]) ?_
  have ho : (mat w hh v x y s).all AV.one = true := mat_one h.one
  have hv := h.one
  obtain ⟨H1, s1, g1, k1⟩ := (Hp.nil H hf).make (mat w hh v x y s) 6
  obtain ⟨t, ht'⟩ : ∃ t, H.next = t := ⟨_, rfl⟩
  have gg := g1.gr k1
  have lm : ∀ {H' : AHeap}, Gr H1 H' → loadV H' Option.none (.ptr t 0) = some (.int .i64 w) ∧ loadV H' Option.none (.ptr t 1) = some (.int .i64 hh) ∧ loadV H' Option.none (.ptr t 2) = some v ∧ loadV H' Option.none (.ptr t 3) = some (.int .i64 x) ∧ loadV H' Option.none (.ptr t 4) = some (.int .i64 y) ∧ loadV H' (some 6) (.ptr t 0) = some (.agg (mat w hh v x y s)) := fun {H'} g => by
    have g' := g1.keep g.keep g.next g.fr
    rw [ht'] at g'
    exact ⟨g'.load (List.mem_cons_self ..) (o := 0) rfl, g'.load (List.mem_cons_self ..) (o := 1) rfl, g'.load (List.mem_cons_self ..) (o := 2) rfl, g'.load (List.mem_cons_self ..) (o := 3) rfl, g'.load (List.mem_cons_self ..) (o := 4) rfl, g'.loadN (List.mem_cons_self ..) (n := 6) rfl⟩
  obtain ⟨l0, l1, l2, l3, l4, l6⟩ := lm (Gr.refl g1.fr)
  have ln := h.len H1
  simp only [A7, boxV_agg ho, s1, ht', l0, l1, SX, reduceCtorEq, Nat.reduceEqDiff, ↓reduceIte, Int.reduceEq, Int.reduceLT, Int.reduceLE, Nat.reduceAdd]
  refine (size_spec pq w hh).mono ?_
  rintro _ H' ⟨rfl, hH⟩
  rw [hH]
  clear hH H'
  obtain ⟨sb, hsb⟩ : ∃ b, sizeP w hh = b := ⟨_, rfl⟩
  rw [hsb]
  cases sb with
  | false =>
    have e : rightM w hh x y l = false := by unfold rightM; rw [hsb]; rfl
    simp only [e, wantV_undef, SX, reduceCtorEq, Nat.reduceEqDiff, ↓reduceIte, Int.reduceEq, Int.reduceLT, Int.reduceLE, Nat.reduceAdd]
    exact gg
  | true =>
    obtain ⟨w0, w4, h0, h4⟩ := sizeP_true hsb
    obtain ⟨wn, rfl⟩ : ∃ n : Nat, w = n := ⟨w.toNat, by omega⟩
    obtain ⟨hn, rfl⟩ : ∃ n : Nat, hh = n := ⟨hh.toNat, by omega⟩
    have hm : wn * hn ≤ 160000 := by have := Nat.mul_le_mul (show wn ≤ 400 by omega) (show hn ≤ 400 by omega); omega
    have wm : IntKind.wrap .i64 ((wn : Int) * (hn : Int)) = ((wn * hn : Nat) : Int) := by rw [← Int.natCast_mul]; exact wrapNat (by omega)
    have er : rightM wn hn x y l = (decide ((l.length : Int) = ((wn * hn : Nat) : Int)) && inP wn hn x y && linesP wn hn l) := by
      unfold rightM
      rw [hsb, Int.natCast_mul, Int.toNat_natCast, Int.toNat_natCast]; rfl
    have fin : inP wn hn x y = false → rightM wn hn x y l = false := fun hh => by rw [er, hh, Bool.and_false, Bool.false_and]
    by_cases c1 : (l.length : Int) = ((wn * hn : Nat) : Int)
    · have d1 := decide_eq_true c1
      by_cases c3 : x < 0
      · have d3 := decide_eq_true c3
        have e := fin (by unfold inP; rw [decide_eq_false (show ¬ 0 ≤ x by omega)]; rfl)
        simp only [l0, l1, l2, l3, l4, ln, wm, d1, d3, e, wantV_undef, SX, reduceCtorEq, Nat.reduceEqDiff, ↓reduceIte, Int.reduceEq, Int.reduceLT, Int.reduceLE, Nat.reduceAdd]
        exact gg
      · have d3 := decide_eq_false c3
        by_cases c4 : (wn : Int) ≤ x
        · have d4 := decide_eq_true c4
          have e := fin (by unfold inP; rw [decide_eq_false (show ¬ x < (wn : Int) by omega)]; simp)
          simp only [l0, l1, l2, l3, l4, ln, wm, d1, d3, d4, e, wantV_undef, SX, reduceCtorEq, Nat.reduceEqDiff, ↓reduceIte, Int.reduceEq, Int.reduceLT, Int.reduceLE, Nat.reduceAdd]
          exact gg
        · have d4 := decide_eq_false c4
          by_cases c5 : y < 0
          · have d5 := decide_eq_true c5
            have e := fin (by unfold inP; rw [decide_eq_false (show ¬ 0 ≤ y by omega)]; simp)
            simp only [l0, l1, l2, l3, l4, ln, wm, d1, d3, d4, d5, e, wantV_undef, SX, reduceCtorEq, Nat.reduceEqDiff, ↓reduceIte, Int.reduceEq, Int.reduceLT, Int.reduceLE, Nat.reduceAdd]
            exact gg
          · have d5 := decide_eq_false c5
            by_cases c6 : (hn : Int) ≤ y
            · have d6 := decide_eq_true c6
              have e := fin (by unfold inP; rw [decide_eq_false (show ¬ y < (hn : Int) by omega)]; simp)
              simp only [l0, l1, l2, l3, l4, ln, wm, d1, d3, d4, d5, d6, e, wantV_undef, SX, reduceCtorEq, Nat.reduceEqDiff, ↓reduceIte, Int.reduceEq, Int.reduceLT, Int.reduceLE, Nat.reduceAdd]
              exact gg
            · have d6 := decide_eq_false c6
              have ei : inP wn hn x y = true := by
                unfold inP
                rw [decide_eq_true (show 0 ≤ x by omega), decide_eq_true (show x < (wn : Int) by omega), decide_eq_true (show 0 ≤ y by omega), decide_eq_true (show y < (hn : Int) by omega)]; rfl
              have er2 : rightM wn hn x y l = linesP wn hn l := by rw [er, d1, ei]; rfl
              simp only [l0, l1, l2, l3, l4, ln, wm, d1, d3, d4, d5, d6, wantV_undef, SX, reduceCtorEq, Nat.reduceEqDiff, ↓reduceIte, Int.reduceEq, Int.reduceLT, Int.reduceLE, Nat.reduceAdd]
              obtain ⟨I, hI⟩ : ∃ I : Nat → Env → AHeap → Prop, ∀ m e H', I m e H' ↔ (∃ i : Nat, m = hn - i ∧ i ≤ hn ∧ Gr H1 H' ∧ (∀ j < i, rightP (lineP l wn j) = true) ∧ Env.get e 1 = .ptr t 0 ∧ Env.get e 46 = .int .i64 hn ∧ Env.get e 47 = .int .i64 i) := ⟨_, fun _ _ _ => Iff.rfl⟩
              refine loop_by I hn ?_ ?_
              · exact (hI _ _ _).2 ⟨0, rfl, by omega, Gr.refl g1.fr, fun j hj => by omega, (by first | (simp only [SG, reduceCtorEq, Nat.reduceEqDiff, ↓reduceIte] <;> rfl) | rfl), (by first | (simp only [SG, reduceCtorEq, Nat.reduceEqDiff, ↓reduceIte] <;> rfl) | rfl), (by first | (simp only [SG, reduceCtorEq, Nat.reduceEqDiff, ↓reduceIte] <;> rfl) | rfl)⟩
              · intro m e H2 hinv
                obtain ⟨i, rfl, hi, g2, hok, e1, e46, e47⟩ := (hI _ _ _).1 hinv
                by_cases d : (i : Int) < hn
                · obtain ⟨_, _, _, _, _, l6⟩ := lm g2
                  have w1 : IntKind.wrap .i64 ((i : Int) + 1) = ((i + 1 : Nat) : Int) := wrapNat (n := i + 1) (by omega)
                  have hle : (i + 1) * wn ≤ l.length := by
                    have h1 : (i + 1) * wn ≤ hn * wn := Nat.mul_le_mul_right _ (by omega)
                    rw [Nat.mul_comm hn wn] at h1; omega
                  simp only [e1, e46, e47, d, l6, SX, reduceCtorEq, Nat.reduceEqDiff, ↓reduceIte, Int.reduceEq, Int.reduceLT, Int.reduceLE, Nat.reduceAdd]
                  refine (line_spec pq g2.fr (h.grow hf (gg.trans g2)) rfl (by omega) (by omega) hle).mono ?_
                  rintro r H3 ⟨g3, rs⟩
                  simp only [e1, e46, e47, SX, reduceCtorEq, Nat.reduceEqDiff, ↓reduceIte, Int.reduceEq, Int.reduceLT, Int.reduceLE, Nat.reduceAdd]
                  have hll : (lineP l wn i).length ≤ 1000000 := by
                    unfold lineP; rw [List.length_drop, List.length_take]; omega
                  refine (right_spec pq ((gg.trans (g2.trans g3)).tabs hf ht) g3.fr rs hll).mono ?_
                  rintro _ H4 ⟨rfl, g4⟩
                  obtain ⟨rb, hrb⟩ : ∃ b, rightP (lineP l wn i) = b := ⟨_, rfl⟩
                  rw [hrb]
                  cases rb with
                  | false =>
                    have e2 : rightM wn hn x y l = false := by
                      rw [er2]
                      cases hq : linesP wn hn l with
                      | false => rfl
                      | true =>
                        have := (all_range hn _).1 hq i (by omega)
                        rw [hrb] at this; cases this
                    simp only [e1, e46, e47, e2, SX, reduceCtorEq, Nat.reduceEqDiff, ↓reduceIte, Int.reduceEq, Int.reduceLT, Int.reduceLE, Nat.reduceAdd]
                    exact gg.trans (g2.trans (g3.trans g4))
                  | true =>
                    simp only [e1, e46, e47, w1, SX, reduceCtorEq, Nat.reduceEqDiff, ↓reduceIte, Int.reduceEq, Int.reduceLT, Int.reduceLE, Nat.reduceAdd]
                    exact ⟨hn - (i + 1), by omega, (hI _ _ _).2 ⟨i + 1, rfl, by omega, g2.trans (g3.trans g4), fun j hj => by
                      by_cases hji : j = i
                      · rw [hji]; exact hrb
                      · exact hok j (by omega), (by simp only [SG, reduceCtorEq, Nat.reduceEqDiff, ↓reduceIte, e1] <;> rfl), (by simp only [SG, reduceCtorEq, Nat.reduceEqDiff, ↓reduceIte, e46] <;> rfl), (by first | (simp only [SG, reduceCtorEq, Nat.reduceEqDiff, ↓reduceIte] <;> rfl) | rfl)⟩⟩
                · have e2 : rightM wn hn x y l = true := by rw [er2]; exact (all_range hn _).2 fun j hj => hok j (by omega)
                  simp only [e1, e46, e47, d, e2, SX, reduceCtorEq, Nat.reduceEqDiff, ↓reduceIte, Int.reduceEq, Int.reduceLT, Int.reduceLE, Nat.reduceAdd]
                  exact gg.trans g2
    · have d1 := decide_eq_false c1
      have e : rightM wn hn x y l = false := by rw [er, d1]; rfl
      simp only [l0, l1, l2, l3, l4, ln, wm, d1, e, wantV_undef, SX, reduceCtorEq, Nat.reduceEqDiff, ↓reduceIte, Int.reduceEq, Int.reduceLT, Int.reduceLE, Nat.reduceAdd]
      exact gg
/-- a frame of plain blanks -/
def blanks (w h : Int) : List Ce := if sizeP w h = true then List.replicate (w.toNat * h.toNat) blankC else []
set_option maxHeartbeats 16000000 in
theorem Blank_spec (hf : Fr H) (w hh : Int) : FnTo Q 16 [.int .i64 w, .int .i64 hh] H (fun r H' => Keep H.next H H' ∧ ((sizeP w hh = false ∧ r = .agg (mat 0 0 .nils 0 0 false) ∧ Hp H.next H' []) ∨ (sizeP w hh = true ∧ ∃ b, r = .agg (mat w hh (.slc b 0 (w.toNat * hh.toNat) (w.toNat * hh.toNat)) 0 0 false) ∧ Hp H.next H' [⟨b, 7, rowV (List.replicate (w.toNat * hh.toNat) blankC)⟩]))) := by
  refine fn_wp (pq.ho 16 rfl _) pq.q16 (by simp [A16]) ?_
  obtain ⟨H1, s1, g1, k1⟩ := (Hp.nil H hf).make [.int .i64 0, .int .i64 0, .nils, .int .i64 0, .int .i64 0, .bool false] 6
  obtain ⟨t, ht⟩ : ∃ t, H.next = t := ⟨_, rfl⟩
  rw [ht] at g1 k1
  simp only [A16, run_allocL, s1, ht, SX, reduceCtorEq, Nat.reduceEqDiff, ↓reduceIte, Int.reduceEq, Int.reduceLT, Int.reduceLE, Nat.reduceAdd]
  refine (size_spec pq w hh).mono ?_
  rintro _ H' ⟨rfl, hH⟩
  rw [hH]
  clear hH H'
  obtain ⟨sb, hsb⟩ : ∃ b, sizeP w hh = b := ⟨_, rfl⟩
  rw [hsb]
  cases sb with
  | false =>
    obtain ⟨H2, s2, g2, k2, _⟩ := g1.storeN (n := 6) (new := mat 0 0 .nils 0 0 false) rfl rfl rfl
    have l2 := g2.loadN (List.mem_cons_self ..) (n := 6) rfl
    have s2' : storeE H1 6 (.ptr t 0) (.agg [.int .i64 0, .int .i64 0, .nils, .int .i64 0, .int .i64 0, .bool false]) = some (.undef, H2) := s2
    simp only [s2', resCell, l2, SX, reduceCtorEq, Nat.reduceEqDiff, ↓reduceIte, Int.reduceEq, Int.reduceLT, Int.reduceLE, Nat.reduceAdd]
    exact ⟨k1.trans k2, .inl g2.drop⟩
  | true =>
    obtain ⟨w0, w4, h0, h4⟩ := sizeP_true hsb
    obtain ⟨wn, rfl⟩ : ∃ n : Nat, w = n := ⟨w.toNat, by omega⟩
    obtain ⟨hn, rfl⟩ : ∃ n : Nat, hh = n := ⟨hh.toNat, by omega⟩
    have hm : wn * hn ≤ 160000 := by have := Nat.mul_le_mul (show wn ≤ 400 by omega) (show hn ≤ 400 by omega); omega
    have bd : buildV [.int .i64 0, .int .i64 0, .nils, .int .i64 0, .int .i64 0, .bool false] [(0, 1, .int .i64 wn), (1, 1, .int .i64 hn)] = some (.agg (mat wn hn .nils 0 0 false)) := rfl
    obtain ⟨H2, s2, g2, k2⟩ := g1.make [.int .i64 0, .int .i64 0, .nils, .int .i64 0, .int .i64 0, .bool false] 6
    obtain ⟨u, hu⟩ : ∃ u, H1.next = u := ⟨_, rfl⟩
    rw [hu] at g2
    obtain ⟨H3, s3, g3, k3, _⟩ := g2.storeN (n := 6) (new := mat wn hn .nils 0 0 false) rfl rfl rfl
    simp only [run_build, bd, run_allocL, s2, hu, s3, SX, reduceCtorEq, Nat.reduceEqDiff, ↓reduceIte, Int.reduceEq, Int.reduceLT, Int.reduceLE, Nat.reduceAdd]
    obtain ⟨Z, hZ⟩ : ∃ Z : List AV, [AV.int .i64 0, .int .i64 0, .nils, .int .i64 0, .int .i64 0, .bool false] = Z := ⟨_, rfl⟩
    rw [hZ] at g3
    obtain ⟨I, hI⟩ : ∃ I : Nat → Env → AHeap → Prop, ∀ m e H', I m e H' ↔ (∃ (i : Nat) (v : AV) (rs : List Cel), m = hn - i ∧ i ≤ hn ∧ ((i = 0 ∧ v = .nils ∧ rs = []) ∨ (0 < i ∧ ∃ b, v = .slc b 0 (wn * i) (wn * i) ∧ rs = [⟨b, 7, rowV (List.replicate (wn * i) blankC)⟩])) ∧ Hp t H' (⟨u, 6, mat wn hn v 0 0 false⟩ :: ⟨t, 6, Z⟩ :: rs) ∧ Keep t H H' ∧
        Env.get e 0 = .int .i64 wn ∧ Env.get e 4 = .ptr t 0 ∧ Env.get e 5 = .ptr u 0 ∧ Env.get e 14 = .int .i64 hn ∧ Env.get e 15 = .int .i64 i) := ⟨_, fun _ _ _ => Iff.rfl⟩
    refine loop_by I hn ?_ ?_
    · exact (hI _ _ _).2 ⟨0, .nils, [], rfl, by omega, .inl ⟨rfl, rfl, rfl⟩, g3, k1.trans (k2.trans k3), (by first | (simp only [SG, reduceCtorEq, Nat.reduceEqDiff, ↓reduceIte] <;> rfl) | rfl), (by first | (simp only [SG, reduceCtorEq, Nat.reduceEqDiff, ↓reduceIte] <;> rfl) | rfl), (by first | (simp only [SG, reduceCtorEq, Nat.reduceEqDiff, ↓reduceIte] <;> rfl) | rfl), (by first | (simp only [SG, reduceCtorEq, Nat.reduceEqDiff, ↓reduceIte] <;> rfl) | rfl), (by first | (simp only [SG, reduceCtorEq, Nat.reduceEqDiff, ↓reduceIte] <;> rfl) | rfl)⟩
    · intro m e H4 hinv
      obtain ⟨i, v, rs, rfl, hi, hv, g4, k4, e0, e4, e5, e14, e15⟩ := (hI _ _ _).1 hinv
      have vo : v.one = true := by rcases hv with ⟨_, rfl, _⟩ | ⟨_, b, rfl, _⟩ <;> rfl
      by_cases d : (i : Int) < hn
      · have w1 : IntKind.wrap .i64 ((i : Int) + 1) = ((i + 1 : Nat) : Int) := wrapNat (n := i + 1) (by omega)
        have l2 := g4.load (b := u) (k := 6) (cs := mat wn hn v 0 0 false) (List.mem_cons_self ..) (o := 2) rfl
        simp only [e0, e4, e5, e14, e15, d, l2, run_build0, SX, reduceCtorEq, Nat.reduceEqDiff, ↓reduceIte, Int.reduceEq, Int.reduceLT, Int.reduceLE, Nat.reduceAdd]
        refine (rowBlank_spec pq g4.fr (w := wn) (c := blankC) ⟨rfl, rfl⟩).mono ?_
        rintro r H5 ⟨k5, hr⟩
        rcases hr with ⟨hr, _⟩ | ⟨_, _, b, rfl, g5⟩
        · exact absurd ⟨w0, w4⟩ hr
        · rw [Int.toNat_natCast] at g5 ⊢
          have g6 := g4.joinG (g5.gr k5) g5
          have l2' := g6.load (b := u) (k := 6) (cs := mat wn hn v 0 0 false) (by simp) (o := 2) rfl
          have vs : AV.same v v = true := by rcases hv with ⟨_, rfl, _⟩ | ⟨_, b, rfl, _⟩ <;> simp [AV.same, AV.same1]
          have src := g6.src (b := b) (k' := 7) (pre := []) (post := []) (ys := rowV (List.replicate wn blankC)) (by simp) rfl (k := 7) (m := wn) (by rw [rowV_len, List.length_replicate]; omega) (by omega) (c := wn)
          refine ⟨by simp only [echoOk, l2', vs, Bool.and_self, SX, reduceCtorEq, Nat.reduceEqDiff, ↓reduceIte, Int.reduceEq, Int.reduceLT, Int.reduceLE, Nat.reduceAdd], ?_⟩
          have ones := rowV_ones (List.replicate wn blankC)
          have ap : ∃ b' H6, appendE H5 7 28 v (.slc b 0 wn wn) = some (.slc b' 0 (wn * (i + 1)) (wn * (i + 1)), H6) ∧ Hp t H6 (⟨b', 7, rowV (List.replicate (wn * (i + 1)) blankC)⟩ :: ⟨u, 6, mat wn hn v 0 0 false⟩ :: [⟨t, 6, Z⟩]) ∧ Keep t H5 H6 := by
            rcases hv with ⟨rfl, rfl, rfl⟩ | ⟨i0, b0, rfl, rfl⟩
            · obtain ⟨H6, q1, q2, q3⟩ := g6.appendK0 (k := 7) (bytes := 28) (by omega) src (by omega) ones (by omega) (by omega)
              refine ⟨H5.next, H6, ?_, ?_, q3⟩
              · rw [show wn * (0 + 1) = wn by omega]; exact q1
              · rw [show wn * (0 + 1) = wn by omega]
                exact q2.sub (by simp)
            · have hmi : wn * i ≤ 160000 := by have := Nat.mul_le_mul (show wn ≤ 400 by omega) (show i ≤ 400 by omega); omega
              have g7 : Hp t H5 (⟨b0, 7, [] ++ rowV (List.replicate (wn * i) blankC)⟩ :: ⟨b, 7, rowV (List.replicate wn blankC)⟩ :: ⟨u, 6, mat wn hn (.slc b0 0 (wn * i) (wn * i)) 0 0 false⟩ :: [⟨t, 6, Z⟩]) := g6.rot4
              obtain ⟨H6, q1, q2, q3⟩ := g7.appendK (n := wn * i) (m := wn) (bytes := 28) rfl (by rw [rowV_len, List.length_replicate]; omega) (by omega) src (by omega) ones (by omega) (by omega)
              have e1 : wn * i + wn = wn * (i + 1) := by rw [Nat.mul_add]; omega
              rw [e1] at q1
              rw [← rowV_app, List.replicate_append_replicate, e1] at q2
              exact ⟨H5.next, H6, q1, q2.sub (by simp), q3⟩
          obtain ⟨b', H6, q1, q2, q3⟩ := ap
          obtain ⟨H7, s7, g7, k7, _⟩ := (Hp.swap q2).store (b := u) (o := 2) (v := .slc b' 0 (wn * (i + 1)) (wn * (i + 1))) rfl (by simp [mat])
          simp only [e0, e4, e5, e14, e15, q1, s7, w1, SX, reduceCtorEq, Nat.reduceEqDiff, ↓reduceIte, Int.reduceEq, Int.reduceLT, Int.reduceLE, Nat.reduceAdd]
          have hbn := g4.bn
          refine ⟨hn - (i + 1), by omega, (hI _ _ _).2 ⟨i + 1, .slc b' 0 (wn * (i + 1)) (wn * (i + 1)), _, rfl, by omega, .inr ⟨by omega, b', rfl, rfl⟩, ?_, k4.trans ((k5.le hbn).trans (q3.trans k7)), (by simp only [SG, reduceCtorEq, Nat.reduceEqDiff, ↓reduceIte, e0] <;> rfl), (by simp only [SG, reduceCtorEq, Nat.reduceEqDiff, ↓reduceIte, e4] <;> rfl), (by simp only [SG, reduceCtorEq, Nat.reduceEqDiff, ↓reduceIte, e5] <;> rfl), (by simp only [SG, reduceCtorEq, Nat.reduceEqDiff, ↓reduceIte, e14] <;> rfl), (by first | (simp only [SG, reduceCtorEq, Nat.reduceEqDiff, ↓reduceIte] <;> rfl) | rfl)⟩⟩
          have : (mat wn hn v 0 0 false).set 2 (.slc b' 0 (wn * (i + 1)) (wn * (i + 1))) = mat wn hn (.slc b' 0 (wn * (i + 1)) (wn * (i + 1))) 0 0 false := rfl
          rw [this] at g7
          exact g7.perm (List.Perm.cons _ (List.Perm.swap _ _ _))
      · obtain rfl : i = hn := by omega
        rcases hv with ⟨h0', _⟩ | ⟨i0, b, rfl, rfl⟩
        · omega
        · have l6 := g4.loadN (b := u) (k := 6) (cs := mat wn i (.slc b 0 (wn * i) (wn * i)) 0 0 false) (List.mem_cons_self ..) (n := 6) rfl
          obtain ⟨H5, s5, g5, k5, _⟩ := g4.swap.storeN (b := t) (n := 6) (new := mat wn i (.slc b 0 (wn * i) (wn * i)) 0 0 false) (by rw [← hZ]; rfl) rfl rfl
          have l7 := g5.loadN (b := t) (List.mem_cons_self ..) (n := 6) rfl
          simp only [e0, e4, e5, e14, e15, d, l6, s5, resCell, l7, SX, reduceCtorEq, Nat.reduceEqDiff, ↓reduceIte, Int.reduceEq, Int.reduceLT, Int.reduceLE, Nat.reduceAdd]
          exact ⟨k4.trans k5, .inr ⟨b, rfl, g5.swap.drop.drop.perm (List.Perm.refl _)⟩⟩
end
/-- an own list that came of appends of one cell -/
def OwnV (base : Nat) (H : AHeap) (v : AV) (xs : List AV) (rest : List Cel) : Prop :=
  (xs = [] ∧ v = .nils ∧ Hp base H rest) ∨ (xs ≠ [] ∧ ∃ b, v = .slc b 0 xs.length xs.length ∧ Hp base H (⟨b, 1, xs⟩ :: rest))
section
variable {base : Nat} {H : AHeap} {l l' : List Cel} {v : AV} {t : List AV}
theorem OwnV.hp (h : OwnV base H v t l) : Hp base H l := by
  rcases h with ⟨_, _, h⟩ | ⟨_, b, _, h⟩
  · exact h
  · exact h.drop
theorem _root_.Go.Proofs.YtfcnjfbnffijhaaDoor.AM.Hp.agree {H' : AHeap} (h : Hp base H l) (ha : ∀ c, base ≤ c → H'.get c = H.get c) (hn : H'.next = H.next) : Hp base H' l :=
  ⟨fun x hx => by
    obtain ⟨es, ty, h1, h2⟩ := h.has x hx
    exact ⟨es, ty, by rw [ha _ (h.lo x hx)]; exact h1, h2⟩, h.nd, h.lo, by rw [hn]; exact h.bn, fun b hb => by
    have := h.bn
    rw [ha b (by omega)]; exact h.fr b (by omega)⟩
theorem OwnV.agree {H' : AHeap} (h : OwnV base H v t l) (ha : ∀ c, base ≤ c → H'.get c = H.get c) (hn : H'.next = H.next) : OwnV base H' v t l := by
  rcases h with ⟨h1, h2, h⟩ | ⟨h1, b, h2, h⟩
  · exact .inl ⟨h1, h2, h.agree ha hn⟩
  · exact .inr ⟨h1, b, h2, h.agree ha hn⟩
theorem OwnV.one (h : OwnV base H v t l) : v.one = true := by
  rcases h with ⟨_, rfl, _⟩ | ⟨_, b, rfl, _⟩ <;> rfl
theorem OwnV.same (h : OwnV base H v t l) : AV.same v v = true := by
  rcases h with ⟨_, rfl, _⟩ | ⟨_, b, rfl, _⟩ <;> simp [AV.same, AV.same1]
theorem OwnV.re (h : OwnV base H v t l) (p : l.Perm l') : OwnV base H v t l' := by
  rcases h with ⟨h1, h2, h⟩ | ⟨h1, b, h2, h⟩
  · exact .inl ⟨h1, h2, h.perm p⟩
  · exact .inr ⟨h1, b, h2, h.perm (List.Perm.cons _ p)⟩
theorem OwnV.push (h : OwnV base H v t l) {bytes : Nat} (hb0 : 0 < bytes) (hb1 : bytes ≤ 64) (hl : t.length ≤ 1000000) (x : AV) (hx : x.one = true) :
    ∃ H1 H2 w, H.alloc (.row ⟨[x], 0, false, true, 0⟩) = H1 ∧ appendE H1 1 bytes v (.slc H.next 0 1 1) = some (w, H2) ∧ OwnV base H2 w (t ++ [x]) l ∧ Keep base H H2 := by
  obtain ⟨H1, s1, h1, k1⟩ := h.hp.make [x] 1
  rcases h with ⟨rfl, rfl, h⟩ | ⟨hne, b, rfl, h⟩
  · have hsrc := h1.srcOne (List.mem_cons_self ..) 1
    refine ⟨H1, H1.alloc (.row ⟨[x], 1, false, true, 0⟩), .slc H1.next 0 1 1, s1, ?_, .inr ⟨by simp, H1.next, rfl, ?_⟩, k1.trans (h1.keep_alloc _)⟩
    · simp only [appendE, EOp.run, Opd.ev, hsrc, appendA]
      rw [if_neg (by simp [hx]; omega), if_neg (by omega), if_pos (by omega)]
    · exact (h1.alloc _ 1 1 (.inr rfl)).swap.drop
  · obtain ⟨H1', s1', h1', k1'⟩ := h.make [x] 1
    obtain rfl := s1.symm.trans s1'
    obtain ⟨B, hB, hc⟩ := h1'.rowOf (List.mem_cons_self ..)
    obtain ⟨H2, a1, a2, a3⟩ := (Hp.swap h1').append1 (n := t.length) rfl hB (o2 := 0) (c2 := 1) (by rw [hc]; rfl) hx hb0 (by have := Nat.mul_le_mul_left (t.length + 1) hb1; omega)
    exact ⟨H1, H2, .slc H1.next 0 (t.length + 1) (t.length + 1), s1, a1, .inr ⟨by simp, H1.next, by simp, a2.swap.drop⟩, k1.trans a3⟩
theorem OwnV.store {u k : Nat} {cs : List AV} (h : OwnV base H v t (⟨u, k, cs⟩ :: l)) {o : Nat} {y : AV} (hy : y.one = true) (ho : o < cs.length) :
    ∃ H', storeE H 1 (.ptr u o) y = some (.undef, H') ∧ OwnV base H' v t (⟨u, k, cs.set o y⟩ :: l) ∧ Keep base H H' := by
  rcases h with ⟨h1, h2, h⟩ | ⟨h1, b, h2, h⟩
  · obtain ⟨H', q1, q2, q3, _⟩ := h.store hy ho
    exact ⟨H', q1, .inl ⟨h1, h2, q2⟩, q3⟩
  · obtain ⟨H', q1, q2, q3, _⟩ := h.swap.store hy ho
    exact ⟨H', q1, .inr ⟨h1, b, h2, q2.swap⟩, q3⟩
theorem OwnV.join {H' : AHeap} {x : Cel} (h : OwnV base H v t l) (g : Gr H H') (h' : Hp H.next H' [x]) : OwnV base H' v t (x :: l) := by
  rcases h with ⟨h1, h2, h⟩ | ⟨h1, b, h2, h⟩
  · exact .inl ⟨h1, h2, h.joinG g h'⟩
  · exact .inr ⟨h1, b, h2, (h.joinG g h').swap⟩
theorem OwnV.storeTail {u w k k2 : Nat} {cs ds : List AV} (h : OwnV base H v t (⟨u, k, cs⟩ :: ⟨w, k2, ds⟩ :: l)) {n : Nat} {new : List AV} (hn : ds.length = n) (hl : new.length = n) (h1 : new.all AV.one = true) :
    ∃ H', storeE H n (.ptr w 0) (.agg new) = some (.undef, H') ∧ OwnV base H' v t (⟨w, k2, new⟩ :: ⟨u, k, cs⟩ :: l) ∧ Keep base H H' := by
  have h := h.re (List.Perm.swap _ _ _)
  rcases h with ⟨e1, e2, h⟩ | ⟨e1, b, e2, h⟩
  · obtain ⟨H', q1, q2, q3, _⟩ := h.storeN hn hl h1
    exact ⟨H', q1, .inl ⟨e1, e2, q2⟩, q3⟩
  · obtain ⟨H', q1, q2, q3, _⟩ := h.swap.storeN hn hl h1
    exact ⟨H', q1, .inr ⟨e1, b, e2, q2.swap⟩, q3⟩
end
def RowR (H : AHeap) (l : List Ce) (c : AV) : Prop := RowS H c l
/-- rows that stand in an own list -/
theorem OwnV.rows {base : Nat} {H : AHeap} {l : List Cel} {v : AV} {t : List AV} (h : OwnV base H v t l) {ls : List (List Ce)} (hl : ls.length = t.length) (hr : ∀ (i : Nat) x, ls[i]? = some x → ∃ c, t[i]? = some c ∧ RowS H c x) : IsS RowR H v ls := by
  rcases h with ⟨rfl, rfl, h⟩ | ⟨h1, b, rfl, h⟩
  · exact .inl ⟨rfl, List.length_eq_zero_iff.1 (by simpa using hl)⟩
  · rw [← hl]
    exact h.isS (List.mem_cons_self ..) (Nat.le_refl _) hr
theorem seq7 (c : Ce) : seqV [1, 1, 1, 1, 1, 1, 1] true (.agg c.cs) (.agg c.cs) = some (.bool false) := by
  simp [seqV, ROp.run, Opd.ev, Ce.cs, Ce.at, cellsEq]
def z7 : List AV := [.int .i32 0, .int .u8 0, .int .u16 0, .int .u8 0, .int .u32 0, .int .u8 0, .int .u32 0]
def bs7V (v : AV) : Option (AObj × AKind) := LOp.run .nil (.bslice 7 1 z7 [(0, .c v)])
theorem run_bslice7 (e : Env) (x : Opd) : LOp.run e (.bslice 7 1 [.int .i32 0, .int .u8 0, .int .u16 0, .int .u8 0, .int .u32 0, .int .u8 0, .int .u32 0] [(0, x)]) = bs7V (x.ev e) := rfl
theorem bs7V_ce (c : Ce) : bs7V (.agg c.cs) = some (.row ⟨c.cs, 0, false, true, 0⟩, .slc 1 1) := rfl
theorem bs1V_one {v : AV} (h : v.one = true) : bs1V v = some (.row ⟨[v], 0, false, true, 0⟩, .slc 1 1) := by
  have hc : v.cells = [v] := by cases v <;> first | rfl | (simp [AV.one] at h)
  simp [bs1V, hc, h]
structure PdQ (Q : Prog) : Prop where
  pq : PaQ Q
  q32 : Q.fns 32 = some A32
  q6 : Q.fns 6 = some A6
  q41 : Q.fns 41 = some A41
  q25 : Q.fns 25 = some A25
  q51 : Q.fns 51 = some A51
section
variable {Q : Prog} (dq : PdQ Q) {H : AHeap}
include dq
set_option maxHeartbeats 4000000 in
theorem blanksR_spec (hf : Fr H) {n : Nat} (hn : n ≤ 400) (h0 : 0 < n) : FnTo Q 51 [.int .i64 n, .agg at0] H (fun r H' => Keep H.next H H' ∧ ∃ b, r = .slc b 0 n n ∧ Hp H.next H' [⟨b, 7, rowV (List.replicate n blankC)⟩]) := by
  refine fn_wp (dq.pq.ho 51 rfl _) dq.q51 (by simp [A51]) ?_
  have ha : at0.all AV.one = true := rfl
  obtain ⟨H1, s1, g1, k1⟩ := (Hp.nil H hf).make at0 5
  obtain ⟨t, ht⟩ : ∃ t, H.next = t := ⟨_, rfl⟩
  rw [ht] at g1 k1
  simp only [A51, boxV_agg ha, s1, ht, SX, reduceCtorEq, Nat.reduceEqDiff, ↓reduceIte, Int.reduceEq, Int.reduceLT, Int.reduceLE, Nat.reduceAdd]
  obtain ⟨I, hI⟩ : ∃ I : Nat → Env → AHeap → Prop, ∀ m e H', I m e H' ↔ (∃ (i : Nat) (v : AV) (rs : List Cel), m = n - i ∧ i ≤ n ∧ ((i = 0 ∧ v = .nils ∧ rs = []) ∨ (0 < i ∧ ∃ b, v = .slc b 0 i i ∧ rs = [⟨b, 7, rowV (List.replicate i blankC)⟩])) ∧ Hp t H' (⟨t, 5, at0⟩ :: rs) ∧ Keep t H H' ∧
      Env.get e 0 = .int .i64 n ∧ Env.get e 3 = .ptr t 0 ∧ Env.get e 5 = v ∧ Env.get e 6 = .int .i64 i) := ⟨_, fun _ _ _ => Iff.rfl⟩
  refine loop_by I n ?_ ?_
  · exact (hI _ _ _).2 ⟨0, .nils, [], rfl, by omega, .inl ⟨rfl, rfl, rfl⟩, g1, k1, (by first | (simp only [SG, reduceCtorEq, Nat.reduceEqDiff, ↓reduceIte] <;> rfl) | rfl), (by first | (simp only [SG, reduceCtorEq, Nat.reduceEqDiff, ↓reduceIte] <;> rfl) | rfl), (by first | (simp only [SG, reduceCtorEq, Nat.reduceEqDiff, ↓reduceIte] <;> rfl) | rfl), (by first | (simp only [SG, reduceCtorEq, Nat.reduceEqDiff, ↓reduceIte] <;> rfl) | rfl)⟩
  · intro m e H2 hinv
    obtain ⟨i, v, rs, rfl, hi, hv, g2, k2, e0, e3, e5, e6⟩ := (hI _ _ _).1 hinv
    by_cases d : (i : Int) < n
    · have l5 := g2.loadN (List.mem_cons_self ..) (n := 5) rfl
      have w1 : IntKind.wrap .i64 ((i : Int) + 1) = ((i + 1 : Nat) : Int) := wrapNat (n := i + 1) (by omega)
      have bd : buildV [.int .i32 0, .int .u8 0, .int .u16 0, .int .u8 0, .int .u32 0, .int .u8 0, .int .u32 0] [(0, 1, .int .i32 32), (2, 5, .agg at0)] = some (.agg blankC.cs) := rfl
      obtain ⟨H3, s3, g3, k3⟩ := g2.make blankC.cs 7
      have src := g3.src (b := H2.next) (k' := 7) (pre := []) (post := []) (ys := blankC.cs) (by simp) rfl (k := 7) (m := 1) rfl (by omega) (c := 1)
      have ap : ∃ b' H6, appendE H3 7 28 v (.slc H2.next 0 1 1) = some (.slc b' 0 (i + 1) (i + 1), H6) ∧ Hp t H6 (⟨t, 5, at0⟩ :: [⟨b', 7, rowV (List.replicate (i + 1) blankC)⟩]) ∧ Keep t H3 H6 := by
        rcases hv with ⟨rfl, rfl, rfl⟩ | ⟨i0, b0, rfl, rfl⟩
        · obtain ⟨H6, q1, q2, q3⟩ := g3.appendK0 (k := 7) (bytes := 28) (by omega) src (by omega) rfl (by omega) (by omega)
          exact ⟨H3.next, H6, q1, q2.swap.drop.swap, q3⟩
        · have g7 : Hp t H3 (⟨b0, 7, [] ++ rowV (List.replicate i blankC)⟩ :: ⟨H2.next, 7, blankC.cs⟩ :: ⟨t, 5, at0⟩ :: []) := g3.rot3
          obtain ⟨H6, q1, q2, q3⟩ := g7.appendK (n := i) (m := 1) (bytes := 28) rfl (by rw [rowV_len, List.length_replicate]; omega) (by omega) src (by omega) rfl (by omega) (by omega)
          rw [← rowV_one blankC, ← rowV_app, ← List.replicate_succ'] at q2
          exact ⟨H3.next, H6, q1, q2.swap.drop.swap, q3⟩
      obtain ⟨b', H6, q1, q2, q3⟩ := ap
      simp only [e0, e3, e5, e6, d, l5, run_build, bd, run_bslice7, bs7V_ce, s3, q1, w1, SX, reduceCtorEq, Nat.reduceEqDiff, ↓reduceIte, Int.reduceEq, Int.reduceLT, Int.reduceLE, Nat.reduceAdd]
      exact ⟨n - (i + 1), by omega, (hI _ _ _).2 ⟨i + 1, _, _, rfl, by omega, .inr ⟨by omega, b', rfl, rfl⟩, q2, k2.trans (k3.trans q3), (by simp only [SG, reduceCtorEq, Nat.reduceEqDiff, ↓reduceIte, e0] <;> rfl), (by simp only [SG, reduceCtorEq, Nat.reduceEqDiff, ↓reduceIte, e3] <;> rfl), (by first | (simp only [SG, reduceCtorEq, Nat.reduceEqDiff, ↓reduceIte] <;> rfl) | rfl), (by first | (simp only [SG, reduceCtorEq, Nat.reduceEqDiff, ↓reduceIte] <;> rfl) | rfl)⟩⟩
    · obtain rfl : i = n := by omega
      rcases hv with ⟨h0', _⟩ | ⟨i0, b, rfl, rfl⟩
      · omega
      · simp only [e0, e3, e5, e6, d, SX, reduceCtorEq, Nat.reduceEqDiff, ↓reduceIte, Int.reduceEq, Int.reduceLT, Int.reduceLE, Nat.reduceAdd]
        exact ⟨k2, b, rfl, g2.drop⟩
set_option maxHeartbeats 4000000 in
theorem sameR_spec {v w : AV} {l : List Ce} (h1 : RowS H v l) (h2 : RowS H w l) (hl : l.length ≤ 1000000) : FnTo Q 25 [v, w] H (fun r H' => r = .bool true ∧ H' = H) := by
  refine fn_wp (dq.pq.ho 25 rfl _) dq.q25 (by simp [A25]) ?_
  have ln1 := h1.len H
  have ln2 := h2.len H
  simp only [A25, ln1, ln2, SX, reduceCtorEq, Nat.reduceEqDiff, ↓reduceIte, Int.reduceEq, Int.reduceLT, Int.reduceLE, Nat.reduceAdd]
  obtain ⟨I, hI⟩ : ∃ I : Nat → Env → AHeap → Prop, ∀ m e H', I m e H' ↔ (H' = H ∧ ∃ i : Nat, m = l.length - i ∧ i ≤ l.length ∧ Env.get e 0 = v ∧ Env.get e 1 = w ∧ Env.get e 5 = .int .i64 i) := ⟨_, fun _ _ _ => Iff.rfl⟩
  refine loop_by I l.length ?_ ?_
  · exact (hI _ _ _).2 ⟨rfl, 0, rfl, by omega, (by first | (simp only [SG, reduceCtorEq, Nat.reduceEqDiff, ↓reduceIte] <;> rfl) | rfl), (by first | (simp only [SG, reduceCtorEq, Nat.reduceEqDiff, ↓reduceIte] <;> rfl) | rfl), (by first | (simp only [SG, reduceCtorEq, Nat.reduceEqDiff, ↓reduceIte] <;> rfl) | rfl)⟩
  · intro m e H' hinv
    obtain ⟨hH, i, rfl, hi, e0, e1, e5⟩ := (hI _ _ _).1 hinv
    rw [hH]
    by_cases d : (i : Int) < l.length
    · obtain ⟨c, hc⟩ : ∃ c, l[i]? = some c := ⟨_, List.getElem?_eq_getElem (by omega)⟩
      obtain ⟨b, p, ix, l7, _⟩ := h1.cell hc .i64
      obtain ⟨b', p', ix', l7', _⟩ := h2.cell hc .i64
      have w1 : IntKind.wrap .i64 ((i : Int) + 1) = ((i + 1 : Nat) : Int) := wrapNat (n := i + 1) (by omega)
      have sq := seq7 c
      simp only [e0, e1, e5, ln1, d, ix, l7, ix', l7', run_seq, sq, w1, SX, reduceCtorEq, Nat.reduceEqDiff, ↓reduceIte, Int.reduceEq, Int.reduceLT, Int.reduceLE, Nat.reduceAdd]
      exact ⟨l.length - (i + 1), by omega, (hI _ _ _).2 ⟨rfl, i + 1, rfl, by omega, (by simp only [SG, reduceCtorEq, Nat.reduceEqDiff, ↓reduceIte, e0] <;> rfl), (by simp only [SG, reduceCtorEq, Nat.reduceEqDiff, ↓reduceIte, e1] <;> rfl), (by first | (simp only [SG, reduceCtorEq, Nat.reduceEqDiff, ↓reduceIte] <;> rfl) | rfl)⟩⟩
    · simp only [e0, e1, e5, ln1, d, SX, reduceCtorEq, Nat.reduceEqDiff, ↓reduceIte, Int.reduceEq, Int.reduceLT, Int.reduceLE, Nat.reduceAdd]
set_option maxHeartbeats 8000000 in
theorem blankF_spec (hf : Fr H) {w hh : Nat} (hw : w ≤ 400) (w0 : 0 < w) (hh4 : hh ≤ 400) : FnTo Q 41 [.int .i64 w, .int .i64 hh] H (fun r H' => Gr H H' ∧ ∃ v, r = .agg (mat w hh v 0 0 false) ∧ v.one = true ∧ ∀ H2 : AHeap, (∀ c, H.next ≤ c → H2.get c = H'.get c) → H2.next = H'.next → IsS RowR H2 v (List.replicate hh (List.replicate w blankC))) := by
  refine fn_wp (dq.pq.ho 41 rfl _) dq.q41 (by simp [A41]) ?_
  obtain ⟨Z, hZ⟩ : ∃ Z : List AV, [AV.int .i64 0, .int .i64 0, .nils, .int .i64 0, .int .i64 0, .bool false] = Z := ⟨_, rfl⟩
  have hZl : Z.length = 6 := by rw [← hZ]; rfl
  obtain ⟨H1, s1, g1, k1⟩ := (Hp.nil H hf).make Z 6
  obtain ⟨t, ht⟩ : ∃ t, H.next = t := ⟨_, rfl⟩
  rw [ht] at g1 k1
  obtain ⟨H2, s2, g2, k2⟩ := g1.make Z 6
  obtain ⟨u, hu⟩ : ∃ u, H1.next = u := ⟨_, rfl⟩
  rw [hu] at g2
  obtain ⟨H3, s3, g3, k3, _⟩ := g2.storeN (n := 6) (new := mat w hh .nils 0 0 false) hZl rfl rfl
  have bd : buildV Z [(0, 1, .int .i64 w), (1, 1, .int .i64 hh)] = some (.agg (mat w hh .nils 0 0 false)) := by rw [← hZ]; rfl
  simp only [A41, hZ, run_allocL, s1, ht, run_build, bd, s2, hu, s3, SX, reduceCtorEq, Nat.reduceEqDiff, ↓reduceIte, Int.reduceEq, Int.reduceLT, Int.reduceLE, Nat.reduceAdd]
  obtain ⟨I, hI⟩ : ∃ I : Nat → Env → AHeap → Prop, ∀ m e H', I m e H' ↔ (∃ (i : Nat) (v : AV) (xs : List AV) (rs : List Cel), m = hh - i ∧ i ≤ hh ∧ xs.length = i ∧ (∀ x ∈ xs, ∃ b, x = .slc b 0 w w ∧ (⟨b, 7, rowV (List.replicate w blankC)⟩ : Cel) ∈ rs) ∧ OwnV t H' v xs (⟨u, 6, mat w hh v 0 0 false⟩ :: ⟨t, 6, Z⟩ :: rs) ∧ Keep t H H' ∧
      Env.get e 0 = .int .i64 w ∧ Env.get e 1 = .int .i64 hh ∧ Env.get e 4 = .ptr t 0 ∧ Env.get e 5 = .ptr u 0 ∧ Env.get e 6 = .int .i64 i) := ⟨_, fun _ _ _ => Iff.rfl⟩
  refine loop_by I hh ?_ ?_
  · exact (hI _ _ _).2 ⟨0, .nils, [], [], rfl, by omega, rfl, fun x hx => by simp at hx, .inl ⟨rfl, rfl, g3⟩, k1.trans (k2.trans k3), (by first | (simp only [SG, reduceCtorEq, Nat.reduceEqDiff, ↓reduceIte] <;> rfl) | rfl), (by first | (simp only [SG, reduceCtorEq, Nat.reduceEqDiff, ↓reduceIte] <;> rfl) | rfl), (by first | (simp only [SG, reduceCtorEq, Nat.reduceEqDiff, ↓reduceIte] <;> rfl) | rfl), (by first | (simp only [SG, reduceCtorEq, Nat.reduceEqDiff, ↓reduceIte] <;> rfl) | rfl), (by first | (simp only [SG, reduceCtorEq, Nat.reduceEqDiff, ↓reduceIte] <;> rfl) | rfl)⟩
  · intro m e H4 hinv
    obtain ⟨i, v, xs, rs, rfl, hi, hxl, hxs, own, k4, e0, e1, e4, e5, e6⟩ := (hI _ _ _).1 hinv
    by_cases d : (i : Int) < hh
    · have w1 : IntKind.wrap .i64 ((i : Int) + 1) = ((i + 1 : Nat) : Int) := wrapNat (n := i + 1) (by omega)
      have l2 := own.hp.load (b := u) (k := 6) (cs := mat w hh v 0 0 false) (List.mem_cons_self ..) (o := 2) rfl
      simp only [e0, e1, e4, e5, e6, d, l2, run_build0, SX, reduceCtorEq, Nat.reduceEqDiff, ↓reduceIte, Int.reduceEq, Int.reduceLT, Int.reduceLE, Nat.reduceAdd]
      refine (blanksR_spec dq own.hp.fr hw w0).mono ?_
      rintro r H5 ⟨k5, b, rfl, g5⟩
      have own2 := own.join (g5.gr k5) g5
      have own3 : OwnV t H5 v xs (⟨u, 6, mat w hh v 0 0 false⟩ :: ⟨t, 6, Z⟩ :: ⟨b, 7, rowV (List.replicate w blankC)⟩ :: rs) := own2.re ((List.Perm.swap _ _ _).trans (List.Perm.cons _ (List.Perm.swap _ _ _)))
      have l2' := own3.hp.load (b := u) (k := 6) (cs := mat w hh v 0 0 false) (List.mem_cons_self ..) (o := 2) rfl
      refine ⟨by simp only [echoOk, l2', own.same, Bool.and_self, SX, reduceCtorEq, Nat.reduceEqDiff, ↓reduceIte, Int.reduceEq, Int.reduceLT, Int.reduceLE, Nat.reduceAdd], ?_⟩
      obtain ⟨H6, H7, v', p1, p2, own4, k7⟩ := own3.push (bytes := 24) (by omega) (by omega) (by omega) (.slc b 0 w w) rfl
      obtain ⟨H8, s8, own5, k8⟩ := own4.store (o := 2) own4.one (by simp [mat])
      simp only [e0, e1, e4, e5, e6, p1, p2, s8, w1, SX, reduceCtorEq, Nat.reduceEqDiff, ↓reduceIte, Int.reduceEq, Int.reduceLT, Int.reduceLE, Nat.reduceAdd]
      have hbn := own.hp.bn
      exact ⟨hh - (i + 1), by omega, (hI _ _ _).2 ⟨i + 1, v', xs ++ [.slc b 0 w w], ⟨b, 7, rowV (List.replicate w blankC)⟩ :: rs, rfl, by omega, by simp [hxl], fun x hx => by
        rcases List.mem_append.1 hx with hx | hx
        · obtain ⟨b', q1, q2⟩ := hxs x hx
          exact ⟨b', q1, List.mem_cons_of_mem _ q2⟩
        · rw [List.mem_singleton] at hx
          exact ⟨b, hx, List.mem_cons_self ..⟩, own5, k4.trans ((k5.le hbn).trans (k7.trans k8)), (by simp only [SG, reduceCtorEq, Nat.reduceEqDiff, ↓reduceIte, e0] <;> rfl), (by simp only [SG, reduceCtorEq, Nat.reduceEqDiff, ↓reduceIte, e1] <;> rfl), (by simp only [SG, reduceCtorEq, Nat.reduceEqDiff, ↓reduceIte, e4] <;> rfl), (by simp only [SG, reduceCtorEq, Nat.reduceEqDiff, ↓reduceIte, e5] <;> rfl), (by first | (simp only [SG, reduceCtorEq, Nat.reduceEqDiff, ↓reduceIte] <;> rfl) | rfl)⟩⟩
    · obtain rfl : i = hh := by omega
      have l6 := own.hp.loadN (b := u) (k := 6) (cs := mat w i v 0 0 false) (List.mem_cons_self ..) (n := 6) rfl
      obtain ⟨H5, s5, own5, k5⟩ := own.storeTail (new := mat w i v 0 0 false) hZl rfl (mat_one own.one)
      have l7 := own5.hp.loadN (b := t) (k := 6) (cs := mat w i v 0 0 false) (List.mem_cons_self ..) (n := 6) rfl
      simp only [e0, e1, e4, e5, e6, d, l6, s5, resCell, l7, SX, reduceCtorEq, Nat.reduceEqDiff, ↓reduceIte, Int.reduceEq, Int.reduceLT, Int.reduceLE, Nat.reduceAdd]
      have hkk := k4.trans k5
      rw [← ht] at hkk
      refine ⟨⟨hkk, by rw [ht]; exact own5.hp.bn, own5.hp.fr⟩, v, rfl, own.one, fun H9 ha hn9 => ?_⟩
      have own5 := own5.agree ha hn9
      refine own5.rows (by simp [hxl]) fun j x hx => ?_
      rw [List.getElem?_replicate] at hx
      split at hx
      · obtain rfl := Option.some.inj hx
        obtain ⟨y, hy⟩ : ∃ y, xs[j]? = some y := ⟨_, List.getElem?_eq_getElem (by omega)⟩
        obtain ⟨b, rfl, q2⟩ := hxs y (List.mem_of_getElem? hy)
        have := own5.hp.rowS (b := b) (l := List.replicate w blankC) (cap := w) (List.mem_cons_of_mem _ (List.mem_cons_of_mem _ q2)) (by rw [List.length_replicate]; exact Nat.le_refl _)
        rw [List.length_replicate] at this
        exact ⟨_, hy, this⟩
      · cases hx
set_option maxHeartbeats 16000000 in
theorem given_spec (hf : Fr H) {w hh : Nat} {x y : Int} {s : Bool} {v : AV} {l : List Ce} (h : RowS H v l) (hw : 1 ≤ w ∧ w ≤ 400) (hh4 : 1 ≤ hh ∧ hh ≤ 400) (hl : l.length = w * hh) : FnTo Q 6 [.agg (mat w hh v x y s)] H (fun r H' => Gr H H' ∧ ∃ v', r = .agg (mat w hh v' x y s) ∧ v'.one = true ∧ IsS RowR H' v' ((List.range hh).map fun j => lineP l w j)) := by
  refine fn_wp (dq.pq.ho 6 rfl _) dq.q6 (by simp [A6]) ?_
  have ho : (mat w hh v x y s).all AV.one = true := mat_one h.one
  have hmx : w * hh ≤ 160000 := by have := Nat.mul_le_mul hw.2 hh4.2; omega
  obtain ⟨Z, hZ⟩ : ∃ Z : List AV, [AV.int .i64 0, .int .i64 0, .nils, .int .i64 0, .int .i64 0, .bool false] = Z := ⟨_, rfl⟩
  have hZl : Z.length = 6 := by rw [← hZ]; rfl
  obtain ⟨H0, s0, g0, k0⟩ := (Hp.nil H hf).make (mat w hh v x y s) 6
  obtain ⟨q, hq⟩ : ∃ q, H.next = q := ⟨_, rfl⟩
  rw [hq] at g0 k0
  obtain ⟨H1, s1, g1, k1⟩ := g0.make Z 6
  obtain ⟨t, ht⟩ : ∃ t, H0.next = t := ⟨_, rfl⟩
  rw [ht] at g1
  have lq : ∀ {H' : AHeap} {L : List Cel}, Hp q H' L → (⟨q, 6, mat w hh v x y s⟩ : Cel) ∈ L → loadV H' Option.none (.ptr q 0) = some (.int .i64 w) ∧ loadV H' Option.none (.ptr q 1) = some (.int .i64 hh) ∧ loadV H' Option.none (.ptr q 2) = some v ∧ loadV H' Option.none (.ptr q 3) = some (.int .i64 x) ∧ loadV H' Option.none (.ptr q 4) = some (.int .i64 y) ∧ loadV H' Option.none (.ptr q 5) = some (.bool s) := fun g hm =>
    ⟨g.load hm (o := 0) rfl, g.load hm (o := 1) rfl, g.load hm (o := 2) rfl, g.load hm (o := 3) rfl, g.load hm (o := 4) rfl, g.load hm (o := 5) rfl⟩
  obtain ⟨a0, a1, a2, a3, a4, a5⟩ := lq g1 (by simp)
  obtain ⟨H2, s2, g2, k2⟩ := g1.make Z 6
  obtain ⟨u, hu⟩ : ∃ u, H1.next = u := ⟨_, rfl⟩
  rw [hu] at g2
  obtain ⟨H3, s3, g3, k3, _⟩ := g2.storeN (n := 6) (new := mat w hh .nils x y s) hZl rfl rfl
  obtain ⟨b0, b1, b2, b3, b4, b5⟩ := lq g3 (by simp)
  have bd : buildV Z [(0, 1, .int .i64 w), (1, 1, .int .i64 hh), (3, 1, .int .i64 x), (4, 1, .int .i64 y), (5, 1, .bool s)] = some (.agg (mat w hh .nils x y s)) := by rw [← hZ]; rfl
  have c1 : ¬ (w : Int) < 1 := by omega
  have c2 : ¬ (hh : Int) < 1 := by omega
  have c3 : ¬ (400 : Int) < w := by omega
  have c4 : ¬ (400 : Int) < hh := by omega
  have ln := h.len H3
  have wm : IntKind.wrap .i64 ((w : Int) * (hh : Int)) = (l.length : Int) := by rw [← Int.natCast_mul, ← hl]; exact wrapNat (by omega)
  simp only [A6, hZ, boxV_agg ho, s0, hq, run_allocL, s1, ht, a0, a1, a3, a4, a5, run_build, bd, s2, hu, s3, b0, b1, b2, c1, c2, c3, c4, ln, wm, SX, reduceCtorEq, Nat.reduceEqDiff, ↓reduceIte, Int.reduceEq, Int.reduceLT, Int.reduceLE, Nat.reduceAdd]
  obtain ⟨I, hI⟩ : ∃ I : Nat → Env → AHeap → Prop, ∀ m e H', I m e H' ↔ (∃ (i : Nat) (v' : AV) (xs : List AV), m = hh - i ∧ i ≤ hh ∧ xs.length = i ∧ (∀ (j : Nat) z, xs[j]? = some z → RowS H z (lineP l w j)) ∧ OwnV q H' v' xs (⟨u, 6, mat w hh v' x y s⟩ :: ⟨t, 6, Z⟩ :: [⟨q, 6, mat w hh v x y s⟩]) ∧ Gr H H' ∧
      Env.get e 1 = .ptr q 0 ∧ Env.get e 2 = .ptr t 0 ∧ Env.get e 3 = .ptr u 0 ∧ Env.get e 4 = .int .i64 i) := ⟨_, fun _ _ _ => Iff.rfl⟩
  have mkGr : ∀ {H' : AHeap} {L : List Cel}, Hp q H' L → Keep q H H' → Gr H H' := fun g k => ⟨by rw [hq]; exact k, by rw [hq]; exact g.bn, g.fr⟩
  refine loop_by I hh ?_ ?_
  · exact (hI _ _ _).2 ⟨0, .nils, [], rfl, by omega, rfl, fun j z hz => by simp at hz, .inl ⟨rfl, rfl, g3⟩, mkGr g3 (k0.trans (k1.trans (k2.trans k3))), (by first | (simp only [SG, reduceCtorEq, Nat.reduceEqDiff, ↓reduceIte] <;> rfl) | rfl), (by first | (simp only [SG, reduceCtorEq, Nat.reduceEqDiff, ↓reduceIte] <;> rfl) | rfl), (by first | (simp only [SG, reduceCtorEq, Nat.reduceEqDiff, ↓reduceIte] <;> rfl) | rfl), (by first | (simp only [SG, reduceCtorEq, Nat.reduceEqDiff, ↓reduceIte] <;> rfl) | rfl)⟩
  · intro m e H4 hinv
    obtain ⟨i, v', xs, rfl, hi, hxl, hxs, own, gg, e1, e2, e3, e4⟩ := (hI _ _ _).1 hinv
    obtain ⟨b0, b1, b2, b3, b4, b5⟩ := lq own.hp (by simp)
    by_cases d : (i : Int) < hh
    · have w1 : IntKind.wrap .i64 ((i : Int) + 1) = ((i + 1 : Nat) : Int) := wrapNat (n := i + 1) (by omega)
      have m1 : i * w ≤ 160000 := by have := Nat.mul_le_mul (show i ≤ 400 by omega) hw.2; omega
      have m2 : (i + 1) * w ≤ l.length := by
        have h1 : (i + 1) * w ≤ hh * w := Nat.mul_le_mul_right _ (by omega)
        rw [Nat.mul_comm hh w] at h1; omega
      have w2 : IntKind.wrap .i64 ((i : Int) * (w : Int)) = ((i * w : Nat) : Int) := by rw [← Int.natCast_mul]; exact wrapNat (by omega)
      have w3 : IntKind.wrap .i64 (((i + 1 : Nat) : Int) * (w : Int)) = (((i + 1) * w : Nat) : Int) := by rw [← Int.natCast_mul]; exact wrapNat (by omega)
      have l2 := own.hp.load (b := u) (k := 6) (cs := mat w hh v' x y s) (List.mem_cons_self ..) (o := 2) rfl
      obtain ⟨sl, _⟩ := (h.grow hf gg).slice (m := i * w) (n := (i + 1) * w) (Nat.mul_le_mul_right _ (by omega)) m2
      obtain ⟨_, rs⟩ := h.slice (m := i * w) (n := (i + 1) * w) (Nat.mul_le_mul_right _ (by omega)) m2
      obtain ⟨z, hz⟩ : ∃ z, slcOf v (i * w) ((i + 1) * w) = z := ⟨_, rfl⟩
      rw [hz] at sl rs
      obtain ⟨H6, H7, v2, p1, p2, own4, k7⟩ := own.push (bytes := 24) (by omega) (by omega) (by omega) z rs.one
      obtain ⟨H8, s8, own5, k8⟩ := own4.store (o := 2) own4.one (by simp [mat])
      have g8 : Gr H H8 := mkGr own5.hp (by have := gg.keep; rw [hq] at this; exact this.trans (k7.trans k8))
      simp only [e1, e2, e3, e4, d, b0, b1, b2, l2, w1, w2, w3, sl, Option.map_some, bs1V_one rs.one, p1, p2, s8, SX, reduceCtorEq, Nat.reduceEqDiff, ↓reduceIte, Int.reduceEq, Int.reduceLT, Int.reduceLE, Nat.reduceAdd]
      refine ⟨hh - (i + 1), by omega, (hI _ _ _).2 ⟨i + 1, v2, xs ++ [z], rfl, by omega, by simp [hxl], ?_, own5, g8, (by simp only [SG, reduceCtorEq, Nat.reduceEqDiff, ↓reduceIte, e1] <;> rfl), (by simp only [SG, reduceCtorEq, Nat.reduceEqDiff, ↓reduceIte, e2] <;> rfl), (by simp only [SG, reduceCtorEq, Nat.reduceEqDiff, ↓reduceIte, e3] <;> rfl), (by first | (simp only [SG, reduceCtorEq, Nat.reduceEqDiff, ↓reduceIte] <;> rfl) | rfl)⟩⟩
      intro j y' hy
      by_cases hj : j < i
      · rw [List.getElem?_append_left (by omega)] at hy
        exact hxs j y' hy
      · rw [List.getElem?_append_right (by omega), hxl] at hy
        have hji : j = i := by
          have := (List.getElem?_eq_some_iff.1 hy).1
          simp at this; omega
        subst hji
        simp at hy
        subst hy
        exact rs
    · obtain rfl : i = hh := by omega
      have l6 := own.hp.loadN (b := u) (k := 6) (cs := mat w i v' x y s) (List.mem_cons_self ..) (n := 6) rfl
      obtain ⟨H5, s5, own5, k5⟩ := own.storeTail (new := mat w i v' x y s) hZl rfl (mat_one own.one)
      have l7 := own5.hp.loadN (b := t) (k := 6) (cs := mat w i v' x y s) (List.mem_cons_self ..) (n := 6) rfl
      simp only [e1, e2, e3, e4, d, b1, l6, s5, resCell, l7, SX, reduceCtorEq, Nat.reduceEqDiff, ↓reduceIte, Int.reduceEq, Int.reduceLT, Int.reduceLE, Nat.reduceAdd]
      have g5 : Gr H H5 := mkGr own5.hp (by have := gg.keep; rw [hq] at this; exact this.trans k5)
      refine ⟨g5, v', rfl, own.one, own5.rows (by simp [hxl]) fun j z hz => ?_⟩
      simp only [List.getElem?_map, Option.map_eq_some_iff] at hz
      obtain ⟨j', hj, rfl⟩ := hz
      obtain ⟨hj1, hj2⟩ := List.getElem?_eq_some_iff.1 hj
      simp at hj1 hj2
      subst hj2
      obtain ⟨y', hy⟩ : ∃ y', xs[j]? = some y' := ⟨_, List.getElem?_eq_getElem (by omega)⟩
      exact ⟨y', hy, (hxs j y' hy).grow hf g5⟩
end
end Go.Proofs.YtfcnjfbnffijhaaDoor.AM
