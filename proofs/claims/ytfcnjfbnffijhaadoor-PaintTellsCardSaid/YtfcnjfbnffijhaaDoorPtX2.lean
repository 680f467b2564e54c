/-
  Frames that are alike, cells that are unlike; the builder; characters, colors, attributes in bytes.
-/
import Derived.Test.YtfcnjfbnffijhaaDoorPtX1
import Derived.Test.YtfcnjfbnffijhaaDoorAmBld
import Derived.Test.YtfcnjfbnffijhaaDoorShelf
import Derived.Lib.ItoaNum
set_option linter.unusedVariables false
set_option linter.unusedSimpArgs false
namespace Go.Proofs.YtfcnjfbnffijhaaDoor.AM
open Go
deriving instance DecidableEq for Ce
theorem seq7d (c d : Ce) : seqV [1, 1, 1, 1, 1, 1, 1] true (.agg c.cs) (.agg d.cs) = some (.bool (!decide (c = d))) := by
  obtain ⟨r, w, f, k1, n1, k2, n2⟩ := c
  obtain ⟨r', w', f', k1', n1', k2', n2'⟩ := d
  simp only [seqV, ROp.run, Opd.ev, Ce.cs, Ce.at, List.length_cons, List.length_nil, Nat.zero_add, Nat.reduceAdd, and_self, if_true, cellsEq, Ce.mk.injEq]
  by_cases h1 : r = r'
  case neg => simp [h1]
  by_cases h2 : w = w'
  case neg => simp [h1, h2]
  by_cases h3 : f = f'
  case neg => simp [h1, h2, h3]
  by_cases h4 : k1 = k1'
  case neg => simp [h1, h2, h3, h4]
  by_cases h5 : n1 = n1'
  case neg => simp [h1, h2, h3, h4, h5]
  by_cases h6 : k2 = k2'
  case neg => simp [h1, h2, h3, h4, h5, h6]
  by_cases h7 : n2 = n2'
  case neg => simp [h1, h2, h3, h4, h5, h6, h7]
  simp [h1, h2, h3, h4, h5, h6, h7]
theorem Hp.of_gr {base : Nat} {H H' : AHeap} {L : List Cel} (h : Hp base H L) (g : Gr H H') : Hp base H' L := h.keep g.keep g.next g.fr
def sameM (w h x y : Int) (s : Bool) (l : List Ce) (w' h' x' y' : Int) (s' : Bool) (l' : List Ce) : Bool :=
  decide (w = w') && (decide (h = h') && (decide (x = x') && (decide (y = y') && (decide (s = s') && decide (l = l')))))
structure PnQ (Q : Prog) : Prop where
  pq : PaQ Q
  q11 : Q.fns 11 = some A11
  q9 : Q.fns 9 = some A9
  q26 : Q.fns 26 = some A26
  q24 : Q.fns 24 = some A24
section
variable {Q : Prog} (nq : PnQ Q) {H : AHeap}
include nq
set_option maxHeartbeats 4000000 in
theorem equal_spec {v w : AV} {l m : List Ce} (h1 : RowS H v l) (h2 : RowS H w m) (hl : l.length ≤ 1000000) : FnTo Q 24 [v, w] H (fun r H' => r = .bool (decide (l = m)) ∧ H' = H) := by
  refine fn_wp (nq.pq.ho 24 rfl _) nq.q24 (by simp [A24]) ?_
  have ln1 := h1.len H
  have ln2 := h2.len H
  by_cases c : l.length = m.length
  · have c' : (l.length : Int) = m.length := by omega
    simp only [A24, ln1, ln2, c', SX, reduceCtorEq, Nat.reduceEqDiff, ↓reduceIte, Int.reduceEq, Int.reduceLT, Int.reduceLE, Nat.reduceAdd]
    obtain ⟨I, hI⟩ : ∃ I : Nat → Env → AHeap → Prop, ∀ k e H', I k e H' ↔ (H' = H ∧ ∃ i : Nat, k = l.length - i ∧ i ≤ l.length ∧ l.take i = m.take i ∧ Env.get e 0 = v ∧ Env.get e 1 = w ∧ Env.get e 12 = .int .i64 m.length ∧ Env.get e 13 = .int .i64 i) := ⟨_, fun _ _ _ => Iff.rfl⟩
    refine loop_by I l.length ?_ ?_
    · exact (hI _ _ _).2 ⟨rfl, 0, rfl, by omega, by simp, (by first | (simp only [SG, reduceCtorEq, Nat.reduceEqDiff, ↓reduceIte] <;> rfl) | rfl), (by first | (simp only [SG, reduceCtorEq, Nat.reduceEqDiff, ↓reduceIte] <;> rfl) | rfl), (by first | (simp only [SG, reduceCtorEq, Nat.reduceEqDiff, ↓reduceIte] <;> rfl) | rfl), (by first | (simp only [SG, reduceCtorEq, Nat.reduceEqDiff, ↓reduceIte] <;> rfl) | rfl)⟩
    · intro k e H' hinv
      obtain ⟨hH, i, rfl, hi, ht, e0, e1, e12, e13⟩ := (hI _ _ _).1 hinv
      rw [hH]
      by_cases d : (i : Int) < m.length
      · obtain ⟨x, hx⟩ : ∃ x, l[i]? = some x := ⟨_, List.getElem?_eq_getElem (by omega)⟩
        obtain ⟨y, hy⟩ : ∃ y, m[i]? = some y := ⟨_, List.getElem?_eq_getElem (by omega)⟩
        obtain ⟨b, p, ix, l7, _⟩ := h1.cell hx .i64
        obtain ⟨b', p', ix', l7', _⟩ := h2.cell hy .i64
        have w1 : IntKind.wrap .i64 ((i : Int) + 1) = ((i + 1 : Nat) : Int) := wrapNat (n := i + 1) (by omega)
        have sq := seq7d x y
        by_cases z : x = y
        · have dz := decide_eq_true z
          simp only [e0, e1, e12, e13, d, ix, l7, ix', l7', run_seq, sq, dz, w1, SX, reduceCtorEq, Nat.reduceEqDiff, ↓reduceIte, Int.reduceEq, Int.reduceLT, Int.reduceLE, Nat.reduceAdd]
          exact ⟨l.length - (i + 1), by omega, (hI _ _ _).2 ⟨rfl, i + 1, rfl, by omega, by rw [List.take_add_one, List.take_add_one, ht, hx, hy, z], (by simp only [SG, reduceCtorEq, Nat.reduceEqDiff, ↓reduceIte, e0] <;> rfl), (by simp only [SG, reduceCtorEq, Nat.reduceEqDiff, ↓reduceIte, e1] <;> rfl), (by simp only [SG, reduceCtorEq, Nat.reduceEqDiff, ↓reduceIte, e12] <;> rfl), (by first | (simp only [SG, reduceCtorEq, Nat.reduceEqDiff, ↓reduceIte] <;> rfl) | rfl)⟩⟩
        · have dz := decide_eq_false z
          have ne : decide (l = m) = false := decide_eq_false fun e => z (by rw [e, hy] at hx; exact (Option.some.inj hx).symm)
          simp only [e0, e1, e12, e13, d, ix, l7, ix', l7', run_seq, sq, dz, ne, SX, reduceCtorEq, Nat.reduceEqDiff, ↓reduceIte, Int.reduceEq, Int.reduceLT, Int.reduceLE, Nat.reduceAdd]
      · have eqd : decide (l = m) = true := decide_eq_true (by
          have a1 : l.take i = l := List.take_of_length_le (by omega)
          have a2 : m.take i = m := List.take_of_length_le (by omega)
          rw [← a1, ht, a2])
        simp only [e0, e1, e12, e13, d, eqd, SX, reduceCtorEq, Nat.reduceEqDiff, ↓reduceIte, Int.reduceEq, Int.reduceLT, Int.reduceLE, Nat.reduceAdd]
  · have c' : ¬ (l.length : Int) = m.length := by omega
    have ne : decide (l = m) = false := decide_eq_false fun e => c (by rw [e])
    simp only [A24, ln1, ln2, c', ne, SX, reduceCtorEq, Nat.reduceEqDiff, ↓reduceIte, Int.reduceEq, Int.reduceLT, Int.reduceLE, Nat.reduceAdd]
set_option maxHeartbeats 8000000 in
theorem Same_spec (hf : Fr H) {w h x y : Int} {s : Bool} {v : AV} {l : List Ce} {w' h' x' y' : Int} {s' : Bool} {v' : AV} {l' : List Ce} (h1 : RowS H v l) (h2 : RowS H v' l') (hl : l.length ≤ 1000000) : FnTo Q 9 [.agg (mat w h v x y s), .agg (mat w' h' v' x' y' s')] H (fun r H' => r = .bool (sameM w h x y s l w' h' x' y' s' l') ∧ Gr H H') := by
  refine fn_wp (nq.pq.ho 9 rfl _) nq.q9 (by simp [A9]) ?_
  obtain ⟨H1, s1, g1, k1⟩ := (Hp.nil H hf).make (mat w h v x y s) 6
  obtain ⟨H2, s2, g2, k2⟩ := g1.make (mat w' h' v' x' y' s') 6
  obtain ⟨p, hp⟩ : ∃ p, H.next = p := ⟨_, rfl⟩
  obtain ⟨q, hq⟩ : ∃ q, H1.next = q := ⟨_, rfl⟩
  have gg := g2.gr (k1.trans k2)
  rw [hp, hq] at g2
  have a0 := g2.load (b := p) (k := 6) (cs := mat w h v x y s) (by simp) (o := 0) rfl
  have a1 := g2.load (b := p) (k := 6) (cs := mat w h v x y s) (by simp) (o := 1) rfl
  have a2 := g2.load (b := p) (k := 6) (cs := mat w h v x y s) (by simp) (o := 2) rfl
  have a3 := g2.load (b := p) (k := 6) (cs := mat w h v x y s) (by simp) (o := 3) rfl
  have a4 := g2.load (b := p) (k := 6) (cs := mat w h v x y s) (by simp) (o := 4) rfl
  have a5 := g2.load (b := p) (k := 6) (cs := mat w h v x y s) (by simp) (o := 5) rfl
  have b0 := g2.load (b := q) (k := 6) (cs := mat w' h' v' x' y' s') (by simp) (o := 0) rfl
  have b1 := g2.load (b := q) (k := 6) (cs := mat w' h' v' x' y' s') (by simp) (o := 1) rfl
  have b2 := g2.load (b := q) (k := 6) (cs := mat w' h' v' x' y' s') (by simp) (o := 2) rfl
  have b3 := g2.load (b := q) (k := 6) (cs := mat w' h' v' x' y' s') (by simp) (o := 3) rfl
  have b4 := g2.load (b := q) (k := 6) (cs := mat w' h' v' x' y' s') (by simp) (o := 4) rfl
  have b5 := g2.load (b := q) (k := 6) (cs := mat w' h' v' x' y' s') (by simp) (o := 5) rfl
  have bq : beqV false (.bool s) (.bool s') = some (.bool (decide (s = s'))) := by cases s <;> cases s' <;> rfl
  unfold sameM
  simp only [A9, boxV_agg (mat_one h1.one), boxV_agg (mat_one h2.one), s1, s2, hp, hq, a0, b0, SX, reduceCtorEq, Nat.reduceEqDiff, ↓reduceIte, Int.reduceEq, Int.reduceLT, Int.reduceLE, Nat.reduceAdd]
  by_cases c1 : w = w'
  case neg => simp only [decide_eq_false c1, Bool.false_and, wantV_undef, SX, reduceCtorEq, Nat.reduceEqDiff, ↓reduceIte, Int.reduceEq, Int.reduceLT, Int.reduceLE, Nat.reduceAdd]; exact gg
  simp only [decide_eq_true c1, Bool.true_and, a1, b1, wantV_undef, SX, reduceCtorEq, Nat.reduceEqDiff, ↓reduceIte, Int.reduceEq, Int.reduceLT, Int.reduceLE, Nat.reduceAdd]
  by_cases c2 : h = h'
  case neg => simp only [decide_eq_false c2, Bool.false_and, wantV_undef, SX, reduceCtorEq, Nat.reduceEqDiff, ↓reduceIte, Int.reduceEq, Int.reduceLT, Int.reduceLE, Nat.reduceAdd]; exact gg
  simp only [decide_eq_true c2, Bool.true_and, a3, b3, wantV_undef, SX, reduceCtorEq, Nat.reduceEqDiff, ↓reduceIte, Int.reduceEq, Int.reduceLT, Int.reduceLE, Nat.reduceAdd]
  by_cases c3 : x = x'
  case neg => simp only [decide_eq_false c3, Bool.false_and, wantV_undef, SX, reduceCtorEq, Nat.reduceEqDiff, ↓reduceIte, Int.reduceEq, Int.reduceLT, Int.reduceLE, Nat.reduceAdd]; exact gg
  simp only [decide_eq_true c3, Bool.true_and, a4, b4, wantV_undef, SX, reduceCtorEq, Nat.reduceEqDiff, ↓reduceIte, Int.reduceEq, Int.reduceLT, Int.reduceLE, Nat.reduceAdd]
  by_cases c4 : y = y'
  case neg => simp only [decide_eq_false c4, Bool.false_and, wantV_undef, SX, reduceCtorEq, Nat.reduceEqDiff, ↓reduceIte, Int.reduceEq, Int.reduceLT, Int.reduceLE, Nat.reduceAdd]; exact gg
  simp only [decide_eq_true c4, Bool.true_and, a5, b5, run_beq, bq, wantV_undef, SX, reduceCtorEq, Nat.reduceEqDiff, ↓reduceIte, Int.reduceEq, Int.reduceLT, Int.reduceLE, Nat.reduceAdd]
  by_cases c5 : s = s'
  case neg => simp only [decide_eq_false c5, Bool.false_and, wantV_undef, SX, reduceCtorEq, Nat.reduceEqDiff, ↓reduceIte, Int.reduceEq, Int.reduceLT, Int.reduceLE, Nat.reduceAdd]; exact gg
  simp only [decide_eq_true c5, Bool.true_and, a2, b2, wantV_undef, SX, reduceCtorEq, Nat.reduceEqDiff, ↓reduceIte, Int.reduceEq, Int.reduceLT, Int.reduceLE, Nat.reduceAdd]
  refine (equal_spec nq (h1.grow hf gg) (h2.grow hf gg) hl).mono ?_
  rintro _ H3 ⟨rfl, hH3⟩
  rw [hH3]
  simp only [wantV_undef, SX, reduceCtorEq, Nat.reduceEqDiff, ↓reduceIte, Int.reduceEq, Int.reduceLT, Int.reduceLE, Nat.reduceAdd]
  exact gg
end
/-- a store into a block that has no room for a cell leaves cells alone -/
theorem RowS.other {H H' : AHeap} {v : AV} {l : List Ce} (h : RowS H v l) (hl : l ≠ []) {p : Nat} {B : Blk} (hB : H.get p = some (.row B)) (hc : B.cells.length < 7) (ho : ∀ c, c ≠ p → H'.get c = H.get c) : RowS H' v l := by
  rcases h with ⟨_, e⟩ | ⟨b, o, cap, B', hv, h1, h2, h3, h4, pre, post, h5, h6⟩
  · exact absurd e hl
  · refine .inr ⟨b, o, cap, B', hv, h1, ?_, h3, h4, pre, post, h5, h6⟩
    rw [ho b ?_]; exact h2
    rintro rfl
    rw [hB] at h2
    obtain rfl : B = B' := by simpa using h2
    rw [h5] at hc
    simp only [List.length_append, rowV_len] at hc
    have : l.length ≠ 0 := by simpa using hl
    omega
/-- what a frame is told beyond -/
def baseL (w h x y : Int) (l : List Ce) (w' h' : Int) : List Ce := if rightM w h x y l = true ∧ w = w' ∧ h = h' then l else List.replicate (w'.toNat * h'.toNat) blankC
def unlikeC (lo ln : List Ce) : Nat → Nat
  | 0 => 0
  | i + 1 => unlikeC lo ln i + (if ln.getD i blankC = lo.getD i blankC then 0 else 1)
theorem unlikeC_le (lo ln : List Ce) : ∀ i, unlikeC lo ln i ≤ i
  | 0 => Nat.le_refl _
  | i + 1 => by
    have := unlikeC_le lo ln i
    unfold unlikeC; split <;> omega
def unlikeM (w h x y : Int) (l : List Ce) (w' h' x' y' : Int) (l' : List Ce) : Nat := if rightM w' h' x' y' l' = true then unlikeC (baseL w h x y l w' h') l' l'.length else 0
theorem getDof {l : List Ce} {i : Nat} {c : Ce} (h : l[i]? = some c) : l.getD i blankC = c := by rw [List.getD_eq_getElem?_getD, h]; rfl
theorem rightM_size {w h x y : Int} {l : List Ce} (h1 : rightM w h x y l = true) : sizeP w h = true ∧ (l.length : Int) = w * h := by
  unfold rightM at h1
  simp only [Bool.and_eq_true, decide_eq_true_eq] at h1
  exact ⟨h1.1.1.1, h1.1.1.2⟩
theorem size_len {w h : Int} {n : Nat} (sz : sizeP w h = true) (e : (n : Int) = w * h) : n = w.toNat * h.toNat := by
  obtain ⟨w0, w4, h0, h4⟩ := sizeP_true sz
  obtain ⟨a, rfl⟩ : ∃ a : Nat, w = a := ⟨w.toNat, by omega⟩
  obtain ⟨b, rfl⟩ : ∃ b : Nat, h = b := ⟨h.toNat, by omega⟩
  rw [Int.toNat_natCast, Int.toNat_natCast]
  rw [← Int.natCast_mul] at e
  omega
theorem baseL_len {w h x y : Int} {l : List Ce} {w' h' : Int} : (baseL w h x y l w' h').length = w'.toNat * h'.toNat := by
  unfold baseL
  split
  · rename_i hh
    obtain ⟨a, rfl, rfl⟩ := hh
    obtain ⟨b, c⟩ := rightM_size a
    exact size_len b c
  · simp
section
variable {Q : Prog} (nq : PnQ Q) {H : AHeap}
include nq
set_option maxHeartbeats 8000000 in
theorem base_spec (ht : hasTabs H TT = true) (hf : Fr H) {w h x y : Int} {s : Bool} {v : AV} {l : List Ce} {w' h' x' y' : Int} {s' : Bool} {v' : AV} (h1 : RowS H v l) (o2 : v'.one = true) (sz : sizeP w' h' = true) :
    FnTo Q 26 [.agg (mat w h v x y s), .agg (mat w' h' v' x' y' s')] H (fun r H' => Gr H H' ∧ if rightM w h x y l = true ∧ w = w' ∧ h = h' then r = .tup [.agg (mat w h v x y s), .bool false] else ∃ u m, r = .tup [.agg (mat w' h' u 0 0 false), .bool true] ∧ RowS H' u m ∧ m = List.replicate (w'.toNat * h'.toNat) blankC) := by
  refine fn_wp (nq.pq.ho 26 rfl _) nq.q26 (by simp [A26]) ?_
  obtain ⟨H1, s1, g1, k1⟩ := (Hp.nil H hf).make (mat w h v x y s) 6
  obtain ⟨H2, s2, g2, k2⟩ := g1.make (mat w' h' v' x' y' s') 6
  obtain ⟨H3, s3, g3, k3⟩ := g2.make [.int .i64 0, .int .i64 0, .nils, .int .i64 0, .int .i64 0, .bool false] 6
  obtain ⟨Z, hZ⟩ : ∃ Z : List AV, [AV.int .i64 0, .int .i64 0, .nils, .int .i64 0, .int .i64 0, .bool false] = Z := ⟨_, rfl⟩
  obtain ⟨p, hp⟩ : ∃ p, H.next = p := ⟨_, rfl⟩
  obtain ⟨q, hq⟩ : ∃ q, H1.next = q := ⟨_, rfl⟩
  obtain ⟨t, hT⟩ : ∃ t, H2.next = t := ⟨_, rfl⟩
  have kk := k1.trans (k2.trans k3)
  have gg := g3.gr kk
  rw [hp, hq, hT] at g3
  rw [hZ] at g3
  have a6 := g3.loadN (b := p) (k := 6) (cs := mat w h v x y s) (by simp) (n := 6) rfl
  simp only [A26, boxV_agg (mat_one h1.one), boxV_agg (mat_one o2), s1, s2, s3, run_allocL, hp, hq, hT, a6, SX, reduceCtorEq, Nat.reduceEqDiff, ↓reduceIte, Int.reduceEq, Int.reduceLT, Int.reduceLE, Nat.reduceAdd]
  refine (Right_spec nq.pq (gg.tabs hf ht) g3.fr (h1.grow hf gg)).mono ?_
  rintro _ H4 ⟨rfl, gr4⟩
  have g4 := g3.of_gr gr4
  have hb0 : p ≤ H3.next := by rw [← hp]; exact gg.next
  rw [hp] at kk
  have k4 : Keep p H H4 := kk.trans (gr4.keep.le hb0)
  have toG : ∀ {H' : AHeap} {L : List Cel}, Hp p H' L → Keep p H H' → Gr H H' := by rw [← hp]; exact fun a b => a.gr b
  have a0 := g4.load (b := p) (k := 6) (cs := mat w h v x y s) (by simp) (o := 0) rfl
  have a1 := g4.load (b := p) (k := 6) (cs := mat w h v x y s) (by simp) (o := 1) rfl
  have a6 := g4.loadN (b := p) (k := 6) (cs := mat w h v x y s) (by simp) (n := 6) rfl
  have b0 := g4.load (b := q) (k := 6) (cs := mat w' h' v' x' y' s') (by simp) (o := 0) rfl
  have b1 := g4.load (b := q) (k := 6) (cs := mat w' h' v' x' y' s') (by simp) (o := 1) rfl
  have other : ¬ (rightM w h x y l = true ∧ w = w' ∧ h = h') → FnTo Q 16 [.int .i64 w', .int .i64 h'] H4 (fun r H' => ∃ u m H5, r = .agg (mat w' h' u 0 0 false) ∧ storeE H' 6 (.ptr t 0) r = some (.undef, H5) ∧ loadV H5 (some 6) (.ptr t 0) = some r ∧ Gr H H5 ∧ RowS H5 u m ∧ m = List.replicate (w'.toNat * h'.toNat) blankC) := fun _ => by
    refine (Blank_spec nq.pq g4.fr w' h').mono ?_
    rintro r H' ⟨k5, hr⟩
    rcases hr with ⟨hr, _⟩ | ⟨_, b, rfl, g5⟩
    · rw [hr] at sz; cases sz
    · have g6 := g4.joinG (g5.gr k5) g5
      have g7 : Hp p H' (⟨t, 6, Z⟩ :: ⟨b, 7, rowV (List.replicate (w'.toNat * h'.toNat) blankC)⟩ :: [⟨q, 6, mat w' h' v' x' y' s'⟩, ⟨p, 6, mat w h v x y s⟩]) := g6.perm (List.Perm.swap _ _ _)
      obtain ⟨H5, s5, g8, k8, _⟩ := g7.storeN (b := t) (n := 6) (new := mat w' h' (.slc b 0 (w'.toNat * h'.toNat) (w'.toNat * h'.toNat)) 0 0 false) (by rw [← hZ]; rfl) rfl (mat_one rfl)
      have l8 := g8.loadN (b := t) (List.mem_cons_self ..) (n := 6) rfl
      have rs := g8.rowS (b := b) (l := List.replicate (w'.toNat * h'.toNat) blankC) (cap := w'.toNat * h'.toNat) (by simp) (by simp)
      rw [List.length_replicate] at rs
      exact ⟨_, _, H5, rfl, s5, l8, toG g8 (k4.trans ((k5.le (Nat.le_trans hb0 gr4.next)).trans k8)), rs, rfl⟩
  cases hr : rightM w h x y l with
  | false =>
    simp only [b0, b1, wantV_undef, SX, reduceCtorEq, Nat.reduceEqDiff, ↓reduceIte, Int.reduceEq, Int.reduceLT, Int.reduceLE, Nat.reduceAdd]
    refine (other (by rw [hr]; simp)).mono ?_
    rintro _ H' ⟨u, m, H5, rfl, s5, l5, g5, rs, hm⟩
    simp only [s5, l5, SX, reduceCtorEq, Nat.reduceEqDiff, ↓reduceIte, Int.reduceEq, Int.reduceLT, Int.reduceLE, Nat.reduceAdd]
    exact ⟨g5, by rw [if_neg (by simp)]; exact ⟨u, m, rfl, rs, hm⟩⟩
  | true =>
    by_cases c1 : w = w'
    case neg =>
      simp only [a0, b0, b1, c1, wantV_undef, SX, reduceCtorEq, Nat.reduceEqDiff, ↓reduceIte, Int.reduceEq, Int.reduceLT, Int.reduceLE, Nat.reduceAdd]
      refine (other (fun hh => c1 hh.2.1)).mono ?_
      rintro _ H' ⟨u, m, H5, rfl, s5, l5, g5, rs, hm⟩
      simp only [s5, l5, SX, reduceCtorEq, Nat.reduceEqDiff, ↓reduceIte, Int.reduceEq, Int.reduceLT, Int.reduceLE, Nat.reduceAdd]
      exact ⟨g5, by rw [if_neg (by simp [c1])]; exact ⟨u, m, rfl, rs, hm⟩⟩
    by_cases c2 : h = h'
    case neg =>
      simp only [a0, b0, a1, b1, c1, c2, wantV_undef, SX, reduceCtorEq, Nat.reduceEqDiff, ↓reduceIte, Int.reduceEq, Int.reduceLT, Int.reduceLE, Nat.reduceAdd]
      refine (other (fun hh => c2 hh.2.2)).mono ?_
      rintro _ H' ⟨u, m, H5, rfl, s5, l5, g5, rs, hm⟩
      simp only [s5, l5, SX, reduceCtorEq, Nat.reduceEqDiff, ↓reduceIte, Int.reduceEq, Int.reduceLT, Int.reduceLE, Nat.reduceAdd]
      exact ⟨g5, u, m, rfl, rs, hm⟩
    obtain ⟨H5, s5, g5, k5, _⟩ := g4.storeN (b := t) (n := 6) (new := mat w h v x y s) (by rw [← hZ]; rfl) rfl (mat_one h1.one)
    have l5 := g5.loadN (b := t) (List.mem_cons_self ..) (n := 6) rfl
    subst c1 c2
    simp only [a0, b0, a1, b1, wantV_undef, SX, reduceCtorEq, Nat.reduceEqDiff, ↓reduceIte, Int.reduceEq, Int.reduceLT, Int.reduceLE, Nat.reduceAdd]
    simp only [a6, s5, l5, SX, reduceCtorEq, Nat.reduceEqDiff, ↓reduceIte, Int.reduceEq, Int.reduceLT, Int.reduceLE, Nat.reduceAdd]
    exact toG g5 (k4.trans k5)
set_option maxHeartbeats 8000000 in
theorem Unlike_spec (ht : hasTabs H TT = true) (hf : Fr H) {w h x y : Int} {s : Bool} {v : AV} {l : List Ce} {w' h' x' y' : Int} {s' : Bool} {v' : AV} {l' : List Ce} (h1 : RowS H v l) (h2 : RowS H v' l') (hl : l'.length ≤ 1000000) :
    FnTo Q 11 [.agg (mat w h v x y s), .agg (mat w' h' v' x' y' s')] H (fun r H' => r = .int .i64 (unlikeM w h x y l w' h' x' y' l' : Nat) ∧ Gr H H') := by
  refine fn_wp (nq.pq.ho 11 rfl _) nq.q11 (by simp [A11]) ?_
  obtain ⟨H1, s1, g1, k1⟩ := (Hp.nil H hf).make (mat w h v x y s) 6
  obtain ⟨H2, s2, g2, k2⟩ := g1.make (mat w' h' v' x' y' s') 6
  obtain ⟨p, hp⟩ : ∃ p, H.next = p := ⟨_, rfl⟩
  obtain ⟨q, hq⟩ : ∃ q, H1.next = q := ⟨_, rfl⟩
  have gg := g2.gr (k1.trans k2)
  have kk := k1.trans k2
  have hb0 : p ≤ H2.next := by rw [← hp]; exact gg.next
  rw [hp, hq] at g2
  rw [hp] at kk
  have b6 := g2.loadN (b := q) (k := 6) (cs := mat w' h' v' x' y' s') (by simp) (n := 6) rfl
  simp only [A11, boxV_agg (mat_one h1.one), boxV_agg (mat_one h2.one), s1, s2, hp, hq, b6, SX, reduceCtorEq, Nat.reduceEqDiff, ↓reduceIte, Int.reduceEq, Int.reduceLT, Int.reduceLE, Nat.reduceAdd]
  refine (Right_spec nq.pq (gg.tabs hf ht) g2.fr (h2.grow hf gg)).mono ?_
  rintro _ H3 ⟨rfl, gr3⟩
  have g3 := g2.of_gr gr3
  have gg3 := gg.trans gr3
  cases bad : rightM w' h' x' y' l' with
  | false =>
    simp only [SX, reduceCtorEq, Nat.reduceEqDiff, ↓reduceIte, Int.reduceEq, Int.reduceLT, Int.reduceLE, Nat.reduceAdd]
    exact ⟨by unfold unlikeM; rw [if_neg (by simp [bad])]; rfl, gg3⟩
  | true =>
  obtain ⟨sz, hlen⟩ := rightM_size bad
  have hlen := size_len sz hlen
  have a6 := g3.loadN (b := p) (k := 6) (cs := mat w h v x y s) (by simp) (n := 6) rfl
  have b6 := g3.loadN (b := q) (k := 6) (cs := mat w' h' v' x' y' s') (by simp) (n := 6) rfl
  simp only [a6, b6, SX, reduceCtorEq, Nat.reduceEqDiff, ↓reduceIte, Int.reduceEq, Int.reduceLT, Int.reduceLE, Nat.reduceAdd]
  refine (base_spec nq (gg3.tabs hf ht) g3.fr (h1.grow hf gg3) h2.one sz).mono ?_
  rintro r H4 ⟨gr4, hr⟩
  have gg4 := gg3.trans gr4
  obtain ⟨m, hm⟩ : ∃ m, baseL w h x y l w' h' = m := ⟨_, rfl⟩
  have hml : m.length = l'.length := by rw [← hm, baseL_len, hlen]
  have hr' : ∃ fw fh fv fx fy fs bl, r = .tup [.agg (mat fw fh fv fx fy fs), .bool bl] ∧ RowS H4 fv m := by
    by_cases c : rightM w h x y l = true ∧ w = w' ∧ h = h'
    · rw [if_pos c] at hr
      rw [baseL, if_pos c] at hm
      subst hm
      exact ⟨_, _, _, _, _, _, _, hr, h1.grow hf gg4⟩
    · rw [if_neg c] at hr
      rw [baseL, if_neg c] at hm
      obtain ⟨u, m', e, rs, e2⟩ := hr
      rw [hm] at e2
      subst e2
      exact ⟨_, _, _, _, _, _, _, e, rs⟩
  clear hr
  obtain ⟨fw, fh, fv, fx, fy, fs, bl, rfl, rm⟩ := hr'
  have g4 := g3.of_gr gr4
  have k4 : Keep p H H4 := (kk.trans (gr3.keep.le hb0)).trans (gr4.keep.le (Nat.le_trans hb0 gr3.next))
  obtain ⟨H5, s5, g5, k5, _⟩ := (g4.perm (List.Perm.swap _ _ _)).storeN (b := p) (n := 6) (new := mat fw fh fv fx fy fs) rfl rfl (mat_one rm.one)
  have toG : ∀ {H' : AHeap} {L : List Cel}, Hp p H' L → Keep p H H' → Gr H H' := by rw [← hp]; exact fun a b => a.gr b
  have gg5 := toG g5 (k4.trans k5)
  have hm0 : m ≠ [] := by
    obtain ⟨w0, w4, h0, h4⟩ := sizeP_true sz
    intro e
    rw [e] at hml
    have : 0 < w'.toNat * h'.toNat := Nat.mul_pos (by omega) (by omega)
    simp at hml; omega
  obtain ⟨es, ty, hBp, _⟩ := (g4.perm (List.Perm.swap _ _ _)).has _ (List.mem_cons_self ..)
  have rm5 : RowS H5 fv m := rm.other hm0 hBp (by simp [mat]) (fun c hc => store_other s5 hc)
  have b2 := g5.load (b := q) (k := 6) (cs := mat w' h' v' x' y' s') (by simp) (o := 2) rfl
  have ln := (h2.grow hf gg5).len H5
  have x0 : extractV 0 (.tup [.agg (mat fw fh fv fx fy fs), .bool bl]) = some (.agg (mat fw fh fv fx fy fs)) := rfl
  have x1 : extractV 1 (.tup [.agg (mat fw fh fv fx fy fs), .bool bl]) = some (.bool bl) := rfl
  simp only [x0, x1, s5, b2, ln, SX, reduceCtorEq, Nat.reduceEqDiff, ↓reduceIte, Int.reduceEq, Int.reduceLT, Int.reduceLE, Nat.reduceAdd]
  obtain ⟨I, hI⟩ : ∃ I : Nat → Env → AHeap → Prop, ∀ k e H', I k e H' ↔ (Gr H5 H' ∧ ∃ i : Nat, k = l'.length - i ∧ i ≤ l'.length ∧ Env.get e 2 = .ptr p 0 ∧ Env.get e 5 = .int .i64 (unlikeC m l' i : Nat) ∧ Env.get e 18 = v' ∧ Env.get e 19 = .int .i64 l'.length ∧ Env.get e 20 = .int .i64 i) := ⟨_, fun _ _ _ => Iff.rfl⟩
  refine loop_by I l'.length ?_ ?_
  · exact (hI _ _ _).2 ⟨Gr.refl g5.fr, 0, rfl, by omega, (by first | (simp only [SG, reduceCtorEq, Nat.reduceEqDiff, ↓reduceIte] <;> rfl) | rfl), (by first | (simp only [SG, reduceCtorEq, Nat.reduceEqDiff, ↓reduceIte] <;> rfl) | rfl), (by first | (simp only [SG, reduceCtorEq, Nat.reduceEqDiff, ↓reduceIte] <;> rfl) | rfl), (by first | (simp only [SG, reduceCtorEq, Nat.reduceEqDiff, ↓reduceIte] <;> rfl) | rfl), (by first | (simp only [SG, reduceCtorEq, Nat.reduceEqDiff, ↓reduceIte] <;> rfl) | rfl)⟩
  · intro k e H6 hinv
    obtain ⟨g6, i, rfl, hi, e2, e5, e18, e19, e20⟩ := (hI _ _ _).1 hinv
    by_cases d : (i : Int) < l'.length
    · obtain ⟨c, hc⟩ : ∃ c, l'[i]? = some c := ⟨_, List.getElem?_eq_getElem (by omega)⟩
      obtain ⟨z, hz⟩ : ∃ z, m[i]? = some z := ⟨_, List.getElem?_eq_getElem (by omega)⟩
      obtain ⟨b, o, ix, l7, _⟩ := (h2.grow hf (gg5.trans g6)).cell hc .i64
      obtain ⟨H7, s7, g7, k7⟩ := (Hp.nil H6 g6.fr).make [.int .i32 0, .int .u8 0, .int .u16 0, .int .u8 0, .int .u32 0, .int .u8 0, .int .u32 0] 7
      obtain ⟨u, hu⟩ : ∃ u, H6.next = u := ⟨_, rfl⟩
      obtain ⟨H8, s8, g8, k8, _⟩ := g7.storeN (n := 7) (new := c.cs) rfl rfl rfl
      have gr8 := g6.trans (g8.gr (k7.trans k8))
      have l8 := g8.loadN (List.mem_cons_self ..) (n := 7) rfl
      rw [hu] at s8 l8
      have a2 := (g5.of_gr gr8).load (b := p) (k := 6) (cs := mat fw fh fv fx fy fs) (by simp) (o := 2) rfl
      obtain ⟨b', o', ix', l7', _⟩ := (rm5.grow g5.fr gr8).cell hz .i64
      have w1 : IntKind.wrap .i64 ((i : Int) + 1) = ((i + 1 : Nat) : Int) := wrapNat (n := i + 1) (by omega)
      have un := unlikeC_le m l' i
      have w2 : IntKind.wrap .i64 ((unlikeC m l' i : Int) + 1) = ((unlikeC m l' i + 1 : Nat) : Int) := wrapNat (n := unlikeC m l' i + 1) (by omega)
      have sq := seq7d c z
      by_cases cz : c = z
      · have dz := decide_eq_true cz
        have nx : unlikeC m l' (i + 1) = unlikeC m l' i := by rw [unlikeC, if_pos (by rw [getDof hc, getDof hz]; exact cz)]; rfl
        simp only [e2, e5, e18, e19, e20, d, ix, l7, run_allocL, s7, hu, s8, l8, a2, ix', l7', run_seq, sq, dz, w1, SX, reduceCtorEq, Nat.reduceEqDiff, ↓reduceIte, Int.reduceEq, Int.reduceLT, Int.reduceLE, Nat.reduceAdd]
        exact ⟨l'.length - (i + 1), by omega, (hI _ _ _).2 ⟨gr8, i + 1, rfl, by omega, (by simp only [SG, reduceCtorEq, Nat.reduceEqDiff, ↓reduceIte, e2] <;> rfl), by rw [nx]; exact (by simp only [SG, reduceCtorEq, Nat.reduceEqDiff, ↓reduceIte, e5] <;> rfl), (by simp only [SG, reduceCtorEq, Nat.reduceEqDiff, ↓reduceIte, e18] <;> rfl), (by simp only [SG, reduceCtorEq, Nat.reduceEqDiff, ↓reduceIte, e19] <;> rfl), (by first | (simp only [SG, reduceCtorEq, Nat.reduceEqDiff, ↓reduceIte] <;> rfl) | rfl)⟩⟩
      · have dz := decide_eq_false cz
        have nx : unlikeC m l' (i + 1) = unlikeC m l' i + 1 := by rw [unlikeC, if_neg (by rw [getDof hc, getDof hz]; exact cz)]
        simp only [e2, e5, e18, e19, e20, d, ix, l7, run_allocL, s7, hu, s8, l8, a2, ix', l7', run_seq, sq, dz, w1, w2, SX, reduceCtorEq, Nat.reduceEqDiff, ↓reduceIte, Int.reduceEq, Int.reduceLT, Int.reduceLE, Nat.reduceAdd]
        exact ⟨l'.length - (i + 1), by omega, (hI _ _ _).2 ⟨gr8, i + 1, rfl, by omega, (by simp only [SG, reduceCtorEq, Nat.reduceEqDiff, ↓reduceIte, e2] <;> rfl), by rw [nx]; exact (by first | (simp only [SG, reduceCtorEq, Nat.reduceEqDiff, ↓reduceIte] <;> rfl) | rfl), (by simp only [SG, reduceCtorEq, Nat.reduceEqDiff, ↓reduceIte, e18] <;> rfl), (by simp only [SG, reduceCtorEq, Nat.reduceEqDiff, ↓reduceIte, e19] <;> rfl), (by first | (simp only [SG, reduceCtorEq, Nat.reduceEqDiff, ↓reduceIte] <;> rfl) | rfl)⟩⟩
    · obtain rfl : i = l'.length := by omega
      simp only [e2, e5, e18, e19, e20, d, SX, reduceCtorEq, Nat.reduceEqDiff, ↓reduceIte, Int.reduceEq, Int.reduceLT, Int.reduceLE, Nat.reduceAdd]
      exact ⟨by unfold unlikeM; rw [if_pos bad, hm], gg5.trans g6⟩
end
/-- a struct of a type at a block of its own, above a base: a builder, its bytes in a row of a type, and other cells -/
structure TelAt (bt ct base : Nat) (H : AHeap) (b : Nat) (t : List UInt8) (a : List AV) : Prop where
  lo : base ≤ b
  lt : b < H.next
  fr : ∀ c, H.next ≤ c → H.get c = none
  ct0 : ct ≠ 0
  bt0 : bt ≠ 0
  al : a.all AV.one = true
  row : ∃ p v, H.get b = some (.row ⟨p :: v :: a, 0, false, true, bt⟩) ∧ (p = .nilp ∨ p = .ptr b 0) ∧
    ((t = [] ∧ v = .nils) ∨ (t ≠ [] ∧ ∃ g, v = .slc g 0 t.length t.length ∧ base ≤ g ∧ g ≠ b ∧ g < H.next ∧ H.get g = some (.row ⟨ofBytes t, 1, false, true, ct⟩)))
theorem TelAt.new {base : Nat} {H : AHeap} {bt ct : Nat} {a : List AV} (hb : base ≤ H.next) (hf : ∀ c, H.next ≤ c → H.get c = none) (h1 : ct ≠ 0) (h2 : bt ≠ 0) (ha : a.all AV.one = true) : TelAt bt ct base (H.alloc (.row ⟨.nilp :: .nils :: a, 0, false, true, bt⟩)) H.next [] a :=
  ⟨hb, by rw [AHeap.next_alloc]; omega, fun c hc => by rw [AHeap.next_alloc] at hc; rw [AHeap.get_alloc, if_neg (by omega)]; exact hf c (by omega), h1, h2, ha, .nilp, .nils, by rw [AHeap.get_alloc, if_pos rfl], .inl rfl, .inl ⟨rfl, rfl⟩⟩
/-- what a builder's functions leave: every row that is neither its own nor of its bytes' type -/
structure Nx (ct b : Nat) (H H' : AHeap) : Prop where
  le : H.next ≤ H'.next
  kt : ∀ (c : Nat) (B : Blk), c ≠ b → H.get c = some (.row B) → B.ty ≠ ct → H'.get c = some (.row B)
theorem Nx.refl (ct b : Nat) (H : AHeap) : Nx ct b H H := ⟨Nat.le_refl _, fun c B _ h _ => h⟩
theorem Nx.trans {ct b : Nat} {H H1 H2 : AHeap} (h : Nx ct b H H1) (k : Nx ct b H1 H2) : Nx ct b H H2 := ⟨Nat.le_trans h.le k.le, fun c B h1 h2 h3 => k.kt c B h1 (h.kt c B h1 h2 h3) h3⟩
theorem Nx.gr {ct b : Nat} {H H' : AHeap} (hf : Fr H) (g : Gr H H') : Nx ct b H H' := ⟨g.next, fun c B _ h _ => g.get hf h⟩
theorem Nx.set {ct b : Nat} {H : AHeap} (o : AObj) : Nx ct b H (H.set b o) := ⟨Nat.le_refl _, fun c B h1 h2 h3 => by rw [AHeap.get_set, if_neg h1]; exact h2⟩
section
variable {base : Nat} {H : AHeap} {bt ct b : Nat} {t : List UInt8} {a : List AV}
theorem TelAt.gr (h : TelAt bt ct base H b t a) {H' : AHeap} (g : Gr H H') : TelAt bt ct base H' b t a := by
  obtain ⟨p, v, h1, h2, h3⟩ := h.row
  refine ⟨h.lo, Nat.lt_of_lt_of_le h.lt g.next, g.fr, h.ct0, h.bt0, h.al, p, v, by rw [g.keep b h.lt]; exact h1, h2, ?_⟩
  rcases h3 with h3 | ⟨hne, x, e, g1, g2, g3, g4⟩
  · exact .inl h3
  · exact .inr ⟨hne, x, e, g1, g2, Nat.lt_of_lt_of_le g3 g.next, by rw [g.keep x g3]; exact g4⟩
theorem TelAt.alloc (h : TelAt bt ct base H b t a) (o : AObj) : TelAt bt ct base (H.alloc o) b t a :=
  h.gr ⟨fun c hc => by rw [AHeap.get_alloc, if_neg (by omega)], by rw [AHeap.next_alloc]; omega, fun c hc => by rw [AHeap.next_alloc] at hc; rw [AHeap.get_alloc, if_neg (by omega)]; exact h.fr c (by omega)⟩
theorem TelAt.keep_alloc (h : TelAt bt ct base H b t a) (o : AObj) : Keep base H (H.alloc o) := fun c hc => by
  have := h.lo; have := h.lt
  rw [AHeap.get_alloc, if_neg (by omega)]
/-- its address is laid into it -/
theorem TelAt.used (h : TelAt bt ct base H b t a) {p v : AV} (h1 : H.get b = some (.row ⟨p :: v :: a, 0, false, true, bt⟩)) : TelAt bt ct base (H.set b (.row ⟨.ptr b 0 :: v :: a, 0, false, true, bt⟩)) b t a ∧ Keep base H (H.set b (.row ⟨.ptr b 0 :: v :: a, 0, false, true, bt⟩)) := by
  obtain ⟨p', v', h1', h2, h3⟩ := h.row
  rw [h1] at h1'; injection h1' with h1'; injection h1' with h1'; injection h1' with h1' _ _ _ _; injection h1' with e1 e2; injection e2 with e2 _; subst e1; subst e2
  refine ⟨⟨h.lo, h.lt, fun c hc => ?_, h.ct0, h.bt0, h.al, .ptr b 0, v, by rw [AHeap.get_set, if_pos rfl], .inr rfl, ?_⟩, fun c hc => ?_⟩
  · have := h.lt
    rw [AHeap.next_set] at hc
    rw [AHeap.get_set, if_neg (by omega)]; exact h.fr c hc
  · rcases h3 with h3 | ⟨hne, g, e, g1, g2, g3, g4⟩
    · exact .inl h3
    · exact .inr ⟨hne, g, e, g1, g2, g3, by rw [AHeap.get_set, if_neg g2]; exact g4⟩
  · have := h.lo
    rw [AHeap.get_set, if_neg (by omega)]
/-- bytes go behind -/
theorem TelAt.app (h : TelAt bt ct base H b t a) {s : List UInt8} {w0 : AV} (hsrc : srcCells H 1 w0 = some (s.length, ofBytes s)) (hl : t.length + s.length ≤ 70368744177664) :
    ∃ v H2 H3 w, loadV H none (.ptr b 1) = some v ∧ appendTE ct H 1 1 v w0 = some (w, H2) ∧ storeE H2 1 (.ptr b 1) w = some (.undef, H3) ∧ TelAt bt ct base H3 b (t ++ s) a ∧ Keep base H H3 ∧ Nx ct b H H3 := by
  obtain ⟨p, v, h1, h2, h3⟩ := h.row
  have hlo := h.lo
  have hlt := h.lt
  by_cases hs : s = []
  · subst hs
    have vo : v.one = true := by rcases h3 with ⟨_, rfl⟩ | ⟨_, g, rfl, _⟩ <;> rfl
    refine ⟨v, H, _, v, load_raw h1 rfl rfl, ?_, store_raw h1 (by simp) vo, ⟨hlo, hlt, fun c hc => ?_, h.ct0, h.bt0, h.al, p, v, by rw [AHeap.get_set, if_pos rfl]; rfl, h2, ?_⟩, fun c hc => ?_, Nx.set _⟩
    · simp only [appendTE, EOp.run, Opd.ev, hsrc, appendA]
      rcases h3 with ⟨_, rfl⟩ | ⟨_, g, rfl, _⟩ <;> simp [ofBytes]
    · rw [AHeap.next_set] at hc
      rw [AHeap.get_set, if_neg (by omega)]; exact h.fr c hc
    · rw [List.append_nil]
      rcases h3 with h3 | ⟨hne, g, e, g1, g2, g3, g4⟩
      · exact .inl h3
      · exact .inr ⟨hne, g, e, g1, g2, g3, by rw [AHeap.get_set, if_neg g2]; exact g4⟩
    · rw [AHeap.get_set, if_neg (by omega)]
  have hs0 : s.length ≠ 0 := by simpa using hs
  have fin : ∀ (H2 : AHeap) (w : AV) (ww : List UInt8), ww = t ++ s → w = .slc H.next 0 ww.length ww.length → w.one = true → H2.next = H.next + 1 → H2.get b = some (.row ⟨p :: v :: a, 0, false, true, bt⟩) → H2.get H.next = some (.row ⟨ofBytes ww, 1, false, true, ct⟩) → (∀ c, H.next + 1 ≤ c → H2.get c = none) → (∀ c, c < base → H2.get c = H.get c) → Nx ct b H H2 →
      ∃ H3, storeE H2 1 (.ptr b 1) w = some (.undef, H3) ∧ TelAt bt ct base H3 b (t ++ s) a ∧ Keep base H H3 ∧ Nx ct b H H3 := by
    intro H2 w ww hww hw hone hn q1 q2 q3 q4 q5
    subst hww
    refine ⟨_, store_raw q1 (by simp) hone, ⟨hlo, by rw [AHeap.next_set, hn]; omega, fun c hc => ?_, h.ct0, h.bt0, h.al, p, w, by rw [AHeap.get_set, if_pos rfl]; rfl, h2, .inr ⟨by simp [hs], H.next, hw, by omega, by omega, by rw [AHeap.next_set, hn]; omega, by rw [AHeap.get_set, if_neg (by omega)]; exact q2⟩⟩, fun c hc => ?_, q5.trans (Nx.set _)⟩
    · rw [AHeap.next_set, hn] at hc
      rw [AHeap.get_set, if_neg (by omega)]; exact q3 c hc
    · rw [AHeap.get_set, if_neg (by omega)]; exact q4 c hc
  rcases h3 with ⟨rfl, rfl⟩ | ⟨hne, g, rfl, g1, g2, g3, g4⟩
  · obtain ⟨H3, f1, f2⟩ := fin (H.alloc (.row ⟨ofBytes s, 1, false, true, ct⟩)) (.slc H.next 0 s.length s.length) s (by simp) rfl rfl rfl (by rw [AHeap.get_alloc, if_neg (by omega)]; exact h1) (by rw [AHeap.get_alloc, if_pos rfl]) (fun c hc => by rw [AHeap.get_alloc, if_neg (by omega)]; exact h.fr c (by omega)) (fun c hc => by rw [AHeap.get_alloc, if_neg (by omega)]) (Nx.gr h.fr ⟨fun c hc => by rw [AHeap.get_alloc, if_neg (by omega)], by rw [AHeap.next_alloc]; omega, fun c hc => by rw [AHeap.next_alloc] at hc; rw [AHeap.get_alloc, if_neg (by omega)]; exact h.fr c (by omega)⟩)
    refine ⟨.nils, _, H3, _, load_raw h1 rfl rfl, ?_, f1, f2⟩
    simp only [appendTE, EOp.run, Opd.ev, hsrc, appendA]
    rw [if_neg (by simp [ones_bytes]), if_neg hs0, if_pos (by simp at hl; omega)]
  · have hcut : AM.cut (ofBytes t) 0 (t.length * 1) = some (ofBytes t) := cut_all _ (by simp [ofBytes])
    have e : ofBytes t ++ ofBytes s = ofBytes (t ++ s) := by simp [ofBytes]
    obtain ⟨H3, f1, f2⟩ := fin ((H.set g (.row ⟨ofBytes t, 1, false, false, ct⟩)).alloc (.row ⟨ofBytes (t ++ s), 1, false, true, ct⟩)) (.slc H.next 0 (t ++ s).length (t ++ s).length) _ rfl rfl rfl rfl
      (by rw [AHeap.get_alloc, AHeap.next_set, if_neg (by omega), AHeap.get_set, if_neg (fun e => g2 e.symm)]; exact h1) (by rw [AHeap.get_alloc, AHeap.next_set, if_pos rfl])
      (fun c hc => by rw [AHeap.get_alloc, AHeap.next_set, if_neg (by omega), AHeap.get_set, if_neg (by omega)]; exact h.fr c (by omega)) (fun c hc => by rw [AHeap.get_alloc, AHeap.next_set, if_neg (by omega), AHeap.get_set, if_neg (by omega)]) ⟨by rw [AHeap.next_alloc, AHeap.next_set]; omega, fun c B m1 m2 m3 => by
        have hc : c < H.next := Nat.lt_of_not_le fun hh => by rw [h.fr c hh] at m2; cases m2
        have hg : c ≠ g := fun e => by rw [e, g4] at m2; injection m2 with m2; injection m2 with m2; rw [← m2] at m3; exact m3 rfl
        rw [AHeap.get_alloc, AHeap.next_set, if_neg (by omega), AHeap.get_set, if_neg hg]; exact m2⟩
    refine ⟨_, _, H3, _, load_raw h1 rfl rfl, ?_, f1, f2⟩
    simp only [appendTE, EOp.run, Opd.ev, hsrc, appendA, row_get g4 rfl, hcut, e, List.length_append]
    rw [if_neg (by simp [ones_bytes]), if_neg (by omega), if_neg (by omega), if_neg (by omega)]
    simp
/-- what it holds, as a text -/
theorem TelAt.str (h : TelAt bt ct base H b t a) (hl : t.length ≤ 9223372036854775807) : ∃ v x H', loadV H none (.ptr b 1) = some v ∧ sldataV v = some x ∧ lngV H 1 v = some (.int .i64 t.length) ∧ strUnsE ct H x (.int .i64 t.length) = some (.str t, H') ∧ Keep base H H' ∧ H.next ≤ H'.next ∧ ∀ c, H'.next ≤ c → H'.get c = none := by
  obtain ⟨p, v, h1, h2, h3⟩ := h.row
  rcases h3 with ⟨rfl, rfl⟩ | ⟨hne, g, rfl, g1, g2, g3, g4⟩
  · exact ⟨.nils, .nilp, H, load_raw h1 rfl rfl, rfl, rfl, rfl, Keep.refl _ _, Nat.le_refl _, h.fr⟩
  · have h0 : 0 < t.length := List.length_pos_iff.2 hne
    have hcut : AM.cut (ofBytes t) 0 t.length = some (ofBytes t) := cut_all _ (by simp [ofBytes])
    refine ⟨_, .ptr g 0, H.set g (.row ⟨ofBytes t, 1, false, false, ct⟩), load_raw h1 rfl rfl, sldata_slc _ _ _ _ h0, rfl, ?_, fun c hc => by rw [AHeap.get_set, if_neg (by omega)], Nat.le_refl _, fun c hc => ?_⟩
    · simp only [strUnsE, EOp.run, Opd.ev, Int.toNat_natCast, row_get g4 rfl, hcut, bytesOf_of]
      rw [if_neg (by have := h.ct0; simp; omega), if_neg (by simp)]
    · rw [AHeap.next_set] at hc
      rw [AHeap.get_set, if_neg (by omega)]; exact h.fr c hc
theorem TelAt.toUns (h : TelAt bt ct base H b t a) : toUnsV H (.ptr b 0) = some (.ptr b 0) := by
  obtain ⟨p, v, h1, h2, h3⟩ := h.row
  have := h.bt0
  simp [toUnsV, ROp.run, Opd.ev, h1, this]
theorem TelAt.fromUns (h : TelAt bt ct base H b t a) {l : List (Nat × Nat × Nat)} {n : Nat} (hl : (bt, n, 0) ∈ l) (hn : n = a.length + 2) : fromUnsV H l (.ptr b 0) = some (.ptr b 0) := by
  obtain ⟨p, v, h1, h2, h3⟩ := h.row
  have := h.bt0
  subst hn
  simp only [fromUnsV, ROp.run, Opd.ev, h1]
  rw [if_pos ⟨this, hl⟩]
end
theorem u8of (x : Int) : ∃ c : UInt8, IntKind.wrap .u8 x = (c.toNat : Int) := by
  have e : IntKind.wrap .u8 x = x % 256 := by simp [IntKind.wrap, IntKind.bits, IntKind.signed]
  obtain ⟨n, hn⟩ : ∃ n : Nat, x % 256 = n := ⟨(x % 256).toNat, by omega⟩
  have h : n < 256 := by omega
  exact ⟨UInt8.ofNat n, by rw [e, hn, UInt8.toNat_ofNat_of_lt' h]⟩
def shrI (a : Int) (i : Nat) : Int := a.fdiv (2 ^ (min i 32))
theorem bin_shrI (k : IntKind) (a : Int) (i : Nat) : binV .shr (.int .i32 a) (.int k (i : Int)) = some (.int .i32 (shrI a i)) := by
  simp only [binV, shiftBin, shrI, Int.toNat_natCast]
  rw [if_neg (by omega)]
  rfl
theorem bin_shr6 (k : IntKind) (a : Int) : binV .shr (.int .i32 a) (.int k 6) = some (.int .i32 (shrI a 6)) := bin_shrI k a 6
theorem bin_shr12 (k : IntKind) (a : Int) : binV .shr (.int .i32 a) (.int k 12) = some (.int .i32 (shrI a 12)) := bin_shrI k a 12
theorem bin_shr18 (k : IntKind) (a : Int) : binV .shr (.int .i32 a) (.int k 18) = some (.int .i32 (shrI a 18)) := bin_shrI k a 18
def or8 (a b : Int) : Int := IntKind.wrap .u8 (((BitVec.ofInt IntKind.u8.bits a ||| BitVec.ofInt IntKind.u8.bits b).toNat : Nat) : Int)
def and8 (a b : Int) : Int := IntKind.wrap .u8 (((BitVec.ofInt IntKind.u8.bits a &&& BitVec.ofInt IntKind.u8.bits b).toNat : Nat) : Int)
theorem bin_or8 (a b : Int) : binV .or (.int .u8 a) (.int .u8 b) = some (.int .u8 (or8 a b)) := by simp [binV, intBin, or8]
theorem bin_and8 (a b : Int) : binV .and (.int .u8 a) (.int .u8 b) = some (.int .u8 (and8 a b)) := by simp [binV, intBin, and8]
theorem or8_of (a b : Int) : ∃ c : UInt8, or8 a b = (c.toNat : Int) := u8of _
def bs2V (a b : AV) : Option (AObj × AKind) := LOp.run .nil (.bslice 1 2 [.int .u8 0] [(0, .c a), (1, .c b)])
theorem run_bs2 (e : Env) (x y : Opd) : LOp.run e (.bslice 1 2 [.int .u8 0] [(0, x), (1, y)]) = bs2V (x.ev e) (y.ev e) := rfl
theorem bs2_ok (a b : Int) : bs2V (.int .u8 a) (.int .u8 b) = some (.row ⟨[.int .u8 a, .int .u8 b], 0, false, true, 0⟩, .slc 2 2) := rfl
def bs3V (a b c : AV) : Option (AObj × AKind) := LOp.run .nil (.bslice 1 3 [.int .u8 0] [(0, .c a), (1, .c b), (2, .c c)])
theorem run_bs3 (e : Env) (x y z : Opd) : LOp.run e (.bslice 1 3 [.int .u8 0] [(0, x), (1, y), (2, z)]) = bs3V (x.ev e) (y.ev e) (z.ev e) := rfl
theorem bs3_ok (a b c : Int) : bs3V (.int .u8 a) (.int .u8 b) (.int .u8 c) = some (.row ⟨[.int .u8 a, .int .u8 b, .int .u8 c], 0, false, true, 0⟩, .slc 3 3) := rfl
def bs4V (a b c d : AV) : Option (AObj × AKind) := LOp.run .nil (.bslice 1 4 [.int .u8 0] [(0, .c a), (1, .c b), (2, .c c), (3, .c d)])
theorem run_bs4 (e : Env) (x y z w : Opd) : LOp.run e (.bslice 1 4 [.int .u8 0] [(0, x), (1, y), (2, z), (3, w)]) = bs4V (x.ev e) (y.ev e) (z.ev e) (w.ev e) := rfl
theorem bs4_ok (a b c d : Int) : bs4V (.int .u8 a) (.int .u8 b) (.int .u8 c) (.int .u8 d) = some (.row ⟨[.int .u8 a, .int .u8 b, .int .u8 c, .int .u8 d], 0, false, true, 0⟩, .slc 4 4) := rfl
section
variable {base : Nat} {H : AHeap} {b : Nat} {t : List UInt8} {a : List AV}
theorem TelAt.put (h : TelAt 64 5 base H b t a) {v : AV} (hv : loadV H none (.ptr b 1) = some v) {s : List UInt8} (hs : s ≠ []) (hl : t.length + s.length ≤ 70368744177664) :
    ∃ H1 H2 H3 w, H.alloc (.row ⟨ofBytes s, 0, false, true, 0⟩) = H1 ∧ appendTE 5 H1 1 1 v (.slc H.next 0 s.length s.length) = some (w, H2) ∧ storeE H2 1 (.ptr b 1) w = some (.undef, H3) ∧ TelAt 64 5 base H3 b (t ++ s) a ∧ Keep base H H3 ∧ Nx 5 b H H3 := by
  have h1 := h.alloc (.row ⟨ofBytes s, 0, false, true, 0⟩)
  have hs0 : s.length ≠ 0 := by simpa using hs
  have hsrc : srcCells (H.alloc (.row ⟨ofBytes s, 0, false, true, 0⟩)) 1 (.slc H.next 0 s.length s.length) = some (s.length, ofBytes s) := by
    have hc : AM.cut (ofBytes s) 0 (s.length * 1) = some (ofBytes s) := cut_all _ (by simp [ofBytes])
    have hr : (H.alloc (.row ⟨ofBytes s, 0, false, true, 0⟩)).row H.next = some ⟨ofBytes s, 0, false, true, 0⟩ := row_get (by rw [AHeap.get_alloc, if_pos rfl]) rfl
    simp only [srcCells]
    rw [if_neg hs0]
    simp only [hr, hc]
  obtain ⟨v', H2, H3, w, q1, q2, q3, q4, q5, q6⟩ := h1.app hsrc hl
  refine ⟨_, H2, H3, w, rfl, ?_, q3, q4, (h.keep_alloc _).trans q5, (Nx.gr h.fr ⟨fun c hc => by rw [AHeap.get_alloc, if_neg (by omega)], by rw [AHeap.next_alloc]; omega, fun c hc => by rw [AHeap.next_alloc] at hc; rw [AHeap.get_alloc, if_neg (by omega)]; exact h.fr c (by omega)⟩).trans q6⟩
  obtain ⟨p, v'', r1, _⟩ := h.row
  have e1 := load_raw (o := 1) r1 rfl (v := v'') rfl
  have hlt := h.lt
  have r2 : (H.alloc (.row ⟨ofBytes s, 0, false, true, 0⟩)).get b = some (.row ⟨p :: v'' :: a, 0, false, true, 64⟩) := by rw [AHeap.get_alloc, if_neg (by omega)]; exact r1
  rw [load_raw (o := 1) r2 rfl (v := v'') rfl] at q1
  rw [e1] at hv
  rw [← Option.some.inj hv, Option.some.inj q1]
  exact q2
end
/-- the bytes of a character -/
def encP (r : Int) : List UInt8 := (Utf8.encode r).data.toList
theorem wrap8 (n : Nat) : IntKind.wrap .u8 (n : Int) = ((n % 256 : Nat) : Int) := by
  have e : IntKind.wrap .u8 (n : Int) = (n : Int) % 256 := by simp [IntKind.wrap, IntKind.bits, IntKind.signed]
  rw [e]; omega
theorem shrI_nat (n i : Nat) (h : i ≤ 32) : shrI (n : Int) i = ((n / 2 ^ i : Nat) : Int) := by
  unfold shrI
  rw [Nat.min_eq_left h]
  have e : ((2 : Int) ^ i) = ((2 ^ i : Nat) : Int) := by simp
  rw [e, Int.ofNat_fdiv]
theorem and_all : ((List.range 256).all fun m => decide (and8 (m : Int) 63 = ((m % 64 : Nat) : Int))) = true := by kernel_rfl
theorem and63 (n : Nat) : and8 (IntKind.wrap .u8 (n : Int)) 63 = ((n % 64 : Nat) : Int) := by
  rw [wrap8]
  have := List.all_eq_true.1 and_all (n % 256) (List.mem_range.2 (by omega))
  simp only [decide_eq_true_eq] at this
  rw [this]; omega
theorem or_all : ((List.range 64).all fun m => decide (or8 128 (m : Int) = ((128 + m : Nat) : Int))) = true ∧ ((List.range 32).all fun m => decide (or8 192 (m : Int) = ((192 + m : Nat) : Int))) = true ∧ ((List.range 16).all fun m => decide (or8 224 (m : Int) = ((224 + m : Nat) : Int))) = true ∧ ((List.range 8).all fun m => decide (or8 240 (m : Int) = ((240 + m : Nat) : Int))) = true := ⟨by kernel_rfl, by kernel_rfl, by kernel_rfl, by kernel_rfl⟩
theorem or8N (k : Nat) {m w : Nat} (hm : m < w) (h : ((List.range w).all fun m => decide (or8 (k : Int) (m : Int) = ((k + m : Nat) : Int))) = true) (hk : k + w ≤ 256) : or8 (k : Int) (m : Int) = ((UInt8.ofNat (k + m)).toNat : Int) := by
  have := List.all_eq_true.1 h m (List.mem_range.2 hm)
  simp only [decide_eq_true_eq] at this
  rw [this, UInt8.toNat_ofNat_of_lt' (show k + m < 256 by omega)]
theorem tailB (n i : Nat) (h : i ≤ 32) : or8 128 (and8 (IntKind.wrap .u8 (shrI (n : Int) i)) 63) = ((UInt8.ofNat (128 + n / 2 ^ i % 64)).toNat : Int) := by
  rw [shrI_nat n i h, and63]; exact or8N 128 (by omega) or_all.1 (by omega)
theorem tail0 (n : Nat) : or8 128 (and8 (IntKind.wrap .u8 (n : Int)) 63) = ((UInt8.ofNat (128 + n % 64)).toNat : Int) := by
  rw [and63]; exact or8N 128 (by omega) or_all.1 (by omega)
theorem head2 (n : Nat) (h : n < 2048) : or8 192 (IntKind.wrap .u8 (shrI (n : Int) 6)) = ((UInt8.ofNat (192 + n / 64)).toNat : Int) := by
  rw [shrI_nat n 6 (by omega), wrap8, show n / 2 ^ 6 % 256 = n / 64 by omega]; exact or8N 192 (by omega) or_all.2.1 (by omega)
theorem head3 (n : Nat) (h : n < 65536) : or8 224 (IntKind.wrap .u8 (shrI (n : Int) 12)) = ((UInt8.ofNat (224 + n / 4096)).toNat : Int) := by
  rw [shrI_nat n 12 (by omega), wrap8, show n / 2 ^ 12 % 256 = n / 4096 by omega]; exact or8N 224 (by omega) or_all.2.2.1 (by omega)
theorem head4 (n : Nat) (h : n < 2097152) : or8 240 (IntKind.wrap .u8 (shrI (n : Int) 18)) = ((UInt8.ofNat (240 + n / 262144)).toNat : Int) := by
  rw [shrI_nat n 18 (by omega), wrap8, show n / 2 ^ 18 % 256 = n / 262144 by omega]; exact or8N 240 (by omega) or_all.2.2.2 (by omega)
theorem valid_of {r : Int} (h : validP r = true) : Utf8.valid r = true := by
  simp only [validP, Bool.or_eq_true, Bool.and_eq_true, decide_eq_true_eq] at h
  simp only [Utf8.valid, Bool.or_eq_true, Bool.and_eq_true, decide_eq_true_eq]
  omega
set_option maxRecDepth 100000 in
theorem enc1 {n : Nat} (v : validP (n : Int) = true) (h : n < 128) : encP (n : Int) = [UInt8.ofNat n] := by
  simp only [encP, Utf8.encode, valid_of v, if_true, Int.toNat_natCast, if_pos h]
set_option maxRecDepth 100000 in
theorem enc2 {n : Nat} (v : validP (n : Int) = true) (h1 : ¬ n < 128) (h : n < 2048) : encP (n : Int) = [UInt8.ofNat (192 + n / 64), UInt8.ofNat (128 + n % 64)] := by
  simp only [encP, Utf8.encode, valid_of v, if_true, Int.toNat_natCast, if_neg h1, if_pos h]
set_option maxRecDepth 100000 in
theorem enc3 {n : Nat} (v : validP (n : Int) = true) (h1 : ¬ n < 2048) (h : n < 65536) : encP (n : Int) = [UInt8.ofNat (224 + n / 4096), UInt8.ofNat (128 + n / 64 % 64), UInt8.ofNat (128 + n % 64)] := by
  simp only [encP, Utf8.encode, valid_of v, if_true, Int.toNat_natCast, if_neg (show ¬ n < 128 by omega), if_neg h1, if_pos h]
set_option maxRecDepth 100000 in
theorem enc4 {n : Nat} (v : validP (n : Int) = true) (h1 : ¬ n < 65536) : encP (n : Int) = [UInt8.ofNat (240 + n / 262144), UInt8.ofNat (128 + n / 4096 % 64), UInt8.ofNat (128 + n / 64 % 64), UInt8.ofNat (128 + n % 64)] := by
  simp only [encP, Utf8.encode, valid_of v, if_true, Int.toNat_natCast, if_neg (show ¬ n < 128 by omega), if_neg (show ¬ n < 2048 by omega), if_neg h1]
theorem enc_len (r : Int) : (encP r).length ≤ 4 := by
  simp only [encP, Utf8.encode]
  (repeat' split) <;> simp
theorem enc_ne (r : Int) : encP r ≠ [] := by
  simp only [encP, Utf8.encode]
  (repeat' split) <;> simp
structure PcQ (Q : Prog) : Prop where
  nq : PnQ Q
  q28 : Q.fns 28 = some A28
  q31 : Q.fns 31 = some A31
  q42 : Q.fns 42 = some A42
  q54 : Q.fns 54 = some A54
  q58 : Q.fns 58 = some A58
  q61 : Q.fns 61 = some A61
section
variable {Q : Prog} (cq : PcQ Q) {base b : Nat} {H : AHeap} {t : List UInt8} {a : List AV}
include cq
set_option maxHeartbeats 2000000 in
theorem copy_spec (h : TelAt 64 5 base H b t a) (ha : a.length = 5) : FnTo Q 42 [.ptr b 0] H (fun _ H' => TelAt 64 5 base H' b t a ∧ Keep base H H' ∧ Nx 5 b H H') := by
  refine fn_wp (cq.nq.pq.ho 42 rfl _) cq.q42 (by simp [A42]) ?_
  have u1 := h.toUns
  have u2 := h.fromUns (l := [(62, 2, 0), (63, 7, 0), (64, 7, 0)]) (n := 7) (by simp) (by omega)
  obtain ⟨p, v, h1, h2, h3⟩ := h.row
  rcases h2 with rfl | rfl
  · have l0 := load_raw h1 rfl (o := 0) (v := .nilp) rfl
    have st := store_raw h1 (o := 0) (by simp) (v := .ptr b 0) rfl
    have pn : pteqV false .nilp .nilp = some (.bool true) := rfl
    obtain ⟨g1, g2⟩ := h.used h1
    simp only [A42, l0, u1, u2, st, pn, run_toUns, run_fromUns, run_pteq, resNil, SX, reduceCtorEq, Nat.reduceEqDiff, ↓reduceIte, Int.reduceEq, Int.reduceLT, Int.reduceLE, Nat.reduceAdd]
    exact ⟨g1, g2, Nx.set _⟩
  · have l0 := load_raw h1 rfl (o := 0) (v := .ptr b 0) rfl
    have pn : pteqV false (.ptr b 0) .nilp = some (.bool false) := rfl
    have ps : pteqV true (.ptr b 0) (.ptr b 0) = some (.bool false) := pteq_same true b 0
    simp only [A42, l0, pn, ps, run_pteq, resNil, SX, reduceCtorEq, Nat.reduceEqDiff, ↓reduceIte, Int.reduceEq, Int.reduceLT, Int.reduceLE, Nat.reduceAdd]
    exact ⟨h, Keep.refl _ _, Nx.refl _ _ _⟩
set_option maxHeartbeats 2000000 in
theorem ws_spec (h : TelAt 64 5 base H b t a) (ha : a.length = 5) (s : List UInt8) (hl : t.length + s.length ≤ 70368744177664) : FnTo Q 28 [.ptr b 0, .str s] H (fun _ H' => TelAt 64 5 base H' b (t ++ s) a ∧ Keep base H H' ∧ Nx 5 b H H') := by
  refine fn_wp (cq.nq.pq.ho 28 rfl _) cq.q28 (by simp [A28]) ?_
  simp only [A28, SX, reduceCtorEq, Nat.reduceEqDiff, ↓reduceIte, Int.reduceEq, Int.reduceLT, Int.reduceLE, Nat.reduceAdd]
  refine (copy_spec cq h ha).mono ?_
  rintro _ H1 ⟨b1, k1, n1⟩
  obtain ⟨v, H2, H3, w, e1, e2, e3, b2, k2, n2⟩ := b1.app (s := s) (w0 := .str s) (by simp [srcCells]) hl
  simp only [e1, e2, e3, wp_appendT, SX, reduceCtorEq, Nat.reduceEqDiff, ↓reduceIte, Int.reduceEq, Int.reduceLT, Int.reduceLE, Nat.reduceAdd]
  exact ⟨b2, k1.trans k2, n1.trans n2⟩
set_option maxHeartbeats 2000000 in
theorem tstr_spec (h : TelAt 64 5 base H b t a) (hl : t.length ≤ 9223372036854775807) : FnTo Q 31 [.ptr b 0] H (fun r H' => r = .str t ∧ Keep base H H' ∧ H.next ≤ H'.next ∧ ∀ c, H'.next ≤ c → H'.get c = Option.none) := by
  refine fn_wp (cq.nq.pq.ho 31 rfl _) cq.q31 (by simp [A31]) ?_
  obtain ⟨v, x, H', e1, e2, e3, e4, k, n, f⟩ := h.str hl
  simp only [A31, e1, e2, e3, e4, run_sldata, wp_strUns, SX, reduceCtorEq, Nat.reduceEqDiff, ↓reduceIte, Int.reduceEq, Int.reduceLT, Int.reduceLE, Nat.reduceAdd]
  exact ⟨k, n, f⟩
def RunePost (base b : Nat) (H : AHeap) (t : List UInt8) (a : List AV) (r : Int) (w : AV) (H2 : AHeap) : Prop :=
  ∃ H3, storeE H2 1 (.ptr b 1) w = some (.undef, H3) ∧ TelAt 64 5 base H3 b (t ++ encP r) a ∧ Keep base H H3 ∧ Nx 5 b H H3
omit cq in
theorem rune_put (h : TelAt 64 5 base H b t a) {v : AV} (hv : loadV H Option.none (.ptr b 1) = some v) (hl : t.length ≤ 1000000) {r : Int} {cs : List AV} {n : Nat} (hc : cs = ofBytes (encP r)) (hn : n = (encP r).length) :
    ∃ H1 H2 w, H.alloc (.row ⟨cs, 0, false, true, 0⟩) = H1 ∧ appendTE 5 H1 1 1 v (.slc H.next 0 n n) = some (w, H2) ∧ RunePost base b H t a r w H2 := by
  subst hc hn
  obtain ⟨H1, H2, H3, w, q1, q2, q3, q4, q5, q6⟩ := h.put hv (enc_ne r) (by have := enc_len r; omega)
  exact ⟨H1, H2, w, q1, q2, H3, q3, q4, q5, q6⟩
set_option maxHeartbeats 8000000 in
theorem non_spec (h : TelAt 64 5 base H b t a) {v : AV} (hv : loadV H Option.none (.ptr b 1) = some v) (hl : t.length ≤ 1000000) {n : Nat} (ok : validP (n : Int) = true) (hn : ¬ n < 128) : FnTo Q 61 [v, .int .i32 n] H (fun w H2 => RunePost base b H t a n w H2) := by
  refine fn_wp (cq.nq.pq.ho 61 rfl _) cq.q61 (by simp [A61]) ?_
  have okk := ok
  simp only [validP, Bool.or_eq_true, Bool.and_eq_true, decide_eq_true_eq] at okk
  have hu : IntKind.wrap .u32 (n : Int) = n := by
    simp [IntKind.wrap, IntKind.signed, IntKind.bits]; omega
  have t0 := tail0 n
  have t6 := tailB n 6 (by omega)
  have t12 := tailB n 12 (by omega)
  by_cases c1 : (n : Int) ≤ 2047
  · have h1 := head2 n (by omega)
    obtain ⟨H1, H2, w, s1, s2, s3⟩ := rune_put h hv hl (r := n) (cs := [.int .u8 ((UInt8.ofNat (192 + n / 64)).toNat : Int), .int .u8 ((UInt8.ofNat (128 + n % 64)).toNat : Int)]) (n := 2) (by rw [enc2 ok hn (by omega)]; rfl) (by rw [enc2 ok hn (by omega)]; rfl)
    simp only [A61, hu, decide_eq_true c1, bin_shr6, bin_shr12, bin_shr18, bin_or8, bin_and8, run_bs2, bs2_ok, h1, t0, s1, s2, wp_appendT, wantV_undef, SX, reduceCtorEq, Nat.reduceEqDiff, ↓reduceIte, Int.reduceEq, Int.reduceLT, Int.reduceLE, Nat.reduceAdd]
    exact s3
  have d1 := decide_eq_false c1
  have three : n < 65536 → ∃ H1 H2 w, H.alloc (.row ⟨[.int .u8 ((UInt8.ofNat (224 + n / 4096)).toNat : Int), .int .u8 ((UInt8.ofNat (128 + n / 2 ^ 6 % 64)).toNat : Int), .int .u8 ((UInt8.ofNat (128 + n % 64)).toNat : Int)], 0, false, true, 0⟩) = H1 ∧ appendTE 5 H1 1 1 v (.slc H.next 0 3 3) = some (w, H2) ∧ RunePost base b H t a n w H2 := fun hh =>
    rune_put h hv hl (by rw [enc3 ok (by omega) hh]; rfl) (by rw [enc3 ok (by omega) hh]; rfl)
  by_cases c2 : (n : Int) < 55296
  · obtain ⟨H1, H2, w, s1, s2, s3⟩ := three (by omega)
    have h1 := head3 n (by omega)
    simp only [A61, hu, d1, decide_eq_true c2, bin_shr6, bin_shr12, bin_shr18, bin_or8, bin_and8, run_bs3, bs3_ok, h1, t0, t6, s1, s2, wp_appendT, wantV_undef, SX, reduceCtorEq, Nat.reduceEqDiff, ↓reduceIte, Int.reduceEq, Int.reduceLT, Int.reduceLE, Nat.reduceAdd]
    exact s3
  have d2 := decide_eq_false c2
  have c4 : 57343 < (n : Int) := by omega
  by_cases c3 : (n : Int) ≤ 65535
  · obtain ⟨H1, H2, w, s1, s2, s3⟩ := three (by omega)
    have h1 := head3 n (by omega)
    simp only [A61, hu, d1, d2, decide_eq_true c4, decide_eq_true c3, bin_shr6, bin_shr12, bin_shr18, bin_or8, bin_and8, run_bs3, bs3_ok, h1, t0, t6, s1, s2, wp_appendT, wantV_undef, SX, reduceCtorEq, Nat.reduceEqDiff, ↓reduceIte, Int.reduceEq, Int.reduceLT, Int.reduceLE, Nat.reduceAdd]
    exact s3
  have c6 : 65535 < (n : Int) := by omega
  have c7 : (n : Int) ≤ 1114111 := by omega
  have h1 := head4 n (by omega)
  obtain ⟨H1, H2, w, s1, s2, s3⟩ := rune_put h hv hl (r := n) (cs := [.int .u8 ((UInt8.ofNat (240 + n / 262144)).toNat : Int), .int .u8 ((UInt8.ofNat (128 + n / 2 ^ 12 % 64)).toNat : Int), .int .u8 ((UInt8.ofNat (128 + n / 2 ^ 6 % 64)).toNat : Int), .int .u8 ((UInt8.ofNat (128 + n % 64)).toNat : Int)]) (n := 4) (by rw [enc4 ok (by omega)]; rfl) (by rw [enc4 ok (by omega)]; rfl)
  simp only [A61, hu, d1, d2, decide_eq_true c4, decide_eq_false c3, decide_eq_true c6, decide_eq_true c7, bin_shr6, bin_shr12, bin_shr18, bin_or8, bin_and8, run_bs4, bs4_ok, h1, t0, t6, t12, s1, s2, wp_appendT, wantV_undef, SX, reduceCtorEq, Nat.reduceEqDiff, ↓reduceIte, Int.reduceEq, Int.reduceLT, Int.reduceLE, Nat.reduceAdd]
  exact s3
set_option maxHeartbeats 4000000 in
theorem apRune_spec (h : TelAt 64 5 base H b t a) {v : AV} (hv : loadV H Option.none (.ptr b 1) = some v) (hl : t.length ≤ 1000000) {r : Int} (ok : validP r = true) : FnTo Q 58 [v, .int .i32 r] H (fun w H2 => RunePost base b H t a r w H2) := by
  refine fn_wp (cq.nq.pq.ho 58 rfl _) cq.q58 (by simp [A58]) ?_
  have okk := ok
  simp only [validP, Bool.or_eq_true, Bool.and_eq_true, decide_eq_true_eq] at okk
  obtain ⟨n, rfl⟩ : ∃ n : Nat, r = n := ⟨r.toNat, by omega⟩
  have hu : IntKind.wrap .u32 (n : Int) = n := by
    simp [IntKind.wrap, IntKind.signed, IntKind.bits]; omega
  by_cases c1 : (n : Int) ≤ 127
  · have hx : IntKind.wrap .u8 (n : Int) = ((UInt8.ofNat n).toNat : Int) := by
      rw [wrap8, UInt8.toNat_ofNat_of_lt' (show n < 256 by omega)]; omega
    obtain ⟨H1, H2, w, s1, s2, s3⟩ := rune_put h hv hl (r := n) (cs := [.int .u8 ((UInt8.ofNat n).toNat : Int)]) (n := 1) (by rw [enc1 ok (by omega)]; rfl) (by rw [enc1 ok (by omega)]; rfl)
    simp only [A58, hu, decide_eq_true c1, hx, s1, s2, wp_appendT, SX, reduceCtorEq, Nat.reduceEqDiff, ↓reduceIte, Int.reduceEq, Int.reduceLT, Int.reduceLE, Nat.reduceAdd]
    exact s3
  · simp only [A58, hu, decide_eq_false c1, SX, reduceCtorEq, Nat.reduceEqDiff, ↓reduceIte, Int.reduceEq, Int.reduceLT, Int.reduceLE, Nat.reduceAdd]
    refine (non_spec cq h hv hl ok (by omega)).mono ?_
    intro w H2 s3
    simp only [SX, reduceCtorEq, Nat.reduceEqDiff, ↓reduceIte, Int.reduceEq, Int.reduceLT, Int.reduceLE, Nat.reduceAdd]
    exact s3
set_option maxHeartbeats 4000000 in
theorem wr_spec (h : TelAt 64 5 base H b t a) (ha : a.length = 5) (hl : t.length ≤ 1000000) {r : Int} (ok : validP r = true) : FnTo Q 54 [.ptr b 0, .int .i32 r] H (fun _ H' => TelAt 64 5 base H' b (t ++ encP r) a ∧ Keep base H H' ∧ Nx 5 b H H') := by
  refine fn_wp (cq.nq.pq.ho 54 rfl _) cq.q54 (by simp [A54]) ?_
  simp only [A54, SX, reduceCtorEq, Nat.reduceEqDiff, ↓reduceIte, Int.reduceEq, Int.reduceLT, Int.reduceLE, Nat.reduceAdd]
  refine (copy_spec cq h ha).mono ?_
  rintro _ H1 ⟨b1, k1, n1⟩
  have ld : ∀ {H : AHeap} {t : List UInt8}, TelAt 64 5 base H b t a → ∃ v, loadV H Option.none (.ptr b 1) = some v ∧ lngV H 1 v = some (.int .i64 t.length) := fun {H t} h => by
    obtain ⟨p, v, h1, h2, h3⟩ := h.row
    refine ⟨v, load_raw h1 rfl rfl, ?_⟩
    rcases h3 with ⟨rfl, rfl⟩ | ⟨_, g, rfl, _⟩ <;> rfl
  obtain ⟨v, l1, l2⟩ := ld b1
  simp only [l1, l2, SX, reduceCtorEq, Nat.reduceEqDiff, ↓reduceIte, Int.reduceEq, Int.reduceLT, Int.reduceLE, Nat.reduceAdd]
  refine (apRune_spec cq b1 l1 hl ok).mono ?_
  rintro w H2 ⟨H3, e3, b2, k2, n2⟩
  obtain ⟨v3, l3, l4⟩ := ld b2
  simp only [e3, l3, l4, SX, reduceCtorEq, Nat.reduceEqDiff, ↓reduceIte, Int.reduceEq, Int.reduceLT, Int.reduceLE, Nat.reduceAdd]
  exact ⟨b2, k1.trans k2, n1.trans n2⟩
end
section
open Go.RowKit
def strsOf : List AV → Option (List (List UInt8))
  | [] => some []
  | .str s :: r => (match strsOf r with | some l => some (s :: l) | none => none)
  | _ :: _ => none
def joinO (args : List AV) (H : AHeap) : Option AV :=
  match args with
  | [.slc b o len cap, .str sep] =>
    (match H.row b with
    | some B =>
      (match cut B.cells o len with
      | some cs =>
        (match strsOf cs with
        | some ls => if 0 < len ∧ len ≤ 100000 ∧ (Lib.join ls sep).length ≤ 100000 then some (.str (Lib.join ls sep)) else none
        | none => none)
      | none => none)
    | none => none)
  | _ => none
theorem strsOf_get : ∀ {cs : List AV} {ls : List (List UInt8)}, strsOf cs = some ls → ls.length = cs.length ∧ ∀ (j : Nat) l, ls[j]? = some l → cs[j]? = some (.str l)
  | [], ls, h => by obtain rfl := Option.some.inj h; exact ⟨rfl, fun j l h => by simp at h⟩
  | .str s :: r, ls, h => by
    unfold strsOf at h
    split at h
    · rename_i l' hl
      obtain rfl := Option.some.inj h
      obtain ⟨h1, h2⟩ := strsOf_get hl
      refine ⟨by simp [h1], fun j l hj => ?_⟩
      cases j with
      | zero => simp at hj; subst hj; rfl
      | succ j => simp at hj; simpa using h2 j l hj
    · cases h
  | .bool _ :: r, ls, h => by cases h
  | .int _ _ :: r, ls, h => by cases h
  | .nilp :: r, ls, h => by cases h
  | .ptr _ _ :: r, ls, h => by cases h
  | .nils :: r, ls, h => by cases h
  | .slc _ _ _ _ :: r, ls, h => by cases h
  | .nilm :: r, ls, h => by cases h
  | .map _ :: r, ls, h => by cases h
  | .nilFn :: r, ls, h => by cases h
  | .fn _ _ _ :: r, ls, h => by cases h
  | .yld _ :: r, ls, h => by cases h
  | .nilIface :: r, ls, h => by cases h
  | .iface _ _ :: r, ls, h => by cases h
  | .agg _ :: r, ls, h => by cases h
  | .tup _ :: r, ls, h => by cases h
theorem joinO_ok {gl : List Nat} (args : List AV) (H : AHeap) (v : AV) (h : joinO args H = some v) : OrhOK Tryd.prog gl 60 args H v := by
  unfold joinO at h
  split at h
  · rename_i b o len cap sep
    split at h
    · rename_i B hB
      split at h
      · rename_i cs hcs
        split at h
        · rename_i ls hls
          split at h
          · rename_i hb
            obtain ⟨hb0, hb1, hb2⟩ := hb
            injection h with h; subst h
            refine ⟨⟨_, Tryd.func60, by kernel_rfl, by kernel_rfl⟩, fun base m W cargs hsr hl => ?_⟩
            obtain ⟨c1, z1, h1, hv1, hz1⟩ := hl.cons_inv
            obtain ⟨c2, z2, rfl, hv2, hz2⟩ := hz1.cons_inv
            rw [hz2.nil_inv] at h1
            obtain ⟨sb, rfl, rfl⟩ := str_inv hv2
            obtain ⟨q1, q2, q3⟩ := cut_some hcs
            obtain ⟨s1, s2⟩ := strsOf_get hls
            obtain ⟨g1, g2⟩ := row_inv hB
            cases hv1 with
            | slc hm hle hc ha =>
              rename_i cap' a L
              have hcap : cap ≤ cap' := by rcases hc with rfl | ⟨hc, _⟩ <;> omega
              obtain rfl := ha (by omega)
              obtain rfl : cargs = #[.slice (some ⟨L.blk, L.off + o, none⟩) len cap', .string sb] := Array.ext' h1
              have hx : (ls.map fun l => (⟨l.toArray⟩ : ByteArray)).map (·.data.toList) = ls := by simp [Function.comp_def]
              have hn : (ls.map fun l => (⟨l.toArray⟩ : ByteArray)).length = len := by simp [s1, q2]
              have hcell : ∀ (j : Nat) x, (ls.map fun l => (⟨l.toArray⟩ : ByteArray))[j]? = some x → W.cell? ⟨L.blk, L.off + o + j, none⟩ = some (.string x) := by
                intro j x hj
                rw [List.getElem?_map] at hj
                cases hlj : ls[j]? with
                | none => rw [hlj] at hj; cases hj
                | some l =>
                  rw [hlj] at hj
                  obtain rfl := Option.some.inj hj
                  have e1 := s2 j l hlj
                  have hj2 : j < len := by rw [← q2]; exact (List.getElem?_eq_some_iff.1 e1).1
                  rw [q3 j hj2] at e1
                  obtain ⟨c, k1, k2⟩ := hsr.cell b L B hm g1 g2 _ _ e1
                  obtain ⟨sb', rfl, he⟩ := str_inv k2
                  subst he
                  rw [Nat.add_assoc, k1]
              have hbk : L.blk < W.heap.size := by
                obtain ⟨x, hx0⟩ : ∃ x, (ls.map fun l => (⟨l.toArray⟩ : ByteArray))[0]? = some x := ⟨_, List.getElem?_eq_getElem (by omega)⟩
                exact World.block_lt_of_cell? _ _ (hcell 0 x hx0)
              have hc := Tryd.strings_Join L.blk (L.off + o) cap' (ls.map fun l => ⟨l.toArray⟩) sb W hcell hbk (by omega) (by omega) (by rw [hx]; omega)
              rw [hn, hx] at hc
              refine hc.mono fun q W' hq => ?_
              obtain ⟨rfl, hw⟩ := hq
              exact ⟨_, rfl, VR.str (m := noInj) ⟨(Lib.join ls sb.data.toList).toArray⟩, hw⟩
          · cases h
        · cases h
      · cases h
    · cases h
  · cases h
end
def bs6V (a b c d e f : AV) : Option (AObj × AKind) := LOp.run .nil (.bslice 1 6 [.str []] [(0, .c a), (1, .c b), (2, .c c), (3, .c d), (4, .c e), (5, .c f)])
theorem run_bs6 (e : Env) (a b c d x f : Opd) : LOp.run e (.bslice 1 6 [.str []] [(0, a), (1, b), (2, c), (3, d), (4, x), (5, f)]) = bs6V (a.ev e) (b.ev e) (c.ev e) (d.ev e) (x.ev e) (f.ev e) := rfl
theorem bs6_ok (a b c d e f : List UInt8) : bs6V (.str a) (.str b) (.str c) (.str d) (.str e) (.str f) = some (.row ⟨[.str a, .str b, .str c, .str d, .str e, .str f], 0, false, true, 0⟩, .slc 6 6) := rfl
theorem wrapU32k {x : Int} (h0 : 0 ≤ x) (h1 : x ≤ 4294967295) : IntKind.wrap .u32 x = x := by
  simp [IntKind.wrap, IntKind.signed, IntKind.bits]
  omega
def andV (k : IntKind) (a b : Int) : Int := IntKind.wrap k (((BitVec.ofInt k.bits a &&& BitVec.ofInt k.bits b).toNat : Nat) : Int)
theorem bin_andV (k : IntKind) (a b : Int) : binV .and (.int k a) (.int k b) = some (.int k (andV k a b)) := by simp [binV, intBin, andV]
def shrV (k : IntKind) (a : Int) (i : Nat) : Int := a.fdiv (2 ^ (min i k.bits))
theorem bin_shrV (k k' : IntKind) (a : Int) (i : Nat) : binV .shr (.int k a) (.int k' (i : Int)) = some (.int k (shrV k a i)) := by
  simp only [binV, shiftBin, shrV, Int.toNat_natCast]
  rw [if_neg (by omega)]
abbrev D (n : Nat) : List UInt8 := Lib.decDigits n
theorem D1 {n : Nat} (h : n < 10) : D n = [UInt8.ofNat (48 + n)] := Lib.decDigits_one h
theorem Dq {n : Nat} (h : ¬ n < 10) : D n = D (n / 10) ++ D (n % 10) := by
  rw [D1 (n := n % 10) (by omega)]
  show Lib.decDigits n = _
  rw [Lib.decDigits, dif_neg h]
def dec3 (n : Nat) : List UInt8 := if n < 10 then [UInt8.ofNat (48 + n)] else if n < 100 then [UInt8.ofNat (48 + n / 10), UInt8.ofNat (48 + n % 10)] else [UInt8.ofNat (48 + n / 100), UInt8.ofNat (48 + n / 10 % 10), UInt8.ofNat (48 + n % 10)]
theorem dec3_eq {n : Nat} (h : n < 1000) : D n = dec3 n := by
  unfold dec3
  by_cases h1 : n < 10
  · rw [if_pos h1, D1 h1]
  · rw [if_neg h1, Dq h1, D1 (n := n % 10) (by omega)]
    by_cases h2 : n < 100
    · rw [if_pos h2, D1 (by omega)]; rfl
    · rw [if_neg h2, Dq (by omega), D1 (n := n / 10 / 10) (by omega), D1 (n := n / 10 % 10) (by omega), Nat.div_div_eq_div_mul]; rfl
theorem D_len {n : Nat} (h : n < 1000) : (D n).length ≤ 3 := by
  rw [dec3_eq h]; unfold dec3
  (repeat' split) <;> simp
def saysP (c : Nat) (k n : Int) : List UInt8 := if k = 1 then 59 :: (D c ++ ([58, 53, 58] ++ D n.toNat)) else if k = 2 then 59 :: (D c ++ ([58, 50, 58, 58] ++ (D (n.toNat / 65536) ++ (58 :: (D (n.toNat / 256 % 256) ++ (58 :: D (n.toNat % 256))))))) else []
def joinF (a b c d : List UInt8) : List UInt8 := Lib.join [a, [50], [], b, c, d] [58]
theorem joinF_eq (a b c d : List UInt8) : joinF a b c d = a ++ ([58, 50, 58, 58] ++ (b ++ (58 :: (c ++ (58 :: d))))) := by
  simp [joinF, Lib.join, List.intercalate, List.intersperse]
theorem joinO_six {base : Nat} {H : AHeap} {l : List Cel} {b : Nat} {a x y z : List UInt8} (h : Hp base H (⟨b, 1, [.str a, .str [50], .str [], .str x, .str y, .str z]⟩ :: l)) (hl : a.length + x.length + y.length + z.length ≤ 1000) : joinO [.slc b 0 6 6, .str [58]] H = some (.str (joinF a x y z)) := by
  obtain ⟨B, r, hc⟩ := h.rowOf (List.mem_cons_self ..)
  have hc6 : AM.cut [AV.str a, .str [50], .str [], .str x, .str y, .str z] 0 6 = some [AV.str a, .str [50], .str [], .str x, .str y, .str z] := rfl
  have hs : strsOf [AV.str a, .str [50], .str [], .str x, .str y, .str z] = some [a, [50], [], x, y, z] := rfl
  have hlen : (Lib.join [a, [50], [], x, y, z] [58]).length ≤ 100000 := by
    show (joinF a x y z).length ≤ 100000
    rw [joinF_eq]; simp; omega
  simp only [joinO, r, hc, hc6, hs]
  rw [if_pos ⟨by omega, by omega, hlen⟩]
  rfl
theorem and255 {a : Int} (h0 : 0 ≤ a) (h1 : a < 4294967296) : andV .u32 a 255 = ((a.toNat % 256 : Nat) : Int) := by
  unfold andV
  have : (BitVec.ofInt IntKind.u32.bits a &&& BitVec.ofInt IntKind.u32.bits 255).toNat = a.toNat % 256 := by
    rw [BitVec.toNat_and]
    have e1 : (BitVec.ofInt IntKind.u32.bits a).toNat = a.toNat := by
      rw [BitVec.toNat_ofInt]
      show (a % ((2 ^ 32 : Nat) : Int)).toNat = a.toNat
      rw [Int.emod_eq_of_lt h0 (by omega)]
    have e2 : (BitVec.ofInt IntKind.u32.bits 255).toNat = 2 ^ 8 - 1 := rfl
    rw [e1, e2, Nat.and_two_pow_sub_one_eq_mod]
  rw [this, wrapU32k (by omega) (by omega)]
theorem shr16 {a : Int} (h0 : 0 ≤ a) : shrV .u32 a 16 = ((a.toNat / 65536 : Nat) : Int) := by
  unfold shrV
  show a.fdiv 65536 = _
  rw [Int.fdiv_eq_ediv_of_nonneg _ (by omega)]; omega
theorem shr8' {a : Int} (h0 : 0 ≤ a) : shrV .u32 a 8 = ((a.toNat / 256 : Nat) : Int) := by
  unfold shrV
  show a.fdiv 256 = _
  rw [Int.fdiv_eq_ediv_of_nonneg _ (by omega)]; omega
/-- what the walks of the bytes lean on -/
structure PeQ (Q : Prog) : Prop where
  cq : PcQ Q
  q53 : Q.fns 53 = some A53
  q57 : Q.fns 57 = some A57
  q60 : Q.fns 60 = none
  o60 : ∀ args H, Q.orh 60 args H = joinO args H
  it : ∀ n : Nat, n < 401 → Q.orc 44 [.int .i64 n] = some (.str (D n))
  tb : Q.tabs = TT
section
variable {Q : Prog} (bq : PeQ Q) {H : AHeap}
include bq
theorem itoa_spec {n : Nat} (hn : n < 401) (ht : hasTabs H TT = true) : FnTo Q 44 [.int .i64 n] H (fun r H' => r = .str (D n) ∧ H' = H) :=
  fn_orc (bq.it n hn) (by rw [bq.tb]; exact ht) ⟨rfl, rfl⟩
set_option maxHeartbeats 4000000 in
theorem says_spec {c : Nat} (hc : c = 38 ∨ c = 48) {k n : Int} (hn : 0 ≤ n) (hk : colP k n = true) (hf : Fr H) (ht : hasTabs H TT = true) : FnTo Q 57 [.int .i64 c, .agg [.int .u8 k, .int .u32 n]] H (fun r H' => r = .str (saysP c k n) ∧ Gr H H') := by
  refine fn_wp (bq.cq.nq.pq.ho 57 rfl _) bq.q57 (by simp [A57]) ?_
  have hc256 : c < 401 := by omega
  have lc := D_len (n := c) (by omega)
  obtain ⟨H1, s1, h1, k1⟩ := (Hp.nil H hf).make [.int .u8 k, .int .u32 n] 2
  have g1 := h1.gr k1
  have ht1 := g1.tabs hf ht
  have l0 := h1.load (List.mem_cons_self ..) (o := 0) (v := .int .u8 k) rfl
  have l1 := h1.load (List.mem_cons_self ..) (o := 1) (v := .int .u32 n) rfl
  have bx : boxV (.agg [.int .u8 k, .int .u32 n]) = some (.row ⟨[.int .u8 k, .int .u32 n], 0, false, true, 0⟩, .ptr) := rfl
  simp only [colP, Bool.or_eq_true, Bool.and_eq_true, decide_eq_true_eq] at hk
  by_cases c1 : k = 1
  · have d1 : decide (k = 1) = true := decide_eq_true c1
    obtain ⟨m, rfl⟩ : ∃ m : Nat, n = m := ⟨n.toNat, by omega⟩
    have hm : m < 401 := by omega
    have w1 : IntKind.wrap .i64 (m : Int) = m := wrapI64 (by omega) (by omega)
    have lm := D_len (n := m) (by omega)
    simp only [A57, run_allocL, run_box, bx, s1, l0, l1, d1, w1, SX, reduceCtorEq, Nat.reduceEqDiff, ↓reduceIte, Int.reduceEq, Int.reduceLT, Int.reduceLE, Nat.reduceAdd]
    refine (itoa_spec bq hc256 ht1).mono ?_
    rintro _ H2 ⟨rfl, hx⟩
    subst hx
    have a1 := bin_adds [59] (D c) (by simp; omega)
    have a2 := bin_adds ([59] ++ D c) [58, 53, 58] (by simp; omega)
    refine ⟨by simp only [echoOk, l1, SX, reduceCtorEq, Nat.reduceEqDiff, ↓reduceIte, Int.reduceEq, Int.reduceLT, Int.reduceLE, Nat.reduceAdd]; simp [AV.same, AV.same1], ?_⟩
    simp only [a1, a2, SX, reduceCtorEq, Nat.reduceEqDiff, ↓reduceIte, Int.reduceEq, Int.reduceLT, Int.reduceLE, Nat.reduceAdd]
    refine (itoa_spec bq hm ht1).mono ?_
    rintro _ H3 ⟨rfl, hx⟩
    subst hx
    have a3 := bin_adds ([59] ++ D c ++ [58, 53, 58]) (D m) (by simp; omega)
    simp only [a3, SX, reduceCtorEq, Nat.reduceEqDiff, ↓reduceIte, Int.reduceEq, Int.reduceLT, Int.reduceLE, Nat.reduceAdd]
    refine ⟨?_, g1⟩
    unfold saysP
    rw [if_pos c1]; simp
  have d1 : decide (k = 1) = false := decide_eq_false c1
  by_cases c2 : k = 2
  · have d2 : decide (k = 2) = true := decide_eq_true c2
    obtain ⟨m, rfl⟩ : ∃ m : Nat, n = m := ⟨n.toNat, by omega⟩
    have hm : m < 16777216 := by omega
    have r1 : binV .shr (.int .u32 (m : Int)) (.int .u64 16) = some (.int .u32 ((m / 65536 : Nat) : Int)) := by
      rw [show (16 : Int) = ((16 : Nat) : Int) from rfl, bin_shrV, shr16 (by omega)]; rfl
    have r2 : binV .shr (.int .u32 (m : Int)) (.int .u64 8) = some (.int .u32 ((m / 256 : Nat) : Int)) := by
      rw [show (8 : Int) = ((8 : Nat) : Int) from rfl, bin_shrV, shr8' (by omega)]; rfl
    have r3 : binV .and (.int .u32 ((m / 256 : Nat) : Int)) (.int .u32 255) = some (.int .u32 ((m / 256 % 256 : Nat) : Int)) := by
      rw [bin_andV, and255 (by omega) (by omega)]; rfl
    have r4 : binV .and (.int .u32 (m : Int)) (.int .u32 255) = some (.int .u32 ((m % 256 : Nat) : Int)) := by
      rw [bin_andV, and255 (by omega) (by omega)]; rfl
    have w1 : IntKind.wrap .i64 ((m / 65536 : Nat) : Int) = ((m / 65536 : Nat) : Int) := wrapI64 (by omega) (by omega)
    have w2 : IntKind.wrap .i64 ((m / 256 % 256 : Nat) : Int) = ((m / 256 % 256 : Nat) : Int) := wrapI64 (by omega) (by omega)
    have w3 : IntKind.wrap .i64 ((m % 256 : Nat) : Int) = ((m % 256 : Nat) : Int) := wrapI64 (by omega) (by omega)
    have e1 := D_len (n := m / 65536) (by omega)
    have e2 := D_len (n := m / 256 % 256) (by omega)
    have e3 := D_len (n := m % 256) (by omega)
    simp only [A57, run_allocL, run_box, bx, s1, l0, l1, d1, d2, r1, r2, r3, r4, w1, w2, w3, SX, reduceCtorEq, Nat.reduceEqDiff, ↓reduceIte, Int.reduceEq, Int.reduceLT, Int.reduceLE, Nat.reduceAdd]
    refine (itoa_spec bq hc256 ht1).mono ?_
    rintro _ H2 ⟨rfl, hx⟩
    subst hx
    have ec : AV.same (.int .u32 (m : Int)) (.int .u32 (m : Int)) = true := by simp [AV.same, AV.same1]
    refine ⟨by simp only [echoOk, l1, ec, Bool.and_self, SX, reduceCtorEq, Nat.reduceEqDiff, ↓reduceIte, Int.reduceEq, Int.reduceLT, Int.reduceLE, Nat.reduceAdd], ?_⟩
    simp only [SX, reduceCtorEq, Nat.reduceEqDiff, ↓reduceIte, Int.reduceEq, Int.reduceLT, Int.reduceLE, Nat.reduceAdd]
    refine (itoa_spec bq (n := m / 65536) (by omega) ht1).mono ?_
    rintro _ H2 ⟨rfl, hx⟩
    subst hx
    refine ⟨by simp only [echoOk, l1, ec, Bool.and_self, SX, reduceCtorEq, Nat.reduceEqDiff, ↓reduceIte, Int.reduceEq, Int.reduceLT, Int.reduceLE, Nat.reduceAdd], ?_⟩
    simp only [SX, reduceCtorEq, Nat.reduceEqDiff, ↓reduceIte, Int.reduceEq, Int.reduceLT, Int.reduceLE, Nat.reduceAdd]
    refine (itoa_spec bq (n := m / 256 % 256) (by omega) ht1).mono ?_
    rintro _ H2 ⟨rfl, hx⟩
    subst hx
    refine ⟨by simp only [echoOk, l1, ec, Bool.and_self, SX, reduceCtorEq, Nat.reduceEqDiff, ↓reduceIte, Int.reduceEq, Int.reduceLT, Int.reduceLE, Nat.reduceAdd], ?_⟩
    simp only [SX, reduceCtorEq, Nat.reduceEqDiff, ↓reduceIte, Int.reduceEq, Int.reduceLT, Int.reduceLE, Nat.reduceAdd]
    refine (itoa_spec bq (n := m % 256) (by omega) ht1).mono ?_
    rintro _ H2 ⟨rfl, hx⟩
    subst hx
    obtain ⟨H3, s3, h3, k3⟩ := h1.make [.str (D c), .str [50], .str [], .str (D (m / 65536)), .str (D (m / 256 % 256)), .str (D (m % 256))] 1
    have jo := joinO_six h3 (by omega)
    simp only [run_bs6, bs6_ok, s3, SX, reduceCtorEq, Nat.reduceEqDiff, ↓reduceIte, Int.reduceEq, Int.reduceLT, Int.reduceLE, Nat.reduceAdd]
    refine fn_orh (bq.cq.nq.pq.ho 60 rfl _) bq.q60 (by rw [bq.o60]; exact jo) ?_
    have a1 := bin_adds [59] (joinF (D c) (D (m / 65536)) (D (m / 256 % 256)) (D (m % 256))) (by rw [joinF_eq]; simp; omega)
    simp only [a1, SX, reduceCtorEq, Nat.reduceEqDiff, ↓reduceIte, Int.reduceEq, Int.reduceLT, Int.reduceLE, Nat.reduceAdd]
    refine ⟨?_, h3.gr (k1.trans k3)⟩
    unfold saysP
    rw [if_neg c1, if_pos c2, joinF_eq]; simp
  have d2 : decide (k = 2) = false := decide_eq_false c2
  simp only [A57, run_allocL, run_box, bx, s1, l0, l1, d1, d2, SX, reduceCtorEq, Nat.reduceEqDiff, ↓reduceIte, Int.reduceEq, Int.reduceLT, Int.reduceLE, Nat.reduceAdd]
  refine ⟨?_, g1⟩
  unfold saysP
  rw [if_neg c1, if_neg c2]
end
theorem saysP_len {c : Nat} (hc : c = 38 ∨ c = 48) {k n : Int} (hn : 0 ≤ n) (hk : colP k n = true) : (saysP c k n).length ≤ 40 := by
  have lc := D_len (n := c) (by omega)
  simp only [colP, Bool.or_eq_true, Bool.and_eq_true, decide_eq_true_eq] at hk
  unfold saysP
  split
  · have := D_len (n := n.toNat) (by omega)
    simp; omega
  · split
    · have e1 := D_len (n := n.toNat / 65536) (by omega)
      have e2 := D_len (n := n.toNat / 256 % 256) (by omega)
      have e3 := D_len (n := n.toNat % 256) (by omega)
      simp; omega
    · simp
theorem row_tab1 {H : AHeap} (h : hasTabs H TT = true) : loadV H (some 8) (.ptr 1 0) = some (.agg (zflags.map (.int .i64))) := by
  have h1 := List.all_eq_true.1 h ⟨1, .i64, zflags⟩ (by simp [TT])
  split at h1
  · rename_i B hB
    simp only [Bool.and_eq_true] at h1
    have hc := sameL_eq1 h1.2
    have hr : H.row 1 = some B := by simp only [AHeap.row, hB, h1.1, if_true]
    simp only [loadV, ROp.run, Opd.ev, hr, hc]
    rfl
  · cases h1
theorem idx_tab {i : Nat} {k : Int} (h : zflags[i]? = some k) : idxArrV 8 1 none (.agg (zflags.map (.int .i64))) (.int .i64 (i : Int)) = some (.int .i64 k) := by
  have hi := (List.getElem?_eq_some_iff.1 h).1
  have h8 : zflags.length = 8 := rfl
  simp only [idxArrV, ROp.run, Opd.ev, inIndex, if_pos (show 0 ≤ (i : Int) ∧ (i : Int) < ((8 : Nat) : Int) by omega), Int.toNat_natCast, Nat.mul_one, sub, List.getElem?_map, h, Option.map_some]
theorem seq5f (c d : Ce) : seqV [1, 1, 1, 1, 1] false (.agg c.at) (.agg d.at) = some (.bool (decide (sameA c d))) := by
  simp only [seqV, ROp.run, Opd.ev, Ce.at, List.length_cons, List.length_nil, Nat.zero_add, Nat.reduceAdd, and_self, if_true, cellsEq, sameA]
  by_cases h1 : c.f = d.f <;> by_cases h2 : c.k1 = d.k1 <;> by_cases h3 : c.n1 = d.n1 <;> by_cases h4 : c.k2 = d.k2 <;> by_cases h5 : c.n2 = d.n2 <;> simp [h1, h2, h3, h4, h5]
def zf (i : Nat) : Nat := (zflags.getD i 0).toNat
def testA (fl : Int) (i : Nat) : Bool := decide (andV .u16 (shrV .u16 fl i) 1 = 1)
def sA (fl : Int) : Nat → List UInt8
  | 0 => [27, 91, 48]
  | i + 1 => if testA fl i = true then sA fl i ++ (59 :: dec3 (zf i)) else sA fl i
theorem dec3_len (n : Nat) : (dec3 n).length ≤ 3 := by unfold dec3; (repeat' split) <;> simp
theorem sA_len (fl : Int) : ∀ i, (sA fl i).length ≤ 3 + 4 * i
  | 0 => by simp [sA]
  | i + 1 => by
    have h1 := sA_len fl i
    have h2 := dec3_len (zf i)
    unfold sA; split <;> simp <;> omega
instance (c d : Ce) : Decidable (sameA c d) := by unfold sameA; infer_instance
/-- what leads from an attribute to another -/
def betC (c d : Ce) : List UInt8 := if sameA c d ∨ attrP d = false then [] else ((sA d.f 8 ++ saysP 38 d.k1 d.n1) ++ saysP 48 d.k2 d.n2) ++ [109]
section
variable {Q : Prog} (bq : PeQ Q) {H : AHeap}
include bq
set_option maxHeartbeats 16000000 in
theorem between_spec {c d : Ce} (hn1 : 0 ≤ d.n1) (hn2 : 0 ≤ d.n2) (hf : Fr H) (ht : hasTabs H TT = true) : FnTo Q 53 [.agg c.at, .agg d.at] H (fun r H' => r = .str (betC c d) ∧ Gr H H') := by
  refine fn_wp (bq.cq.nq.pq.ho 53 rfl _) bq.q53 (by simp [A53]) ?_
  obtain ⟨H1, s1, h1, k1⟩ := (Hp.nil H hf).make c.at 5
  obtain ⟨H2, s2, h2, k2⟩ := h1.make d.at 5
  have g2 : Gr H H2 := h2.gr (k1.trans k2)
  have ht2 := g2.tabs hf ht
  obtain ⟨p, hp⟩ : ∃ p, H.next = p := ⟨_, rfl⟩
  obtain ⟨q, hq⟩ : ∃ q, H1.next = q := ⟨_, rfl⟩
  rw [hp, hq] at h2
  have la := h2.loadN (b := p) (k := 5) (cs := c.at) (by simp) (n := 5) rfl
  have lb := h2.loadN (b := q) (k := 5) (cs := d.at) (by simp) (n := 5) rfl
  have bc : c.at.all AV.one = true := rfl
  have bd : d.at.all AV.one = true := rfl
  by_cases hab : sameA c d
  · simp only [A53, boxV_agg bc, boxV_agg bd, s1, s2, hp, hq, la, lb, seq5f, decide_eq_true hab, wantV_undef, SX, reduceCtorEq, Nat.reduceEqDiff, ↓reduceIte, Int.reduceEq, Int.reduceLT, Int.reduceLE, Nat.reduceAdd]
    exact ⟨by unfold betC; rw [if_pos (.inl hab)], g2⟩
  simp only [A53, boxV_agg bc, boxV_agg bd, s1, s2, hp, hq, la, lb, seq5f, decide_eq_false hab, wantV_undef, SX, reduceCtorEq, Nat.reduceEqDiff, ↓reduceIte, Int.reduceEq, Int.reduceLT, Int.reduceLE, Nat.reduceAdd]
  refine (attr_spec bq.cq.nq.pq g2.fr d).mono ?_
  rintro _ H3 ⟨rfl, g3⟩
  cases hr : attrP d with
  | false =>
    simp only [wantV_undef, SX, reduceCtorEq, Nat.reduceEqDiff, ↓reduceIte, Int.reduceEq, Int.reduceLT, Int.reduceLE, Nat.reduceAdd]
    exact ⟨by unfold betC; rw [if_pos (.inr hr)], g2.trans g3⟩
  | true =>
    have hr' := hr
    simp only [attrP, Bool.and_eq_true, decide_eq_true_eq] at hr'
    obtain ⟨⟨hr1, hr2⟩, hr3⟩ := hr'
    have ht3 := g3.tabs g2.fr ht2
    have rt := row_tab1 ht3
    have h3 := h2.of_gr g3
    have lf : loadV H3 none (.ptr q 0) = some (.int .u16 d.f) := h3.load (b := q) (k := 5) (cs := d.at) (by simp) (o := 0) rfl
    have l1 : loadV H3 (some 2) (.ptr q 1) = some (.agg [.int .u8 d.k1, .int .u32 d.n1]) := h3.loadO (b := q) (a := [.int .u16 d.f]) (x := [.int .u8 d.k1, .int .u32 d.n1]) (c := [.int .u8 d.k2, .int .u32 d.n2]) (k := 5) (by simp [Ce.at]) rfl rfl
    have l3 : ∀ {H'}, Gr H3 H' → loadV H' (some 2) (.ptr q 3) = some (.agg [.int .u8 d.k2, .int .u32 d.n2]) := fun {H'} g => (h3.of_gr g).loadO (b := q) (a := [.int .u16 d.f, .int .u8 d.k1, .int .u32 d.n1]) (x := [.int .u8 d.k2, .int .u32 d.n2]) (c := []) (k := 5) (by simp [Ce.at]) rfl rfl
    have l30 := l3 (Gr.refl g3.fr)
    simp only [rt, wantV_undef, SX, reduceCtorEq, Nat.reduceEqDiff, ↓reduceIte, Int.reduceEq, Int.reduceLT, Int.reduceLE, Nat.reduceAdd]
    obtain ⟨I, hI⟩ : ∃ I : Nat → Env → AHeap → Prop, ∀ m e H', I m e H' ↔ (H' = H3 ∧ ∃ (i : Nat) (s : List UInt8), m = 8 - i ∧ i ≤ 8 ∧ s = sA d.f i ∧ Env.get e 3 = .ptr q 0 ∧ Env.get e 5 = .str s ∧ Env.get e 16 = .agg (zflags.map (.int .i64)) ∧ Env.get e 17 = .int .i64 i) := ⟨_, fun _ _ _ => Iff.rfl⟩
    refine loop_by I 8 ?_ ?_
    · exact (hI _ _ _).2 ⟨rfl, 0, [27, 91, 48], rfl, by omega, rfl, (by first | (simp only [SG, reduceCtorEq, Nat.reduceEqDiff, ↓reduceIte] <;> rfl) | rfl), (by first | (simp only [SG, reduceCtorEq, Nat.reduceEqDiff, ↓reduceIte] <;> rfl) | rfl), (by first | (simp only [SG, reduceCtorEq, Nat.reduceEqDiff, ↓reduceIte] <;> rfl) | rfl), (by first | (simp only [SG, reduceCtorEq, Nat.reduceEqDiff, ↓reduceIte] <;> rfl) | rfl)⟩
    · intro m e H' hinv
      obtain ⟨hx, i, s, rfl, hi, hsA, e3, e5, e16, e17⟩ := (hI _ _ _).1 hinv
      have hs : s.length ≤ 3 + 4 * i := by rw [hsA]; exact sA_len _ _
      rw [hx]
      have h8 : zflags.length = 8 := rfl
      by_cases dd : (i : Int) < 8
      · have d' : decide ((i : Int) < 8) = true := decide_eq_true dd
        obtain ⟨k, hk⟩ : ∃ k, zflags[i]? = some k := ⟨_, List.getElem?_eq_getElem (by omega)⟩
        have hkr : 1 ≤ k ∧ k ≤ 9 := by
          have hm := List.mem_of_getElem? hk
          simp only [zflags, List.mem_cons, List.not_mem_nil, or_false] at hm
          omega
        obtain ⟨z, rfl⟩ : ∃ z : Nat, k = z := ⟨k.toNat, by omega⟩
        have hz : zf i = z := by unfold zf; rw [List.getD_eq_getElem?_getD, hk]; rfl
        have it := idx_tab hk
        have w1 : IntKind.wrap .i64 ((i : Int) + 1) = ((i + 1 : Nat) : Int) := wrapNat (n := i + 1) (by omega)
        have sh := bin_shrV .u16 .i64 d.f i
        have an := bin_andV .u16 (shrV .u16 d.f i) 1
        by_cases hb : andV .u16 (shrV .u16 d.f i) 1 = 1
        case neg =>
          have dt := decide_eq_false hb
          simp only [e3, e5, e16, e17, d', it, lf, sh, an, dt, w1, SX, reduceCtorEq, Nat.reduceEqDiff, ↓reduceIte, Int.reduceEq, Int.reduceLT, Int.reduceLE, Nat.reduceAdd]
          exact ⟨8 - (i + 1), by omega, (hI _ _ _).2 ⟨rfl, i + 1, s, rfl, by omega, by rw [sA, if_neg (by unfold testA; rw [dt]; simp)]; exact hsA, (by simp only [SG, reduceCtorEq, Nat.reduceEqDiff, ↓reduceIte, e3] <;> rfl), (by simp only [SG, reduceCtorEq, Nat.reduceEqDiff, ↓reduceIte, e5] <;> rfl), (by simp only [SG, reduceCtorEq, Nat.reduceEqDiff, ↓reduceIte, e16] <;> rfl), (by first | (simp only [SG, reduceCtorEq, Nat.reduceEqDiff, ↓reduceIte] <;> rfl) | rfl)⟩⟩
        have dt := decide_eq_true hb
        simp only [e3, e5, e16, e17, d', it, lf, sh, an, dt, w1, SX, reduceCtorEq, Nat.reduceEqDiff, ↓reduceIte, Int.reduceEq, Int.reduceLT, Int.reduceLE, Nat.reduceAdd]
        refine (itoa_spec bq (n := z) (by omega) ht3).mono ?_
        rintro _ H4 ⟨rfl, hx⟩
        rw [hx]
        have dl : (D z).length ≤ 1 := by rw [D1 (by omega)]; simp
        have a1 := bin_adds [59] (D z) (by simp; omega)
        have a2 := bin_adds s ([59] ++ D z) (by simp; omega)
        simp only [e3, e5, e16, e17, a1, a2, w1, SX, reduceCtorEq, Nat.reduceEqDiff, ↓reduceIte, Int.reduceEq, Int.reduceLT, Int.reduceLE, Nat.reduceAdd]
        exact ⟨8 - (i + 1), by omega, (hI _ _ _).2 ⟨rfl, i + 1, s ++ ([59] ++ D z), rfl, by omega, by rw [sA, if_pos (by unfold testA; exact dt), hz, ← dec3_eq (by omega), hsA]; rfl, (by simp only [SG, reduceCtorEq, Nat.reduceEqDiff, ↓reduceIte, e3] <;> rfl), (by first | (simp only [SG, reduceCtorEq, Nat.reduceEqDiff, ↓reduceIte] <;> rfl) | rfl), (by simp only [SG, reduceCtorEq, Nat.reduceEqDiff, ↓reduceIte, e16] <;> rfl), (by first | (simp only [SG, reduceCtorEq, Nat.reduceEqDiff, ↓reduceIte] <;> rfl) | rfl)⟩⟩
      · have d' : decide ((i : Int) < 8) = false := decide_eq_false dd
        have q1 := saysP_len (c := 38) (.inl rfl) hn1 hr2
        have q2 := saysP_len (c := 48) (.inr rfl) hn2 hr3
        simp only [e3, e5, e16, e17, d', l1, l30, SX, reduceCtorEq, Nat.reduceEqDiff, ↓reduceIte, Int.reduceEq, Int.reduceLT, Int.reduceLE, Nat.reduceAdd]
        refine (says_spec bq (c := 38) (.inl rfl) hn1 hr2 g3.fr ht3).mono ?_
        rintro _ H4 ⟨rfl, g4⟩
        have l34 := l3 g4
        have ec : AV.same (.agg [.int .u8 d.k2, .int .u32 d.n2]) (.agg [.int .u8 d.k2, .int .u32 d.n2]) = true := by simp [AV.same, AV.sameL, AV.same1]
        have a1 := bin_adds s (saysP 38 d.k1 d.n1) (by omega)
        refine ⟨by simp only [echoOk, e3, l34, ec, Bool.and_self, SX, reduceCtorEq, Nat.reduceEqDiff, ↓reduceIte, Int.reduceEq, Int.reduceLT, Int.reduceLE, Nat.reduceAdd], ?_⟩
        simp only [e3, e5, a1, SX, reduceCtorEq, Nat.reduceEqDiff, ↓reduceIte, Int.reduceEq, Int.reduceLT, Int.reduceLE, Nat.reduceAdd]
        refine (says_spec bq (c := 48) (.inr rfl) hn2 hr3 g4.fr (g4.tabs g3.fr ht3)).mono ?_
        rintro _ H5 ⟨rfl, g5⟩
        have a2 := bin_adds (s ++ saysP 38 d.k1 d.n1) (saysP 48 d.k2 d.n2) (by simp; omega)
        have a3 := bin_adds (s ++ saysP 38 d.k1 d.n1 ++ saysP 48 d.k2 d.n2) [109] (by simp; omega)
        simp only [e3, e5, a2, a3, SX, reduceCtorEq, Nat.reduceEqDiff, ↓reduceIte, Int.reduceEq, Int.reduceLT, Int.reduceLE, Nat.reduceAdd]
        obtain rfl : i = 8 := by omega
        exact ⟨by unfold betC; rw [if_neg (fun h => h.elim hab (fun h => by rw [hr] at h; cases h)), hsA], ((g2.trans g3).trans g4).trans g5⟩
end
end Go.Proofs.YtfcnjfbnffijhaaDoor.AM
