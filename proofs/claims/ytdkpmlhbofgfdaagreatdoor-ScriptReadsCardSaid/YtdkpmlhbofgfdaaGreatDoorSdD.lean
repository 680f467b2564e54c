/-
  The document's table of ranks and sets: walked; it is the program's.
-/
import Derived.Test.YtdkpmlhbofgfdaaGreatDoorSdC
set_option linter.unusedVariables false
set_option linter.unusedSimpArgs false
namespace Go.Proofs.YtdkpmlhbofgfdaaGreatDoor.AM
open Go
def rkF : Nat → Bool → Nat → Nat → Bool
  | 0, is, _, _ => is
  | k + 1, is, x, y => rkF k (is && (decide (x % 2 = 0) || decide (y % 2 = 1))) (x / 2) (y / 2)
def rkAll : Bool := (List.range 3).all fun r => (List.range 3).all fun t => (List.range 12).all fun a => (List.range 12).all fun b => !(decide (a < (r + 1) * 2 ^ t)) || !(decide (b < (r + 1) * 2 ^ t)) || (rkF t (decide (((a % (r + 1) : Nat) : Int) ≤ ((b % (r + 1) : Nat) : Int))) (a / (r + 1)) (b / (r + 1)) == tabB (r + 1) a b)
set_option maxRecDepth 100000 in
theorem rkAll_ok : rkAll = true := by decide +kernel
theorem rk_tab {r t a b : Nat} (hr : 0 < r) (hr2 : r ≤ 3) (ht : t ≤ 2) (hn : r * 2 ^ t ≤ 12) (ha : a < r * 2 ^ t) (hb : b < r * 2 ^ t) : rkF t (decide (((a % r : Nat) : Int) ≤ ((b % r : Nat) : Int))) (a / r) (b / r) = tabB r a b := by
  have h1 := List.all_eq_true.1 rkAll_ok (r - 1) (List.mem_range.2 (by omega))
  have h2 := List.all_eq_true.1 h1 t (List.mem_range.2 (by omega))
  have h3 := List.all_eq_true.1 h2 a (List.mem_range.2 (by omega))
  have h4 := List.all_eq_true.1 h3 b (List.mem_range.2 (by omega))
  rw [show r - 1 + 1 = r by omega] at h4
  rw [decide_eq_true ha, decide_eq_true hb] at h4
  simpa using h4
/-- rows that grow, apart from the memory they lie in -/
def GX (k : Nat) (v : AV) (cs : List AV) (n : Nat) (X : List Cel) : Prop := cs.length = n * k ∧ ((n = 0 ∧ v = .nils ∧ X = []) ∨ (0 < n ∧ ∃ b, v = .slc b 0 n n ∧ X = [⟨b, k, cs⟩]))
theorem Grow.gx {k base n : Nat} {H : AHeap} {v : AV} {cs : List AV} {L : List Cel} (h : Grow k base H v cs n L) : ∃ X, GX k v cs n X ∧ Hp base H (X ++ L) := by
  obtain ⟨h0, ⟨h1, h2, h⟩ | ⟨h1, b, h2, h⟩⟩ := h
  · exact ⟨[], ⟨h0, .inl ⟨h1, h2, rfl⟩⟩, h⟩
  · exact ⟨[_], ⟨h0, .inr ⟨h1, b, h2, rfl⟩⟩, h⟩
theorem GX.grow {k base n : Nat} {H : AHeap} {v : AV} {cs : List AV} {X L : List Cel} (h : GX k v cs n X) (hp : Hp base H (X ++ L)) : Grow k base H v cs n L := by
  obtain ⟨h0, ⟨h1, h2, rfl⟩ | ⟨h1, b, h2, rfl⟩⟩ := h
  · exact ⟨h0, .inl ⟨h1, h2, hp⟩⟩
  · exact ⟨h0, .inr ⟨h1, b, h2, hp⟩⟩
section
variable {Q : Prog} (dq : SdQ Q) {H : AHeap}
include dq
set_option maxHeartbeats 8000000 in
theorem rank_spec {r t : Nat} (hr : 0 < r) (hr2 : r ≤ 3) (ht : t ≤ 2) (hf : Fr H) : FnTo Q 12 [.int .i64 (r : Int), .int .i64 (t : Int)] H (fun v H' => TabO H.next H'.next H' v r (r * 2 ^ t) ∧ Gr H H') := by
  refine fn_wp (dq.sq.ho 12 rfl _) dq.d12 (by simp [A12]) ?_
  have pw : 2 ^ t ≤ 4 ∧ 1 ≤ 2 ^ t := by
    have : t = 0 ∨ t = 1 ∨ t = 2 := by omega
    rcases this with rfl | rfl | rfl <;> simp
  obtain ⟨n, hn⟩ : ∃ n, r * 2 ^ t = n := ⟨_, rfl⟩
  have hn1 : n ≤ 12 := by
    rw [← hn]; exact Nat.mul_le_mul hr2 pw.1
  have hn0 : 0 < n := by rw [← hn]; exact Nat.mul_pos hr (by omega)
  have c1 : ¬ (r : Int) < 1 := by omega
  have c2 : ¬ (64 : Int) < (r : Int) := by omega
  have c3 : ¬ (t : Int) < 0 := by omega
  have c4 : ¬ (6 : Int) < (t : Int) := by omega
  simp only [A12, c1, c2, c3, c4, SX, reduceCtorEq, Nat.reduceEqDiff, ↓reduceIte, Int.reduceEq, Int.reduceLT, Int.reduceLE, Nat.reduceAdd]
  obtain ⟨I0, hI0⟩ : ∃ I : Nat → Env → AHeap → Prop, ∀ m e H', I m e H' ↔ (∃ i, m = t - i ∧ i ≤ t ∧ H' = H ∧ Env.get e 0 = .int .i64 (r : Int) ∧ Env.get e 1 = .int .i64 (t : Int) ∧ Env.get e 5 = .int .i64 ((r * 2 ^ i : Nat) : Int) ∧ Env.get e 6 = .int .i64 (i : Int)) := ⟨_, fun _ _ _ => Iff.rfl⟩
  refine loop_by I0 t ?_ ?_
  · refine (hI0 _ _ _).2 ⟨0, rfl, by omega, rfl, (by first | (simp only [SG, reduceCtorEq, Nat.reduceEqDiff, ↓reduceIte] <;> rfl) | rfl), (by first | (simp only [SG, reduceCtorEq, Nat.reduceEqDiff, ↓reduceIte] <;> rfl) | rfl), ?_, (by first | (simp only [SG, reduceCtorEq, Nat.reduceEqDiff, ↓reduceIte] <;> rfl) | rfl)⟩
    simp only [Nat.pow_zero, Nat.mul_one, SG, reduceCtorEq, Nat.reduceEqDiff, ↓reduceIte]
  intro m0 e H1 hinv0
  obtain ⟨i0, rfl, hi0, rfl, e0, e1, e5, e6⟩ := (hI0 _ _ _).1 hinv0
  by_cases d0 : (i0 : Int) < (t : Int)
  · have hp2 : r * 2 ^ i0 ≤ 12 := Nat.le_trans (Nat.mul_le_mul_left r (Nat.pow_le_pow_right (by omega) hi0)) (by omega)
    have wm : IntKind.wrap .i64 (2 * ((r * 2 ^ i0 : Nat) : Int)) = ((r * 2 ^ (i0 + 1) : Nat) : Int) := by
      have : r * 2 ^ (i0 + 1) = 2 * (r * 2 ^ i0) := by rw [Nat.pow_succ, ← Nat.mul_assoc, Nat.mul_comm]
      rw [this, wrapI64 (by omega) (by omega)]; omega
    have w1 : IntKind.wrap .i64 ((i0 : Int) + 1) = ((i0 + 1 : Nat) : Int) := wrapNat (n := i0 + 1) (by omega)
    simp only [A12_l0, e0, e1, e5, e6, d0, wm, w1, SX, reduceCtorEq, Nat.reduceEqDiff, ↓reduceIte, Int.reduceEq, Int.reduceLT, Int.reduceLE, Nat.reduceAdd]
    exact ⟨t - (i0 + 1), by omega, (hI0 _ _ _).2 ⟨i0 + 1, rfl, by omega, rfl, (by simp only [SG, reduceCtorEq, Nat.reduceEqDiff, ↓reduceIte, e0] <;> rfl), (by simp only [SG, reduceCtorEq, Nat.reduceEqDiff, ↓reduceIte, e1] <;> rfl), (by first | (simp only [SG, reduceCtorEq, Nat.reduceEqDiff, ↓reduceIte] <;> rfl) | rfl), (by first | (simp only [SG, reduceCtorEq, Nat.reduceEqDiff, ↓reduceIte] <;> rfl) | rfl)⟩⟩
  obtain rfl : i0 = t := by omega
  rw [hn] at e5
  have c5 : ¬ (64 : Int) < (n : Int) := by omega
  simp only [A12_l0, A12_r2, e0, e1, e5, e6, d0, c5, SX, reduceCtorEq, Nat.reduceEqDiff, ↓reduceIte, Int.reduceEq, Int.reduceLT, Int.reduceLE, Nat.reduceAdd]
  obtain ⟨I, hI⟩ : ∃ I : Nat → Env → AHeap → Prop, ∀ m e H', I m e H' ↔ (∃ a v tv L, m = n - a ∧ a ≤ n ∧ Grow 1 H1.next H' v tv a L ∧ Keep H1.next H1 H' ∧ (∀ i, i < a → ∃ ba, tv[i]? = some (.slc ba 0 n n) ∧ (⟨ba, 1, tabR r n i⟩ : Cel) ∈ L) ∧ Env.get e 0 = .int .i64 (r : Int) ∧ Env.get e 1 = .int .i64 (i0 : Int) ∧ Env.get e 5 = .int .i64 (n : Int) ∧ Env.get e 7 = v ∧ Env.get e 8 = .int .i64 (a : Int)) := ⟨_, fun _ _ _ => Iff.rfl⟩
  refine loop_by I n ?_ ?_
  · exact (hI _ _ _).2 ⟨0, .nils, [], [], rfl, by omega, Grow.nil 1 (Hp.nil H1 hf), Keep.refl _ _, fun i hi => by omega, (by simp only [SG, reduceCtorEq, Nat.reduceEqDiff, ↓reduceIte, e0] <;> rfl), (by simp only [SG, reduceCtorEq, Nat.reduceEqDiff, ↓reduceIte, e1] <;> rfl), (by simp only [SG, reduceCtorEq, Nat.reduceEqDiff, ↓reduceIte, e5] <;> rfl), (by first | (simp only [SG, reduceCtorEq, Nat.reduceEqDiff, ↓reduceIte] <;> rfl) | rfl), (by first | (simp only [SG, reduceCtorEq, Nat.reduceEqDiff, ↓reduceIte] <;> rfl) | rfl)⟩
  intro m' e' H2 hinv
  obtain ⟨a, v, tv, L, rfl, ha, g2, k2, hd, f0, f1, f5, f7, f8⟩ := (hI _ _ _).1 hinv
  by_cases da : (a : Int) < (n : Int)
  rotate_left
  · obtain rfl : a = n := by omega
    simp only [A12_l1, A12_tl, f0, f1, f5, f7, f8, da, SX, reduceCtorEq, Nat.reduceEqDiff, ↓reduceIte, Int.reduceEq, Int.reduceLT, Int.reduceLE, Nat.reduceAdd]
    refine ⟨?_, g2.hp.gr k2⟩
    obtain ⟨h0', ⟨hz, _⟩ | ⟨_, bt, rfl, gh⟩⟩ := g2
    · omega
    obtain ⟨es, ty, q1, q2⟩ := gh.has _ (List.mem_cons_self ..)
    rw [hn]
    refine ⟨bt, es, ty, tv, rfl, gh.lo _ (List.mem_cons_self ..), gh.lt (List.mem_cons_self ..), q1, by simpa using h0', fun i hi => ?_⟩
    obtain ⟨ba, p1, p2⟩ := hd i hi
    obtain ⟨es', ty', q1', _⟩ := gh.has _ (List.mem_cons_of_mem _ p2)
    exact ⟨ba, es', ty', p1, gh.lo _ (List.mem_cons_of_mem _ p2), gh.lt (List.mem_cons_of_mem _ p2), q1'⟩
  obtain ⟨X, hX, gX⟩ := g2.gx
  simp only [A12_l1, f0, f1, f5, f7, f8, da, SX, reduceCtorEq, Nat.reduceEqDiff, ↓reduceIte, Int.reduceEq, Int.reduceLT, Int.reduceLE, Nat.reduceAdd]
  obtain ⟨J, hJ⟩ : ∃ J : Nat → Env → AHeap → Prop, ∀ m e H', J m e H' ↔ (∃ b w, m = n - b ∧ b ≤ n ∧ Grow 1 H1.next H' w (tabR r b a) b (X ++ L) ∧ Keep H1.next H1 H' ∧ Env.get e 0 = .int .i64 (r : Int) ∧ Env.get e 1 = .int .i64 (i0 : Int) ∧ Env.get e 5 = .int .i64 (n : Int) ∧ Env.get e 7 = v ∧ Env.get e 8 = .int .i64 (a : Int) ∧ Env.get e 9 = w ∧ Env.get e 10 = .int .i64 (b : Int)) := ⟨_, fun _ _ _ => Iff.rfl⟩
  refine loop_by J n ?_ ?_
  · exact (hJ _ _ _).2 ⟨0, .nils, rfl, by omega, Grow.nil 1 gX, k2, (by simp only [SG, reduceCtorEq, Nat.reduceEqDiff, ↓reduceIte, f0] <;> rfl), (by simp only [SG, reduceCtorEq, Nat.reduceEqDiff, ↓reduceIte, f1] <;> rfl), (by simp only [SG, reduceCtorEq, Nat.reduceEqDiff, ↓reduceIte, f5] <;> rfl), (by simp only [SG, reduceCtorEq, Nat.reduceEqDiff, ↓reduceIte, f7] <;> rfl), (by simp only [SG, reduceCtorEq, Nat.reduceEqDiff, ↓reduceIte, f8] <;> rfl), (by first | (simp only [SG, reduceCtorEq, Nat.reduceEqDiff, ↓reduceIte] <;> rfl) | rfl), (by first | (simp only [SG, reduceCtorEq, Nat.reduceEqDiff, ↓reduceIte] <;> rfl) | rfl)⟩
  intro m'' e'' H3 hinv'
  obtain ⟨b, w, rfl, hb, g3, k3, q0, q1, q5, q7, q8, q9, q10⟩ := (hJ _ _ _).1 hinv'
  by_cases db : (b : Int) < (n : Int)
  rotate_left
  · obtain rfl : b = n := by omega
    obtain ⟨h0', ⟨hz, _⟩ | ⟨_, ba, rfl, gh⟩⟩ := g3
    · omega
    have gh2 : Hp H1.next H3 (X ++ (⟨ba, 1, tabR r b a⟩ :: L)) := gh.perm (List.perm_middle.symm)
    have g4 := hX.grow gh2
    obtain ⟨H5, H6, v6, s5, s6, g6, k6, nr6, nn6⟩ := g4.push (r := [.slc ba 0 b b]) rfl rfl (by omega) (bytes := 24) (by omega) (by omega)
    have w1 : IntKind.wrap .i64 ((a : Int) + 1) = ((a + 1 : Nat) : Int) := wrapNat (n := a + 1) (by omega)
    have htl : tv.length = a := by simpa using g2.1
    simp only [A12_l2, q0, q1, q5, q7, q8, q9, q10, db, bs1V_slc, s5, wp_append, s6, w1, SX, reduceCtorEq, Nat.reduceEqDiff, ↓reduceIte, Int.reduceEq, Int.reduceLT, Int.reduceLE, Nat.reduceAdd]
    refine ⟨b - (a + 1), by omega, (hI _ _ _).2 ⟨a + 1, v6, tv ++ [.slc ba 0 b b], ⟨ba, 1, tabR r b a⟩ :: L, rfl, by omega, g6, k3.trans k6, fun i hi => ?_, (by simp only [SG, reduceCtorEq, Nat.reduceEqDiff, ↓reduceIte, q0] <;> rfl), (by simp only [SG, reduceCtorEq, Nat.reduceEqDiff, ↓reduceIte, q1] <;> rfl), (by simp only [SG, reduceCtorEq, Nat.reduceEqDiff, ↓reduceIte, q5] <;> rfl), (by first | (simp only [SG, reduceCtorEq, Nat.reduceEqDiff, ↓reduceIte] <;> rfl) | rfl), (by first | (simp only [SG, reduceCtorEq, Nat.reduceEqDiff, ↓reduceIte] <;> rfl) | rfl)⟩⟩
    by_cases hia : i = a
    · subst hia
      exact ⟨ba, by rw [List.getElem?_append_right (by omega), htl, Nat.sub_self]; rfl, List.mem_cons_self ..⟩
    · obtain ⟨bb, p1, p2⟩ := hd i (by omega)
      exact ⟨bb, by rw [List.getElem?_append_left (by omega)]; exact p1, List.mem_cons_of_mem _ p2⟩
  have rm1 := remN (a := a) hr
  have rm2 := remN (a := b) hr
  have qu1 := quoN (a := a) hr (by omega)
  have qu2 := quoN (a := b) hr (by omega)
  have aq : a / r ≤ a := Nat.div_le_self _ _
  have bq : b / r ≤ b := Nat.div_le_self _ _
  have tb := rk_tab (r := r) (t := i0) (a := a) (b := b) hr hr2 ht (by omega) (by omega) (by omega)
  generalize hle : decide (((a % r : Nat) : Int) ≤ ((b % r : Nat) : Int)) = is0 at tb
  generalize hxx : a / r = x0 at *
  generalize hyy : b / r = y0 at *
  simp only [A12_l2, q0, q1, q5, q7, q8, q9, q10, db, rm1, rm2, hle, qu1, qu2, SX, reduceCtorEq, Nat.reduceEqDiff, ↓reduceIte, Int.reduceEq, Int.reduceLT, Int.reduceLE, Nat.reduceAdd]
  obtain ⟨M, hM⟩ : ∃ M : Nat → Env → AHeap → Prop, ∀ m e H', M m e H' ↔ (∃ i is x y, m = i0 - i ∧ i ≤ i0 ∧ H' = H3 ∧ x ≤ 12 ∧ y ≤ 12 ∧ rkF (i0 - i) is x y = tabB r a b ∧ Env.get e 0 = .int .i64 (r : Int) ∧ Env.get e 1 = .int .i64 (i0 : Int) ∧ Env.get e 5 = .int .i64 (n : Int) ∧ Env.get e 7 = v ∧ Env.get e 8 = .int .i64 (a : Int) ∧ Env.get e 9 = w ∧ Env.get e 10 = .int .i64 (b : Int) ∧
      Env.get e 11 = .bool is ∧ Env.get e 12 = .int .i64 (x : Nat) ∧ Env.get e 13 = .int .i64 (y : Nat) ∧ Env.get e 14 = .int .i64 (i : Nat)) := ⟨_, fun _ _ _ => Iff.rfl⟩
  refine loop_by M i0 ?_ ?_
  · exact (hM _ _ _).2 ⟨0, is0, x0, y0, rfl, by omega, rfl, by omega, by omega, tb, (by simp only [SG, reduceCtorEq, Nat.reduceEqDiff, ↓reduceIte, q0] <;> rfl), (by simp only [SG, reduceCtorEq, Nat.reduceEqDiff, ↓reduceIte, q1] <;> rfl), (by simp only [SG, reduceCtorEq, Nat.reduceEqDiff, ↓reduceIte, q5] <;> rfl), (by simp only [SG, reduceCtorEq, Nat.reduceEqDiff, ↓reduceIte, q7] <;> rfl), (by simp only [SG, reduceCtorEq, Nat.reduceEqDiff, ↓reduceIte, q8] <;> rfl), (by simp only [SG, reduceCtorEq, Nat.reduceEqDiff, ↓reduceIte, q9] <;> rfl), (by simp only [SG, reduceCtorEq, Nat.reduceEqDiff, ↓reduceIte, q10] <;> rfl), (by first | (simp only [SG, reduceCtorEq, Nat.reduceEqDiff, ↓reduceIte] <;> rfl) | rfl), (by first | (simp only [SG, reduceCtorEq, Nat.reduceEqDiff, ↓reduceIte] <;> rfl) | rfl), (by first | (simp only [SG, reduceCtorEq, Nat.reduceEqDiff, ↓reduceIte] <;> rfl) | rfl), (by first | (simp only [SG, reduceCtorEq, Nat.reduceEqDiff, ↓reduceIte] <;> rfl) | rfl)⟩
  intro m3 e3 H4 hinv3
  obtain ⟨i, is, x, y, rfl, hi, rfl, hx, hy, hrk, z0, z1, z5, z7, z8, z9, z10, z11, z12, z13, z14⟩ := (hM _ _ _).1 hinv3
  by_cases di : (i : Int) < (i0 : Int)
  · have r1 : binV .rem (.int .i64 (x : Int)) (.int .i64 2) = some (.int .i64 ((x % 2 : Nat) : Int)) := remN (a := x) (m := 2) (by omega)
    have r2 : binV .rem (.int .i64 (y : Int)) (.int .i64 2) = some (.int .i64 ((y % 2 : Nat) : Int)) := remN (a := y) (m := 2) (by omega)
    have u1 : binV .quo (.int .i64 (x : Int)) (.int .i64 2) = some (.int .i64 ((x / 2 : Nat) : Int)) := quoN (a := x) (m := 2) (by omega) (by omega)
    have u2 : binV .quo (.int .i64 (y : Int)) (.int .i64 2) = some (.int .i64 ((y / 2 : Nat) : Int)) := quoN (a := y) (m := 2) (by omega) (by omega)
    have w1 : IntKind.wrap .i64 ((i : Int) + 1) = ((i + 1 : Nat) : Int) := wrapNat (n := i + 1) (by omega)
    have st : rkF (i0 - (i + 1)) (is && (decide (x % 2 = 0) || decide (y % 2 = 1))) (x / 2) (y / 2) = tabB r a b := by
      rw [← hrk, show i0 - i = (i0 - (i + 1)) + 1 by omega]; rfl
    have nxt : ∀ e4 is', is' = (is && (decide (x % 2 = 0) || decide (y % 2 = 1))) → Env.get e4 0 = .int .i64 (r : Int) → Env.get e4 1 = .int .i64 (i0 : Int) → Env.get e4 5 = .int .i64 (n : Int) → Env.get e4 7 = v → Env.get e4 8 = .int .i64 (a : Int) → Env.get e4 9 = w → Env.get e4 10 = .int .i64 (b : Int) → Env.get e4 11 = .bool is' → Env.get e4 12 = .int .i64 ((x / 2 : Nat) : Int) → Env.get e4 13 = .int .i64 ((y / 2 : Nat) : Int) → Env.get e4 14 = .int .i64 ((i + 1 : Nat) : Int) → ∃ m', m' < i0 - i ∧ M m' e4 H4 := by
      intro e4 is' his a0 a1 a5 a7 a8 a9 a10 a11 a12 a13 a14
      subst his
      exact ⟨i0 - (i + 1), by omega, (hM _ _ _).2 ⟨i + 1, _, _, _, rfl, by omega, rfl, by omega, by omega, st, a0, a1, a5, a7, a8, a9, a10, a11, a12, a13, a14⟩⟩
    cases is with
    | false =>
      simp only [A12_l3, z0, z1, z5, z7, z8, z9, z10, z11, z12, z13, z14, di, u1, u2, w1, wantV_undef, SX, reduceCtorEq, Nat.reduceEqDiff, ↓reduceIte, Int.reduceEq, Int.reduceLT, Int.reduceLE, Nat.reduceAdd]
      exact nxt _ false rfl (by simp only [SG, reduceCtorEq, Nat.reduceEqDiff, ↓reduceIte, z0] <;> rfl) (by simp only [SG, reduceCtorEq, Nat.reduceEqDiff, ↓reduceIte, z1] <;> rfl) (by simp only [SG, reduceCtorEq, Nat.reduceEqDiff, ↓reduceIte, z5] <;> rfl) (by simp only [SG, reduceCtorEq, Nat.reduceEqDiff, ↓reduceIte, z7] <;> rfl) (by simp only [SG, reduceCtorEq, Nat.reduceEqDiff, ↓reduceIte, z8] <;> rfl) (by simp only [SG, reduceCtorEq, Nat.reduceEqDiff, ↓reduceIte, z9] <;> rfl) (by simp only [SG, reduceCtorEq, Nat.reduceEqDiff, ↓reduceIte, z10] <;> rfl) (by first | (simp only [SG, reduceCtorEq, Nat.reduceEqDiff, ↓reduceIte] <;> rfl) | rfl) (by first | (simp only [SG, reduceCtorEq, Nat.reduceEqDiff, ↓reduceIte] <;> rfl) | rfl) (by first | (simp only [SG, reduceCtorEq, Nat.reduceEqDiff, ↓reduceIte] <;> rfl) | rfl) (by first | (simp only [SG, reduceCtorEq, Nat.reduceEqDiff, ↓reduceIte] <;> rfl) | rfl)
    | true =>
      by_cases p : x % 2 = 0
      · have dp : ((x % 2 : Nat) : Int) = 0 := by omega
        simp only [A12_l3, z0, z1, z5, z7, z8, z9, z10, z11, z12, z13, z14, di, r1, dp, u1, u2, w1, wantV_undef, SX, reduceCtorEq, Nat.reduceEqDiff, ↓reduceIte, Int.reduceEq, Int.reduceLT, Int.reduceLE, Nat.reduceAdd]
        exact nxt _ true (by rw [decide_eq_true p]; rfl) (by simp only [SG, reduceCtorEq, Nat.reduceEqDiff, ↓reduceIte, z0] <;> rfl) (by simp only [SG, reduceCtorEq, Nat.reduceEqDiff, ↓reduceIte, z1] <;> rfl) (by simp only [SG, reduceCtorEq, Nat.reduceEqDiff, ↓reduceIte, z5] <;> rfl) (by simp only [SG, reduceCtorEq, Nat.reduceEqDiff, ↓reduceIte, z7] <;> rfl) (by simp only [SG, reduceCtorEq, Nat.reduceEqDiff, ↓reduceIte, z8] <;> rfl) (by simp only [SG, reduceCtorEq, Nat.reduceEqDiff, ↓reduceIte, z9] <;> rfl) (by simp only [SG, reduceCtorEq, Nat.reduceEqDiff, ↓reduceIte, z10] <;> rfl) (by first | (simp only [SG, reduceCtorEq, Nat.reduceEqDiff, ↓reduceIte] <;> rfl) | rfl) (by first | (simp only [SG, reduceCtorEq, Nat.reduceEqDiff, ↓reduceIte] <;> rfl) | rfl) (by first | (simp only [SG, reduceCtorEq, Nat.reduceEqDiff, ↓reduceIte] <;> rfl) | rfl) (by first | (simp only [SG, reduceCtorEq, Nat.reduceEqDiff, ↓reduceIte] <;> rfl) | rfl)
      · have dp : ((x % 2 : Nat) : Int) = 0 ↔ False := ⟨fun hh => p (by omega), False.elim⟩
        by_cases q : y % 2 = 1
        · have dq' : ((y % 2 : Nat) : Int) = 1 := by omega
          simp only [A12_l3, z0, z1, z5, z7, z8, z9, z10, z11, z12, z13, z14, di, r1, dp, r2, dq', u1, u2, w1, SX, reduceCtorEq, Nat.reduceEqDiff, ↓reduceIte, Int.reduceEq, Int.reduceLT, Int.reduceLE, Nat.reduceAdd]
          exact nxt _ true (by rw [decide_eq_false p, decide_eq_true q]; rfl) (by simp only [SG, reduceCtorEq, Nat.reduceEqDiff, ↓reduceIte, z0] <;> rfl) (by simp only [SG, reduceCtorEq, Nat.reduceEqDiff, ↓reduceIte, z1] <;> rfl) (by simp only [SG, reduceCtorEq, Nat.reduceEqDiff, ↓reduceIte, z5] <;> rfl) (by simp only [SG, reduceCtorEq, Nat.reduceEqDiff, ↓reduceIte, z7] <;> rfl) (by simp only [SG, reduceCtorEq, Nat.reduceEqDiff, ↓reduceIte, z8] <;> rfl) (by simp only [SG, reduceCtorEq, Nat.reduceEqDiff, ↓reduceIte, z9] <;> rfl) (by simp only [SG, reduceCtorEq, Nat.reduceEqDiff, ↓reduceIte, z10] <;> rfl) (by first | (simp only [SG, reduceCtorEq, Nat.reduceEqDiff, ↓reduceIte] <;> rfl) | rfl) (by first | (simp only [SG, reduceCtorEq, Nat.reduceEqDiff, ↓reduceIte] <;> rfl) | rfl) (by first | (simp only [SG, reduceCtorEq, Nat.reduceEqDiff, ↓reduceIte] <;> rfl) | rfl) (by first | (simp only [SG, reduceCtorEq, Nat.reduceEqDiff, ↓reduceIte] <;> rfl) | rfl)
        · have dq' : ((y % 2 : Nat) : Int) = 1 ↔ False := ⟨fun hh => q (by omega), False.elim⟩
          simp only [A12_l3, z0, z1, z5, z7, z8, z9, z10, z11, z12, z13, z14, di, r1, dp, r2, dq', u1, u2, w1, SX, reduceCtorEq, Nat.reduceEqDiff, ↓reduceIte, Int.reduceEq, Int.reduceLT, Int.reduceLE, Nat.reduceAdd]
          exact nxt _ false (by rw [decide_eq_false p, decide_eq_false q]; rfl) (by simp only [SG, reduceCtorEq, Nat.reduceEqDiff, ↓reduceIte, z0] <;> rfl) (by simp only [SG, reduceCtorEq, Nat.reduceEqDiff, ↓reduceIte, z1] <;> rfl) (by simp only [SG, reduceCtorEq, Nat.reduceEqDiff, ↓reduceIte, z5] <;> rfl) (by simp only [SG, reduceCtorEq, Nat.reduceEqDiff, ↓reduceIte, z7] <;> rfl) (by simp only [SG, reduceCtorEq, Nat.reduceEqDiff, ↓reduceIte, z8] <;> rfl) (by simp only [SG, reduceCtorEq, Nat.reduceEqDiff, ↓reduceIte, z9] <;> rfl) (by simp only [SG, reduceCtorEq, Nat.reduceEqDiff, ↓reduceIte, z10] <;> rfl) (by first | (simp only [SG, reduceCtorEq, Nat.reduceEqDiff, ↓reduceIte] <;> rfl) | rfl) (by first | (simp only [SG, reduceCtorEq, Nat.reduceEqDiff, ↓reduceIte] <;> rfl) | rfl) (by first | (simp only [SG, reduceCtorEq, Nat.reduceEqDiff, ↓reduceIte] <;> rfl) | rfl) (by first | (simp only [SG, reduceCtorEq, Nat.reduceEqDiff, ↓reduceIte] <;> rfl) | rfl)
  · obtain rfl : i = i0 := by omega
    rw [Nat.sub_self] at hrk
    have hrk' : is = tabB r a b := hrk
    rw [hrk'] at z11
    have bsv : bs1V (.bool (tabB r a b)) = some (.row ⟨[.bool (tabB r a b)], 0, false, true, 0⟩, .slc 1 1) := rfl
    obtain ⟨H5, H6, v6, s5, s6, g6, k6, nr6, nn6⟩ := g3.push (r := [.bool (tabB r a b)]) rfl rfl (by omega) (bytes := 1) (by omega) (by omega)
    have w1 : IntKind.wrap .i64 ((b : Int) + 1) = ((b + 1 : Nat) : Int) := wrapNat (n := b + 1) (by omega)
    simp only [A12_l3, z0, z1, z5, z7, z8, z9, z10, z11, z14, di, bsv, s5, wp_append, s6, w1, SX, reduceCtorEq, Nat.reduceEqDiff, ↓reduceIte, Int.reduceEq, Int.reduceLT, Int.reduceLE, Nat.reduceAdd]
    exact ⟨n - (b + 1), by omega, (hJ _ _ _).2 ⟨b + 1, v6, rfl, by omega, by rw [tabR_succ]; exact g6, k3.trans k6, (by simp only [SG, reduceCtorEq, Nat.reduceEqDiff, ↓reduceIte, z0] <;> rfl), (by simp only [SG, reduceCtorEq, Nat.reduceEqDiff, ↓reduceIte, z1] <;> rfl), (by simp only [SG, reduceCtorEq, Nat.reduceEqDiff, ↓reduceIte, z5] <;> rfl), (by simp only [SG, reduceCtorEq, Nat.reduceEqDiff, ↓reduceIte, z7] <;> rfl), (by simp only [SG, reduceCtorEq, Nat.reduceEqDiff, ↓reduceIte, z8] <;> rfl), (by first | (simp only [SG, reduceCtorEq, Nat.reduceEqDiff, ↓reduceIte] <;> rfl) | rfl), (by first | (simp only [SG, reduceCtorEq, Nat.reduceEqDiff, ↓reduceIte] <;> rfl) | rfl)⟩⟩
end
end Go.Proofs.YtdkpmlhbofgfdaaGreatDoor.AM
