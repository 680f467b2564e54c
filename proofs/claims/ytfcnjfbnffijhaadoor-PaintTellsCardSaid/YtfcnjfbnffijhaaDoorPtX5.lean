/-
  The document: what a terminal is told; the law.
-/
import Derived.Test.YtfcnjfbnffijhaaDoorPtX4
import Derived.Test.YtfcnjfbnffijhaaDoorAmArgs2
set_option linter.unusedVariables false
set_option linter.unusedSimpArgs false
namespace Go.Proofs.YtfcnjfbnffijhaaDoor.AM
open Go
theorem seq7f (c d : Ce) : seqV [1, 1, 1, 1, 1, 1, 1] false (.agg c.cs) (.agg d.cs) = some (.bool (decide (c = d))) := by
  obtain ⟨r, w, f, k1, n1, k2, n2⟩ := c
  obtain ⟨r', w', f', k1', n1', k2', n2'⟩ := d
  simp only [seqV, ROp.run, Opd.ev, Ce.cs, Ce.at, List.length_cons, List.length_nil, Nat.zero_add, Nat.reduceAdd, and_self, if_true, cellsEq, Ce.mk.injEq]
  by_cases h1 : r = r' <;> by_cases h2 : w = w' <;> by_cases h3 : f = f' <;> by_cases h4 : k1 = k1' <;> by_cases h5 : n1 = n1' <;> by_cases h6 : k2 = k2' <;> by_cases h7 : n2 = n2' <;> simp [h1, h2, h3, h4, h5, h6, h7]
theorem sor1 {base : Nat} {H : AHeap} {l : List Cel} {b k : Nat} {x : Int} (h : Hp base H (⟨b, k, [.int .i32 x]⟩ :: l)) : strOfRunesV H (.slc b 0 1 1) = some (.str (encP x)) := by
  obtain ⟨B, r, hc⟩ := h.rowOf (List.mem_cons_self ..)
  simp only [strOfRunesV, ROp.run, Opd.ev, r, hc]
  have : AM.cut [AV.int .i32 x] 0 1 = some [.int .i32 x] := rfl
  simp only [this, runesOf, List.append_nil, encP]
theorem cellT_len {s : List UInt8 × Ce} {c : Ce} (h1 : 0 ≤ c.n1) (h2 : 0 ≤ c.n2) : (cellT s c).1.length ≤ s.1.length + 204 := by
  unfold cellT
  split
  · omega
  · have q1 := betC_len (c := s.2) h1 h2
    have q2 := enc_len c.r
    simp; omega
theorem stepD_len {y x : Nat} {s : Bool × (List UInt8 × Ce)} {o c : Ce} (h1 : 0 ≤ c.n1) (h2 : 0 ≤ c.n2) (hx : x < 400) (hy : y < 400) : (stepD y s x o c).2.1.length ≤ s.2.1.length + 224 := by
  unfold stepD
  split
  · simp only; omega
  · have q1 := toP_len hx hy
    split
    · have := cellT_len (s := s.2) h1 h2; simp only; omega
    · have := cellT_len (s := (s.2.1 ++ toP x y, s.2.2)) h1 h2
      simp only [List.length_append] at this ⊢; omega
theorem rowD_len {y : Nat} {lo ln : List Ce} {s : List UInt8 × Ce} (hi : InP ln) (hl : ln.length ≤ 400) (hy : y < 400) : ∀ {i : Nat}, i ≤ ln.length → (rowD y lo ln s i).2.1.length ≤ s.1.length + 224 * i
  | 0, _ => by simp [rowD]
  | i + 1, h => by
    have ih := rowD_len (lo := lo) (s := s) hi hl hy (i := i) (by omega)
    obtain ⟨c, hc⟩ : ∃ c, ln[i]? = some c := ⟨_, List.getElem?_eq_getElem (by omega)⟩
    obtain ⟨h1, h2⟩ := hi c (List.mem_of_getElem? hc)
    have := stepD_len (s := rowD y lo ln s i) (o := lo.getD i blankC) h1 h2 (show i < 400 by omega) hy
    rw [rowD, getD_of hc]; omega
section
variable {Q : Prog} (mq : PmQ Q) {H : AHeap}
include mq
set_option maxHeartbeats 4000000 in
theorem number_spec {n : Nat} (hn : n < 1000) (hf : Fr H) : FnTo Q 45 [.int .i64 n] H (fun r H' => r = .str (D n) ∧ Gr H H') := by
  refine fn_wp (mq.ho 45 rfl _) mq.q45 (by simp [A45]) ?_
  simp only [A45, SX, reduceCtorEq, Nat.reduceEqDiff, ↓reduceIte, Int.reduceEq, Int.reduceLT, Int.reduceLE, Nat.reduceAdd]
  obtain ⟨I, hI⟩ : ∃ I : Nat → Env → AHeap → Prop, ∀ m e H', I m e H' ↔ (Gr H H' ∧ ∃ (k : Nat) (s : List UInt8), m = k ∧ k ≤ n ∧ s.length + k ≤ 1000 ∧ D n = D k ++ s ∧ Env.get e 0 = .int .i64 k ∧ Env.get e 3 = .str s) := ⟨_, fun _ _ _ => Iff.rfl⟩
  refine loop_by I n ?_ ?_
  · exact (hI _ _ _).2 ⟨Gr.refl hf, n, [], rfl, by omega, by show 0 + n ≤ 1000; omega, (List.append_nil _).symm, (by first | (simp only [SG, reduceCtorEq, Nat.reduceEqDiff, ↓reduceIte] <;> rfl) | rfl), (by first | (simp only [SG, reduceCtorEq, Nat.reduceEqDiff, ↓reduceIte] <;> rfl) | rfl)⟩
  · intro m e H1 hinv
    obtain ⟨g1, k, s, rfl, hk, hs, hD, e0, e3⟩ := (hI _ _ _).1 hinv
    have rm : binV .rem (.int .i64 (m : Int)) (.int .i64 10) = some (.int .i64 ((m % 10 : Nat) : Int)) := by rw [bin_remV _ _ _ (by decide)]; rfl
    have qu : binV .quo (.int .i64 (m : Int)) (.int .i64 10) = some (.int .i64 ((m / 10 : Nat) : Int)) := by
      rw [bin_quoV _ _ _ (by decide)]
      congr 2
      unfold quoV
      rw [Int.tdiv_eq_ediv_of_nonneg (by omega), show (m : Int) / 10 = ((m / 10 : Nat) : Int) by omega]
      exact wrapNat (n := m / 10) (by omega)
    have w1 : IntKind.wrap .i64 (48 + ((m % 10 : Nat) : Int)) = ((48 + m % 10 : Nat) : Int) := wrapNat (n := 48 + m % 10) (by omega)
    have w2 : IntKind.wrap .u8 ((48 + m % 10 : Nat) : Int) = ((48 + m % 10 : Nat) : Int) := wrapU8 (by omega) (by omega)
    obtain ⟨H2, s2, h2, k2⟩ := (Hp.nil H1 g1.fr).make [.int .u8 ((48 + m % 10 : Nat) : Int)] 1
    have sb := sob1 h2
    rw [Int.toNat_natCast] at sb
    have ad := bin_adds [UInt8.ofNat (48 + m % 10)] s (by simp; omega)
    have g2 := g1.trans (h2.gr k2)
    by_cases c : m < 10
    · have d0 : m / 10 = 0 := by omega
      have d1 : decide (((m / 10 : Nat) : Int) = 0) = true := decide_eq_true (by omega)
      simp only [e0, e3, rm, w1, w2, s2, sb, ad, qu, d1, SX, reduceCtorEq, Nat.reduceEqDiff, ↓reduceIte, Int.reduceEq, Int.reduceLT, Int.reduceLE, Nat.reduceAdd]
      exact ⟨by rw [hD, D1 c, show m % 10 = m by omega], g2⟩
    · have d1 : decide (((m / 10 : Nat) : Int) = 0) = false := decide_eq_false (by omega)
      simp only [e0, e3, rm, w1, w2, s2, sb, ad, qu, d1, SX, reduceCtorEq, Nat.reduceEqDiff, ↓reduceIte, Int.reduceEq, Int.reduceLT, Int.reduceLE, Nat.reduceAdd]
      exact ⟨m / 10, by omega, (hI _ _ _).2 ⟨g2, m / 10, [UInt8.ofNat (48 + m % 10)] ++ s, rfl, by omega, by simp; omega, by rw [hD, Dq c, D1 (n := m % 10) (by omega), List.append_assoc], (by first | (simp only [SG, reduceCtorEq, Nat.reduceEqDiff, ↓reduceIte] <;> rfl) | rfl), (by first | (simp only [SG, reduceCtorEq, Nat.reduceEqDiff, ↓reduceIte] <;> rfl) | rfl)⟩⟩
set_option maxHeartbeats 4000000 in
theorem place_spec {x y : Nat} (hx : x < 400) (hy : y < 400) (hf : Fr H) : FnTo Q 33 [.int .i64 x, .int .i64 y] H (fun r H' => r = .str (toP x y) ∧ Gr H H') := by
  refine fn_wp (mq.ho 33 rfl _) mq.q33 (by simp [A33]) ?_
  have w1 : IntKind.wrap .i64 ((y : Int) + 1) = ((y + 1 : Nat) : Int) := wrapNat (n := y + 1) (by omega)
  have w2 : IntKind.wrap .i64 ((x : Int) + 1) = ((x + 1 : Nat) : Int) := wrapNat (n := x + 1) (by omega)
  have d1 := D_len (n := y + 1) (by omega)
  have d2 := D_len (n := x + 1) (by omega)
  simp only [A33, w1, SX, reduceCtorEq, Nat.reduceEqDiff, ↓reduceIte, Int.reduceEq, Int.reduceLT, Int.reduceLE, Nat.reduceAdd]
  refine (number_spec mq (n := y + 1) (by omega) hf).mono ?_
  rintro _ H1 ⟨rfl, g1⟩
  have a1 := bin_adds [27, 91] (D (y + 1)) (by simp; omega)
  have a2 := bin_adds ([27, 91] ++ D (y + 1)) [59] (by simp; omega)
  simp only [a1, a2, w2, SX, reduceCtorEq, Nat.reduceEqDiff, ↓reduceIte, Int.reduceEq, Int.reduceLT, Int.reduceLE, Nat.reduceAdd]
  refine (number_spec mq (n := x + 1) (by omega) g1.fr).mono ?_
  rintro _ H2 ⟨rfl, g2⟩
  have a3 := bin_adds ([27, 91] ++ D (y + 1) ++ [59]) (D (x + 1)) (by simp; omega)
  have a4 := bin_adds ([27, 91] ++ D (y + 1) ++ [59] ++ D (x + 1)) [72] (by simp; omega)
  simp only [a3, a4, SX, reduceCtorEq, Nat.reduceEqDiff, ↓reduceIte, Int.reduceEq, Int.reduceLT, Int.reduceLE, Nat.reduceAdd]
  exact ⟨rfl, g1.trans g2⟩
set_option maxHeartbeats 16000000 in
theorem cellR_wp {H0 : AHeap} (g : Gr H0 H) {tb u : Nat} {a c : Ce} (h : Hp H0.next H [⟨u, 7, c.cs⟩, ⟨tb, 5, a.at⟩]) (h1 : 0 ≤ c.n1) (h2 : 0 ≤ c.n2) (h3 : 0 ≤ c.f) {t : List UInt8} (hb : t.length ≤ 1000000) {e : Env} {v3 v5 v9 v10 v11 : AV} (e3 : Env.get e 3 = v3) (e5 : Env.get e 5 = v5) (e7 : Env.get e 7 = .str t) (e8 : Env.get e 8 = .ptr tb 0) (e9 : Env.get e 9 = v9) (e10 : Env.get e 10 = v10) (e11 : Env.get e 11 = v11) (e12 : Env.get e 12 = .ptr u 0) {K : PostC}
    (kn : ∀ e' H', Gr H0 H' → Hp H0.next H' [⟨tb, 5, (cellT (t, a) c).2.at⟩] → Env.get e' 3 = v3 → Env.get e' 5 = v5 → Env.get e' 7 = .str (cellT (t, a) c).1 → Env.get e' 8 = .ptr tb 0 → Env.get e' 9 = v9 → Env.get e' 10 = v10 → Env.get e' 11 = v11 → K .normal e' H') : ACode.wp Q A14_cell K e H := by
  have lw := h.load (b := u) (k := 7) (List.mem_cons_self ..) (o := 1) (v := .int .u8 c.w) rfl
  by_cases z : c.w = 2
  · rw [cellT, if_pos z] at kn
    have dz := decide_eq_true z
    simp only [A14_cell, e12, lw, z, wantV_undef, SX, reduceCtorEq, Nat.reduceEqDiff, ↓reduceIte, Int.reduceEq, Int.reduceLT, Int.reduceLE, Nat.reduceAdd]
    exact kn _ _ g h.drop (by simp only [SG, reduceCtorEq, Nat.reduceEqDiff, ↓reduceIte, e3] <;> rfl) (by simp only [SG, reduceCtorEq, Nat.reduceEqDiff, ↓reduceIte, e5] <;> rfl) (by simp only [SG, reduceCtorEq, Nat.reduceEqDiff, ↓reduceIte, e7] <;> rfl) (by simp only [SG, reduceCtorEq, Nat.reduceEqDiff, ↓reduceIte, e8] <;> rfl) (by simp only [SG, reduceCtorEq, Nat.reduceEqDiff, ↓reduceIte, e9] <;> rfl) (by simp only [SG, reduceCtorEq, Nat.reduceEqDiff, ↓reduceIte, e10] <;> rfl) (by simp only [SG, reduceCtorEq, Nat.reduceEqDiff, ↓reduceIte, e11] <;> rfl)
  · rw [cellT, if_neg z] at kn
    have dz := decide_eq_false z
    have la := h.loadN (b := tb) (k := 5) (cs := a.at) (by simp) (n := 5) rfl
    have lu : ∀ {H'}, Hp H0.next H' [⟨u, 7, c.cs⟩, ⟨tb, 5, a.at⟩] → loadV H' Option.none (.ptr u 0) = some (.int .i32 c.r) ∧ loadV H' (some 5) (.ptr u 2) = some (.agg c.at) := fun {H'} h =>
      ⟨h.load (b := u) (k := 7) (List.mem_cons_self ..) (o := 0) rfl, h.loadO (a := [.int .i32 c.r, .int .u8 c.w]) (x := c.at) (c := []) (k := 7) (by simp [Ce.cs]) rfl rfl⟩
    obtain ⟨l0, l2⟩ := lu h
    obtain ⟨H1, s1, g1, k1⟩ := h.make [.int .i32 c.r] 1
    have sr := sor1 g1
    have hb0 : H0.next ≤ H.next := g.next
    have g01 : Gr H0 H1 := ⟨g.keep.trans k1, g1.bn, g1.fr⟩
    simp only [A14_cell, e7, e8, e12, lw, dz, z, la, l0, l2, s1, run_strOfRunes, sr, wantV_undef, SX, reduceCtorEq, Nat.reduceEqDiff, ↓reduceIte, Int.reduceEq, Int.reduceLT, Int.reduceLE, Nat.reduceAdd]
    refine (betweenR_spec mq (c := a) (d := c) h1 h2 g1.fr).mono ?_
    rintro _ H2 ⟨rfl, gr2⟩
    rw [betD_eq h3]
    have g2 := g1.of_gr gr2
    have sr2 := sor1 g2
    obtain ⟨l0, l2⟩ := lu g2.drop
    have q1 := betC_len (c := a) h1 h2
    have q2 := enc_len c.r
    have a1 := bin_adds t (betC a c) (by omega)
    have a2 := bin_adds (t ++ betC a c) (encP c.r) (by simp; omega)
    have ec : AV.same (.int .i32 c.r) (.int .i32 c.r) = true := by simp [AV.same, AV.same1]
    have ed : AV.same (.str (encP c.r)) (.str (encP c.r)) = true := by simp [AV.same, AV.same1]
    refine ⟨by simp only [echoOk, l0, ec, run_strOfRunes, sr2, ed, Bool.and_self, SX, reduceCtorEq, Nat.reduceEqDiff, ↓reduceIte, Int.reduceEq, Int.reduceLT, Int.reduceLE, Nat.reduceAdd], ?_⟩
    obtain ⟨H3, s3, g3, k3, _⟩ := (g2.drop.drop).storeN (n := 5) (new := c.at) rfl rfl rfl
    simp only [e3, e5, e7, e8, e9, e10, e11, e12, a1, a2, l2, s3, wantV_undef, SX, reduceCtorEq, Nat.reduceEqDiff, ↓reduceIte, Int.reduceEq, Int.reduceLT, Int.reduceLE, Nat.reduceAdd]
    have gg : Gr H0 H3 := ⟨(g01.trans gr2).keep.trans k3, g3.bn, g3.fr⟩
    exact kn _ _ gg g3 (by simp only [SG, reduceCtorEq, Nat.reduceEqDiff, ↓reduceIte, e3] <;> rfl) (by simp only [SG, reduceCtorEq, Nat.reduceEqDiff, ↓reduceIte, e5] <;> rfl) (by first | (simp only [SG, reduceCtorEq, Nat.reduceEqDiff, ↓reduceIte] <;> rfl) | rfl) (by simp only [SG, reduceCtorEq, Nat.reduceEqDiff, ↓reduceIte, e8] <;> rfl) (by simp only [SG, reduceCtorEq, Nat.reduceEqDiff, ↓reduceIte, e9] <;> rfl) (by simp only [SG, reduceCtorEq, Nat.reduceEqDiff, ↓reduceIte, e10] <;> rfl) (by simp only [SG, reduceCtorEq, Nat.reduceEqDiff, ↓reduceIte, e11] <;> rfl)
end
section
variable {Q : Prog} (mq : PmQ Q) {H : AHeap}
include mq
set_option maxHeartbeats 16000000 in
theorem rowT_wp {H0 : AHeap} (hf0 : Fr H0) (g : Gr H0 H) {tb : Nat} {a : Ce} (h : Hp H0.next H [⟨tb, 5, a.at⟩]) {wn hn : Nat} {vn vo : AV} {l m : List Ce} (hw : wn ≤ 400) (hl : l.length = wn * hn) (hm : m.length = wn * hn) (hvn : IsS RowR H0 vn (docL wn hn l)) (hvo : IsS RowR H0 vo (docL wn hn m)) (hi : InP l) (hfl : InF l) {q p5 : Nat}
    (lq : ∀ {H'}, Gr H0 H' → loadV H' Option.none (.ptr q 0) = some (.int .i64 wn) ∧ loadV H' Option.none (.ptr q 2) = some vn) (l5 : ∀ {H'}, Gr H0 H' → loadV H' Option.none (.ptr p5 2) = some vo) {y : Nat} (hy : y < hn) (hy4 : y < 400) {t : List UInt8} (hb : t.length ≤ 800000) {e : Env} (e3 : Env.get e 3 = .ptr q 0) (e5 : Env.get e 5 = .ptr p5 0) (e7 : Env.get e 7 = .str t) (e8 : Env.get e 8 = .ptr tb 0) (e9 : Env.get e 9 = .int .i64 y) (e10 : Env.get e 10 = .bool false) {K : PostC}
    (kn : ∀ e' H', Gr H0 H' → Hp H0.next H' [⟨tb, 5, (rowD y (lineP m wn y) (lineP l wn y) (t, a) wn).2.2.at⟩] → Env.get e' 3 = .ptr q 0 → Env.get e' 5 = .ptr p5 0 → Env.get e' 7 = .str (rowD y (lineP m wn y) (lineP l wn y) (t, a) wn).2.1 → Env.get e' 8 = .ptr tb 0 → Env.get e' 9 = .int .i64 y → K .normal e' H') : ACode.wp Q A14_row K e H := by
  simp only [A14_row, SX, reduceCtorEq, Nat.reduceEqDiff, ↓reduceIte, Int.reduceEq, Int.reduceLT, Int.reduceLE, Nat.reduceAdd]
  obtain ⟨lo, hlo⟩ : ∃ lo, lineP m wn y = lo := ⟨_, rfl⟩
  obtain ⟨ln, hln⟩ : ∃ ln, lineP l wn y = ln := ⟨_, rfl⟩
  have nlo : lo.length = wn := by rw [← hlo]; exact line_len hm hy
  have nln : ln.length = wn := by rw [← hln]; exact line_len hl hy
  have hil : InP ln := by rw [← hln]; exact fun c hc => hi c (List.mem_of_mem_take (List.mem_of_mem_drop hc))
  have hifl : InF ln := by rw [← hln]; exact hfl.line wn y
  rw [hlo, hln] at kn
  obtain ⟨J, hJ⟩ : ∃ J : Nat → Env → AHeap → Prop, ∀ k e H', J k e H' ↔ (Gr H0 H' ∧ ∃ j : Nat, k = wn - j ∧ j ≤ wn ∧ Hp H0.next H' [⟨tb, 5, (rowD y lo ln (t, a) j).2.2.at⟩] ∧ Env.get e 3 = .ptr q 0 ∧ Env.get e 5 = .ptr p5 0 ∧ Env.get e 7 = .str (rowD y lo ln (t, a) j).2.1 ∧ Env.get e 8 = .ptr tb 0 ∧ Env.get e 9 = .int .i64 y ∧ Env.get e 10 = .bool (rowD y lo ln (t, a) j).1 ∧ Env.get e 11 = .int .i64 j) := ⟨_, fun _ _ _ => Iff.rfl⟩
  refine loop_by J wn ?_ ?_
  · exact (hJ _ _ _).2 ⟨g, 0, rfl, by omega, h, (by simp only [SG, reduceCtorEq, Nat.reduceEqDiff, ↓reduceIte, e3] <;> rfl), (by simp only [SG, reduceCtorEq, Nat.reduceEqDiff, ↓reduceIte, e5] <;> rfl), (by simp only [SG, reduceCtorEq, Nat.reduceEqDiff, ↓reduceIte, e7] <;> rfl), (by simp only [SG, reduceCtorEq, Nat.reduceEqDiff, ↓reduceIte, e8] <;> rfl), (by simp only [SG, reduceCtorEq, Nat.reduceEqDiff, ↓reduceIte, e9] <;> rfl), (by simp only [SG, reduceCtorEq, Nat.reduceEqDiff, ↓reduceIte, e10] <;> rfl), (by first | (simp only [SG, reduceCtorEq, Nat.reduceEqDiff, ↓reduceIte] <;> rfl) | rfl)⟩
  · clear e3 e5 e7 e8 e9 e10
    intro k e' H1 hinv
    obtain ⟨g1, j, rfl, hj, h1, e3, e5, e7, e8, e9, e10, e11⟩ := (hJ _ _ _).1 hinv
    obtain ⟨b0, b2⟩ := lq g1
    have c2 := l5 g1
    by_cases d : (j : Int) < wn
    · have w1 : IntKind.wrap .i64 ((j : Int) + 1) = ((j + 1 : Nat) : Int) := wrapNat (n := j + 1) (by omega)
      have hvn1 : IsS RowR H1 vn (docL wn hn l) := hvn.grow (fun x c hc => RowS.grow hc hf0 g1) hf0 g1
      have hvo1 : IsS RowR H1 vo (docL wn hn m) := hvo.grow (fun x c hc => RowS.grow hc hf0 g1) hf0 g1
      have xi := hvn1.at (i := (y : Int)) (by omega) (by rw [docL_len]; omega) .i64
      obtain ⟨z, lz, hz⟩ := hvn1.get (i := (y : Int)) (a := ln) (by rw [Int.toNat_natCast, ← hln]; exact docL_at hy)
      have hz : RowS H1 z ln := hz
      obtain ⟨c, hc⟩ : ∃ c, ln[j]? = some c := ⟨_, List.getElem?_eq_getElem (by omega)⟩
      obtain ⟨o, ho⟩ : ∃ o, lo[j]? = some o := ⟨_, List.getElem?_eq_getElem (by omega)⟩
      obtain ⟨i1, i2⟩ := hil c (List.mem_of_getElem? hc)
      have i3 := (hifl c (List.mem_of_getElem? hc)).1
      obtain ⟨bb, oo, ix, l7, _⟩ := hz.cell hc .i64
      obtain ⟨H2, s2, g2, k2⟩ := h1.make [.int .i32 0, .int .u8 0, .int .u16 0, .int .u8 0, .int .u32 0, .int .u8 0, .int .u32 0] 7
      obtain ⟨u, hu⟩ : ∃ u, H1.next = u := ⟨_, rfl⟩
      rw [hu] at g2
      obtain ⟨H3, s3, g3, k3, _⟩ := g2.storeN (n := 7) (new := c.cs) rfl rfl rfl
      have gr3 : Gr H0 H3 := ⟨g1.keep.trans (k2.trans k3), g3.bn, g3.fr⟩
      have l8 := g3.loadN (b := u) (k := 7) (cs := c.cs) (List.mem_cons_self ..) (n := 7) rfl
      have c3 := l5 gr3
      have hvo3 : IsS RowR H3 vo (docL wn hn m) := hvo.grow (fun x c hc => RowS.grow hc hf0 gr3) hf0 gr3
      have xo := hvo3.at (i := (y : Int)) (by omega) (by rw [docL_len]; omega) .i64
      obtain ⟨zo, lzo, hzo⟩ := hvo3.get (i := (y : Int)) (a := lo) (by rw [Int.toNat_natCast, ← hlo]; exact docL_at hy)
      have hzo : RowS H3 zo lo := hzo
      obtain ⟨bo, oo', ixo, l7o, _⟩ := hzo.cell ho .i64
      have sq := seq7f c o
      have un : rowD y lo ln (t, a) (j + 1) = stepD y (rowD y lo ln (t, a) j) j o c := by rw [rowD, getD_of hc, getD_of ho]
      have len := rowD_len (lo := lo) (s := (t, a)) hil (by omega) hy4 (i := j) (by omega)
      obtain ⟨S, hS⟩ : ∃ S, rowD y lo ln (t, a) j = S := ⟨_, rfl⟩
      rw [hS] at un len e7 e10 g3 h1
      obtain ⟨fl, t', a'⟩ := S
      simp only at un len e7 e10 g3 h1
      by_cases cz : c = o
      · rw [stepD, if_pos cz] at un
        have dz := decide_eq_true cz
        simp only [e3, e5, e7, e8, e9, e10, e11, b0, b2, d, xi, lz, ix, l7, run_allocL, s2, hu, s3, l8, c3, xo, lzo, ixo, l7o, run_seq, sq, dz, w1, wantV_undef, SX, reduceCtorEq, Nat.reduceEqDiff, ↓reduceIte, Int.reduceEq, Int.reduceLT, Int.reduceLE, Nat.reduceAdd]
        exact ⟨wn - (j + 1), by omega, (hJ _ _ _).2 ⟨gr3, j + 1, rfl, by omega, by rw [un]; exact g3.drop, (by simp only [SG, reduceCtorEq, Nat.reduceEqDiff, ↓reduceIte, e3] <;> rfl), (by simp only [SG, reduceCtorEq, Nat.reduceEqDiff, ↓reduceIte, e5] <;> rfl), by rw [un]; exact (by simp only [SG, reduceCtorEq, Nat.reduceEqDiff, ↓reduceIte, e7] <;> rfl), (by simp only [SG, reduceCtorEq, Nat.reduceEqDiff, ↓reduceIte, e8] <;> rfl), (by simp only [SG, reduceCtorEq, Nat.reduceEqDiff, ↓reduceIte, e9] <;> rfl), by rw [un]; exact (by first | (simp only [SG, reduceCtorEq, Nat.reduceEqDiff, ↓reduceIte] <;> rfl) | rfl), (by first | (simp only [SG, reduceCtorEq, Nat.reduceEqDiff, ↓reduceIte] <;> rfl) | rfl)⟩⟩
      · rw [stepD, if_neg cz] at un
        have dz := decide_eq_false cz
        have fin : ∀ (e2 : Env) (H4 : AHeap), Gr H0 H4 → Hp H0.next H4 [⟨tb, 5, (rowD y lo ln (t, a) (j + 1)).2.2.at⟩] → Env.get e2 3 = .ptr q 0 → Env.get e2 5 = .ptr p5 0 → Env.get e2 7 = .str (rowD y lo ln (t, a) (j + 1)).2.1 → Env.get e2 8 = .ptr tb 0 → Env.get e2 9 = .int .i64 y → Env.get e2 10 = .bool (rowD y lo ln (t, a) (j + 1)).1 → Env.get e2 11 = .int .i64 ((j + 1 : Nat) : Int) → ∃ m', m' < wn - j ∧ J m' e2 H4 := fun e2 H4 k1 k2 k3 k4 k5 k6 k7 k8 k9 =>
          ⟨wn - (j + 1), by omega, (hJ _ _ _).2 ⟨k1, j + 1, rfl, by omega, k2, k3, k4, k5, k6, k7, k8, k9⟩⟩
        cases fl with
        | true =>
          rw [if_pos rfl] at un
          simp only [e3, e5, e7, e8, e9, e10, e11, b0, b2, d, xi, lz, ix, l7, run_allocL, s2, hu, s3, l8, c3, xo, lzo, ixo, l7o, run_seq, sq, dz, w1, wantV_undef, SX, reduceCtorEq, Nat.reduceEqDiff, ↓reduceIte, Int.reduceEq, Int.reduceLT, Int.reduceLE, Nat.reduceAdd]
          refine cellR_wp mq gr3 g3 i1 i2 i3 (t := t') (by omega) (by simp only [SG, reduceCtorEq, Nat.reduceEqDiff, ↓reduceIte, e3] <;> rfl) (by simp only [SG, reduceCtorEq, Nat.reduceEqDiff, ↓reduceIte, e5] <;> rfl) (by simp only [SG, reduceCtorEq, Nat.reduceEqDiff, ↓reduceIte, e7] <;> rfl) (by simp only [SG, reduceCtorEq, Nat.reduceEqDiff, ↓reduceIte, e8] <;> rfl) (by simp only [SG, reduceCtorEq, Nat.reduceEqDiff, ↓reduceIte, e9] <;> rfl) (by simp only [SG, reduceCtorEq, Nat.reduceEqDiff, ↓reduceIte, e10] <;> rfl) (by simp only [SG, reduceCtorEq, Nat.reduceEqDiff, ↓reduceIte, e11] <;> rfl) (by first | (simp only [SG, reduceCtorEq, Nat.reduceEqDiff, ↓reduceIte] <;> rfl) | rfl) ?_
          intro e2 H4 k1 k2 k3 k5 k7 k8 k9 k10 k11
          simp only [k3, k5, k7, k8, k9, k10, k11, w1, SX, reduceCtorEq, Nat.reduceEqDiff, ↓reduceIte, Int.reduceEq, Int.reduceLT, Int.reduceLE, Nat.reduceAdd]
          exact fin _ _ k1 (by rw [un]; exact k2) (by simp only [SG, reduceCtorEq, Nat.reduceEqDiff, ↓reduceIte, k3] <;> rfl) (by simp only [SG, reduceCtorEq, Nat.reduceEqDiff, ↓reduceIte, k5] <;> rfl) (by rw [un]; exact (by simp only [SG, reduceCtorEq, Nat.reduceEqDiff, ↓reduceIte, k7] <;> rfl)) (by simp only [SG, reduceCtorEq, Nat.reduceEqDiff, ↓reduceIte, k8] <;> rfl) (by simp only [SG, reduceCtorEq, Nat.reduceEqDiff, ↓reduceIte, k9] <;> rfl) (by rw [un]; exact (by simp only [SG, reduceCtorEq, Nat.reduceEqDiff, ↓reduceIte, k10] <;> rfl)) (by first | (simp only [SG, reduceCtorEq, Nat.reduceEqDiff, ↓reduceIte] <;> rfl) | rfl)
        | false =>
          rw [if_neg (by simp)] at un
          have pl := toP_len (x := j) (y := y) (by omega) hy4
          have a1 := bin_adds t' (toP j y) (by omega)
          simp only [e3, e5, e7, e8, e9, e10, e11, b0, b2, d, xi, lz, ix, l7, run_allocL, s2, hu, s3, l8, c3, xo, lzo, ixo, l7o, run_seq, sq, dz, w1, wantV_undef, SX, reduceCtorEq, Nat.reduceEqDiff, ↓reduceIte, Int.reduceEq, Int.reduceLT, Int.reduceLE, Nat.reduceAdd]
          refine (place_spec mq (x := j) (y := y) (by omega) hy4 g3.fr).mono ?_
          rintro _ H5 ⟨rfl, g5⟩
          simp only [e3, e5, e7, e8, e9, e10, e11, a1, wantV_undef, SX, reduceCtorEq, Nat.reduceEqDiff, ↓reduceIte, Int.reduceEq, Int.reduceLT, Int.reduceLE, Nat.reduceAdd]
          refine cellR_wp mq (gr3.trans g5) (g3.of_gr g5) i1 i2 i3 (t := t' ++ toP j y) (by simp; omega) (by simp only [SG, reduceCtorEq, Nat.reduceEqDiff, ↓reduceIte, e3] <;> rfl) (by simp only [SG, reduceCtorEq, Nat.reduceEqDiff, ↓reduceIte, e5] <;> rfl) (by first | (simp only [SG, reduceCtorEq, Nat.reduceEqDiff, ↓reduceIte] <;> rfl) | rfl) (by simp only [SG, reduceCtorEq, Nat.reduceEqDiff, ↓reduceIte, e8] <;> rfl) (by simp only [SG, reduceCtorEq, Nat.reduceEqDiff, ↓reduceIte, e9] <;> rfl) (by first | (simp only [SG, reduceCtorEq, Nat.reduceEqDiff, ↓reduceIte] <;> rfl) | rfl) (by simp only [SG, reduceCtorEq, Nat.reduceEqDiff, ↓reduceIte, e11] <;> rfl) (by first | (simp only [SG, reduceCtorEq, Nat.reduceEqDiff, ↓reduceIte] <;> rfl) | rfl) ?_
          intro e2 H4 k1 k2 k3 k5 k7 k8 k9 k10 k11
          simp only [k3, k5, k7, k8, k9, k10, k11, w1, SX, reduceCtorEq, Nat.reduceEqDiff, ↓reduceIte, Int.reduceEq, Int.reduceLT, Int.reduceLE, Nat.reduceAdd]
          exact fin _ _ k1 (by rw [un]; exact k2) (by simp only [SG, reduceCtorEq, Nat.reduceEqDiff, ↓reduceIte, k3] <;> rfl) (by simp only [SG, reduceCtorEq, Nat.reduceEqDiff, ↓reduceIte, k5] <;> rfl) (by rw [un]; exact (by simp only [SG, reduceCtorEq, Nat.reduceEqDiff, ↓reduceIte, k7] <;> rfl)) (by simp only [SG, reduceCtorEq, Nat.reduceEqDiff, ↓reduceIte, k8] <;> rfl) (by simp only [SG, reduceCtorEq, Nat.reduceEqDiff, ↓reduceIte, k9] <;> rfl) (by rw [un]; exact (by simp only [SG, reduceCtorEq, Nat.reduceEqDiff, ↓reduceIte, k10] <;> rfl)) (by first | (simp only [SG, reduceCtorEq, Nat.reduceEqDiff, ↓reduceIte] <;> rfl) | rfl)
    · obtain rfl : j = wn := by omega
      simp only [e3, e5, e7, e8, e9, e10, e11, b0, d, SX, reduceCtorEq, Nat.reduceEqDiff, ↓reduceIte, Int.reduceEq, Int.reduceLT, Int.reduceLE, Nat.reduceAdd]
      exact kn _ _ g1 h1 (by simp only [SG, reduceCtorEq, Nat.reduceEqDiff, ↓reduceIte, e3] <;> rfl) (by simp only [SG, reduceCtorEq, Nat.reduceEqDiff, ↓reduceIte, e5] <;> rfl) (by simp only [SG, reduceCtorEq, Nat.reduceEqDiff, ↓reduceIte, e7] <;> rfl) (by simp only [SG, reduceCtorEq, Nat.reduceEqDiff, ↓reduceIte, e8] <;> rfl) (by simp only [SG, reduceCtorEq, Nat.reduceEqDiff, ↓reduceIte, e9] <;> rfl)
end
theorem frameD_len {w h : Nat} {lo ln : List Ce} {s : List UInt8 × Ce} (hi : InP ln) (hl : ln.length = w * h) (hw : w ≤ 400) (hh : h ≤ 400) : ∀ {i : Nat}, i ≤ h → (frameD w lo ln s i).1.length ≤ s.1.length + 224 * (w * i)
  | 0, _ => by simp [frameD]
  | i + 1, hih => by
    have ih := frameD_len (lo := lo) (s := s) hi hl hw hh (i := i) (by omega)
    have ll := line_len hl (j := i) (by omega)
    have := rowD_len (y := i) (lo := lineP lo w i) (ln := lineP ln w i) (s := frameD w lo ln s i) (fun c hc => hi c (List.mem_of_mem_take (List.mem_of_mem_drop hc))) (by omega) (by omega) (i := w) (by omega)
    rw [frameD, Nat.mul_succ]; omega
section
variable {Q : Prog} (mq : PmQ Q) {H : AHeap}
include mq
set_option maxHeartbeats 16000000 in
theorem finR_wp {H0 : AHeap} (g : Gr H0 H) {tb q : Nat} {a : Ce} (h : Hp H0.next H [⟨tb, 5, a.at⟩]) {x y : Nat} {s : Bool} (hx : x < 400) (hy : y < 400) (l3 : loadV H Option.none (.ptr q 3) = some (.int .i64 x)) (l4 : loadV H Option.none (.ptr q 4) = some (.int .i64 y)) (l5 : loadV H Option.none (.ptr q 5) = some (.bool s)) {t : List UInt8} (hb : t.length ≤ 1000000) {e : Env} (e3 : Env.get e 3 = .ptr q 0) (e7 : Env.get e 7 = .str t) (e8 : Env.get e 8 = .ptr tb 0) {K : PostC}
    (kn : ∀ e' H', Gr H0 H' → Env.get e' 4 = .str (finP (t, a) ++ curP x y s) → K .ret e' H') : ACode.wp Q A14_fin K e H := by
  have la := h.loadN (b := tb) (k := 5) (cs := a.at) (List.mem_cons_self ..) (n := 5) rfl
  have sq : seqV [1, 1, 1, 1, 1] true (.agg a.at) (.agg [.int .u16 0, .int .u8 0, .int .u32 0, .int .u8 0, .int .u32 0]) = some (.bool (!decide (sameA a blankC))) := seq5 a blankC
  obtain ⟨F, hF⟩ : ∃ F, finP (t, a) = F := ⟨_, rfl⟩
  have lF : F.length ≤ 1000004 := by rw [← hF]; unfold finP; split <;> simp <;> omega
  rw [hF] at kn
  have pl := toP_len hx hy
  have a1 := bin_adds t [27, 91, 48, 109] (by simp; omega)
  have a2 := bin_adds F (toP x y) (by omega)
  have a3 := bin_adds (F ++ toP x y) [27, 91, 63, 50, 53, 104] (by simp; omega)
  have a4 := bin_adds F [27, 91, 63, 50, 53, 108] (by simp; omega)
  by_cases z : sameA a blankC
  · rw [finP, if_pos z] at hF
    simp only at hF
    subst hF
    cases s with
    | true =>
      simp only [A14_fin, e3, e7, e8, la, run_build0, run_seq, sq, decide_eq_true z, l3, l4, l5, wantV_undef, SX, reduceCtorEq, Nat.reduceEqDiff, ↓reduceIte, Int.reduceEq, Int.reduceLT, Int.reduceLE, Nat.reduceAdd]
      refine (place_spec mq hx hy g.fr).mono ?_
      rintro _ H1 ⟨rfl, g1⟩
      simp only [e3, e7, a2, a3, SX, reduceCtorEq, Nat.reduceEqDiff, ↓reduceIte, Int.reduceEq, Int.reduceLT, Int.reduceLE, Nat.reduceAdd]
      exact kn _ _ (g.trans g1) (by rw [curP, if_pos rfl, ← List.append_assoc]; exact (by first | (simp only [SG, reduceCtorEq, Nat.reduceEqDiff, ↓reduceIte] <;> rfl) | rfl))
    | false =>
      simp only [A14_fin, e3, e7, e8, la, run_build0, run_seq, sq, decide_eq_true z, l3, l4, l5, a4, wantV_undef, SX, reduceCtorEq, Nat.reduceEqDiff, ↓reduceIte, Int.reduceEq, Int.reduceLT, Int.reduceLE, Nat.reduceAdd]
      exact kn _ _ g (by rw [curP, if_neg (by simp)]; exact (by first | (simp only [SG, reduceCtorEq, Nat.reduceEqDiff, ↓reduceIte] <;> rfl) | rfl))
  · rw [finP, if_neg z] at hF
    simp only at hF
    rw [hF] at a1
    cases s with
    | true =>
      simp only [A14_fin, e3, e7, e8, la, run_build0, run_seq, sq, decide_eq_false z, l3, l4, l5, a1, wantV_undef, SX, reduceCtorEq, Nat.reduceEqDiff, ↓reduceIte, Int.reduceEq, Int.reduceLT, Int.reduceLE, Nat.reduceAdd]
      refine (place_spec mq hx hy g.fr).mono ?_
      rintro _ H1 ⟨rfl, g1⟩
      simp only [e3, e7, a2, a3, SX, reduceCtorEq, Nat.reduceEqDiff, ↓reduceIte, Int.reduceEq, Int.reduceLT, Int.reduceLE, Nat.reduceAdd]
      exact kn _ _ (g.trans g1) (by rw [curP, if_pos rfl, ← List.append_assoc]; exact (by first | (simp only [SG, reduceCtorEq, Nat.reduceEqDiff, ↓reduceIte] <;> rfl) | rfl))
    | false =>
      simp only [A14_fin, e3, e7, e8, la, run_build0, run_seq, sq, decide_eq_false z, l3, l4, l5, a1, a4, wantV_undef, SX, reduceCtorEq, Nat.reduceEqDiff, ↓reduceIte, Int.reduceEq, Int.reduceLT, Int.reduceLE, Nat.reduceAdd]
      exact kn _ _ g (by rw [curP, if_neg (by simp)]; exact (by first | (simp only [SG, reduceCtorEq, Nat.reduceEqDiff, ↓reduceIte] <;> rfl) | rfl))
set_option maxHeartbeats 16000000 in
theorem TellR_spec (hf : Fr H) {w h x y : Int} {s : Bool} {l : List Ce} {r : AV} {w' h' x' y' : Int} {s' : Bool} {l' : List Ce} {r' : AV} (hg : GF H w h x y s l r) (hi : InF l) (hg' : GF H w' h' x' y' s' l' r') (hi' : InF l') (hp' : InP l') (h16 : l'.length ≤ 1600) :
    FnTo Q 14 [r, r'] H (fun b H' => b = .str (tellP w h x y s l w' h' x' y' s' l') ∧ Gr H H') := by
  refine fn_wp (mq.ho 14 rfl _) mq.q14 (by simp [A14]) ?_
  have shape : ∀ {w h x y : Int} {s : Bool} {l : List Ce} {r : AV}, GF H w h x y s l r → ∃ (a : Int) (b : AV), r = .agg (mat a h b x y s) ∧ b.one = true := fun {w h x y s l r} hg => by
    obtain ⟨v, o, ⟨h1, rfl, h3⟩ | ⟨h1, rfl⟩⟩ := hg
    · exact ⟨_, _, rfl, o⟩
    · exact ⟨_, _, rfl, o⟩
  obtain ⟨a, b, hr, o⟩ := shape hg
  obtain ⟨a', b', hr', o'⟩ := shape hg'
  obtain ⟨H1, s1, g1, k1⟩ := (Hp.nil H hf).make (mat a h b x y s) 6
  obtain ⟨H2, s2, g2, k2⟩ := g1.make (mat a' h' b' x' y' s') 6
  obtain ⟨p, hp⟩ : ∃ p, H.next = p := ⟨_, rfl⟩
  obtain ⟨q, hq⟩ : ∃ q, H1.next = q := ⟨_, rfl⟩
  have gg := g2.gr (k1.trans k2)
  rw [hp, hq] at g2
  have b6 := g2.loadN (b := q) (k := 6) (cs := mat a' h' b' x' y' s') (by simp) (n := 6) rfl
  rw [hr, hr']
  simp only [A14, boxV_agg (mat_one o), boxV_agg (mat_one o'), s1, s2, hp, hq, b6, SX, reduceCtorEq, Nat.reduceEqDiff, ↓reduceIte, Int.reduceEq, Int.reduceLT, Int.reduceLE, Nat.reduceAdd]
  rw [← hr']
  refine (RightR_spec mq g2.fr (hg'.grow hf gg) hi').mono ?_
  rintro _ H3 ⟨rfl, gr3⟩
  have g3 := g2.of_gr gr3
  have gg3 := gg.trans gr3
  cases bad : rightM w' h' x' y' l' with
  | false =>
    simp only [SX, reduceCtorEq, Nat.reduceEqDiff, ↓reduceIte, Int.reduceEq, Int.reduceLT, Int.reduceLE, Nat.reduceAdd]
    exact ⟨by unfold tellP; rw [if_neg (by simp [bad])], gg3⟩
  | true =>
  have gd := rightM_Good bad
  obtain ⟨_, _, px0, px1, py0, py1⟩ := rightM_parts bad
  obtain ⟨wn, hn, rfl, rfl, hw, hh, hl'⟩ := gd.nat
  obtain ⟨xn, rfl⟩ : ∃ n : Nat, x' = n := ⟨x'.toNat, by omega⟩
  obtain ⟨yn, rfl⟩ : ∃ n : Nat, y' = n := ⟨y'.toNat, by omega⟩
  obtain ⟨v', ov', er', hv'⟩ := hg'.rows gd
  rw [er'] at hr'
  simp only [mat, AV.agg.injEq, List.cons.injEq, AV.int.injEq, true_and, and_true] at hr'
  obtain ⟨rfl, rfl⟩ := hr'
  rw [Int.toNat_natCast, Int.toNat_natCast] at hv'
  have a6 := g3.loadN (b := p) (k := 6) (cs := mat a h b x y s) (by simp) (n := 6) rfl
  have b6 := g3.loadN (b := q) (k := 6) (cs := mat wn hn v' xn yn s') (by simp) (n := 6) rfl
  simp only [a6, b6, SX, reduceCtorEq, Nat.reduceEqDiff, ↓reduceIte, Int.reduceEq, Int.reduceLT, Int.reduceLE, Nat.reduceAdd]
  rw [← hr]
  refine (beyond_spec mq g3.fr (hg.grow hf gg3) hi hw hh o').mono ?_
  rintro r4 H4 ⟨gr4, hb⟩
  have gg4 := gg3.trans gr4
  have g4 := g3.of_gr gr4
  obtain ⟨m, hm⟩ : ∃ m, baseL w h x y l wn hn = m := ⟨_, rfl⟩
  have hml : m.length = wn * hn := by rw [← hm, baseL_len]; rfl
  obtain ⟨Z, hZ⟩ : ∃ Z : List AV, [AV.int .i64 0, .int .i64 0, .nils, .int .i64 0, .int .i64 0, .bool false] = Z := ⟨_, rfl⟩
  have hZl : Z.length = 6 := by rw [← hZ]; rfl
  have fin : ∃ fw fh fv fx fy fs bl, r4 = .tup [.agg (mat fw fh fv fx fy fs), .bool bl] ∧ fv.one = true ∧ IsS RowR H4 fv (docL wn hn m) ∧ ((bl = false ∧ (rightM w h x y l = true ∧ w = wn ∧ h = hn)) ∨ (bl = true ∧ ¬ (rightM w h x y l = true ∧ w = wn ∧ h = hn))) := by
    by_cases c : rightM w h x y l = true ∧ w = wn ∧ h = hn
    · rw [if_pos c] at hb
      rw [baseL, if_pos c] at hm
      subst hm
      have c' := c
      obtain ⟨c1, rfl, rfl⟩ := c
      obtain ⟨v, ov, er, hv⟩ := hg.rows (rightM_Good c1)
      rw [er] at hb
      rw [Int.toNat_natCast, Int.toNat_natCast] at hv
      exact ⟨_, _, _, _, _, _, _, hb, ov, hv.grow (fun x c hc => RowS.grow hc hf gg4) hf gg4, .inl ⟨rfl, c'⟩⟩
    · rw [if_neg c] at hb
      rw [baseL, if_neg c] at hm
      obtain ⟨u, hb, ou, hu⟩ := hb
      rw [Int.toNat_natCast, Int.toNat_natCast] at hm
      rw [← hm]
      exact ⟨_, _, _, _, _, _, _, hb, ou, hu H4 (fun _ _ => rfl) rfl, .inr ⟨rfl, c⟩⟩
  clear hb
  obtain ⟨fw, fh, fv, fx, fy, fs, bl, rfl, ofv, hv4, hbl⟩ := fin
  obtain ⟨H5, s5, g5, k5⟩ := g4.make Z 6
  obtain ⟨t5, ht5⟩ : ∃ t5, H4.next = t5 := ⟨_, rfl⟩
  rw [ht5] at g5
  obtain ⟨H6, s6, g6, k6, _⟩ := g5.storeN (n := 6) (new := mat fw fh fv fx fy fs) hZl rfl (mat_one ofv)
  have gr6 : Gr H4 H6 := by
    obtain ⟨H5', s5', g5', k5'⟩ := (Hp.nil H4 g4.fr).make Z 6
    obtain rfl := s5.symm.trans s5'
    rw [ht5] at g5'
    obtain ⟨H6', s6', g6', k6', _⟩ := g5'.storeN (n := 6) (new := mat fw fh fv fx fy fs) hZl rfl (mat_one ofv)
    rw [s6] at s6'
    simp only [Option.some.injEq, Prod.mk.injEq, true_and] at s6'
    subst s6'
    rw [← ht5] at g6' k6'
    exact g6'.gr (k5'.trans k6')
  have gg6 := gg4.trans gr6
  have x0 : extractV 0 (.tup [.agg (mat fw fh fv fx fy fs), .bool bl]) = some (.agg (mat fw fh fv fx fy fs)) := rfl
  have x1 : extractV 1 (.tup [.agg (mat fw fh fv fx fy fs), .bool bl]) = some (.bool bl) := rfl
  have lq6 : ∀ {H'}, Gr H6 H' → loadV H' (some 6) (.ptr p 0) = some (.agg (mat a h b x y s)) ∧ loadV H' (some 6) (.ptr q 0) = some (.agg (mat wn hn v' xn yn s')) := fun {H'} g =>
    ⟨(g6.of_gr g).loadN (b := p) (k := 6) (cs := mat a h b x y s) (by simp) (n := 6) rfl, (g6.of_gr g).loadN (b := q) (k := 6) (cs := mat wn hn v' xn yn s') (by simp) (n := 6) rfl⟩
  obtain ⟨c6, d6⟩ := lq6 (Gr.refl g6.fr)
  have hgr : ∀ {u : AV} {n : List Ce} {H' H'' : AHeap}, Fr H' → IsS RowR H' u (docL wn hn n) → Gr H' H'' → IsS RowR H'' u (docL wn hn n) := fun {u n H' H''} hf h g => h.grow (fun x c hc => RowS.grow hc hf g) hf g
  have hwh : 224 * (wn * hn) ≤ 358400 := by omega
  have main : ∀ (H7 : AHeap) (t0 : List UInt8), t0.length ≤ 4 → Gr H6 H7 → ∀ (e : Env), Env.get e 3 = .ptr q 0 → Env.get e 5 = .ptr t5 0 → Env.get e 7 = .str t0 → ∀ K : PostC, (∀ e' H', Gr H H' → Env.get e' 4 = .str (allP wn hn m l' t0 xn yn s') → K .ret e' H') → ACode.wp Q A14_main K e H7 := by
    intro H7 t0 ht0 g7 e e3 e5 e7 K kn
    have g67 := g6.of_gr g7
    obtain ⟨H8, s8, g8, k8⟩ := (Hp.nil H7 g7.fr).make blankC.at 5
    obtain ⟨tb, htb⟩ : ∃ tb, H7.next = tb := ⟨_, rfl⟩
    have s8' : H7.alloc (.row ⟨[.int .u16 0, .int .u8 0, .int .u32 0, .int .u8 0, .int .u32 0], 0, false, true, 0⟩) = H8 := s8
    have gr8 := g8.gr k8
    have ldq : ∀ {H'}, Gr H7 H' → loadV H' Option.none (.ptr q 0) = some (.int .i64 wn) ∧ loadV H' Option.none (.ptr q 2) = some v' ∧ loadV H' Option.none (.ptr q 1) = some (.int .i64 hn) ∧ loadV H' Option.none (.ptr q 3) = some (.int .i64 xn) ∧ loadV H' Option.none (.ptr q 4) = some (.int .i64 yn) ∧ loadV H' Option.none (.ptr q 5) = some (.bool s') := fun {H'} g =>
      have g' := g67.of_gr g
      have hmm : (⟨q, 6, mat wn hn v' xn yn s'⟩ : Cel) ∈ [(⟨t5, 6, mat fw fh fv fx fy fs⟩ : Cel), ⟨q, 6, mat wn hn v' xn yn s'⟩, ⟨p, 6, mat a h b x y s⟩] := by simp
      ⟨g'.load hmm (o := 0) rfl, g'.load hmm (o := 2) rfl, g'.load hmm (o := 1) rfl, g'.load hmm (o := 3) rfl, g'.load hmm (o := 4) rfl, g'.load hmm (o := 5) rfl⟩
    have ld5 : ∀ {H'}, Gr H7 H' → loadV H' Option.none (.ptr t5 2) = some fv := fun {H'} g => (g67.of_gr g).load (b := t5) (k := 6) (cs := mat fw fh fv fx fy fs) (by simp) (o := 2) rfl
    have hv7 : IsS RowR H7 v' (docL wn hn l') := hgr hf hv' (gg6.trans g7)
    have hf7 : IsS RowR H7 fv (docL wn hn m) := hgr g4.fr hv4 (gr6.trans g7)
    rw [htb] at g8
    simp only [A14_main, e3, e5, e7, run_allocL, s8', htb, wantV_undef, SX, reduceCtorEq, Nat.reduceEqDiff, ↓reduceIte, Int.reduceEq, Int.reduceLT, Int.reduceLE, Nat.reduceAdd]
    obtain ⟨I, hI⟩ : ∃ I : Nat → Env → AHeap → Prop, ∀ k e H', I k e H' ↔ (Gr H7 H' ∧ ∃ i : Nat, k = hn - i ∧ i ≤ hn ∧ Hp H7.next H' [⟨tb, 5, (frameD wn m l' (t0, blankC) i).2.at⟩] ∧ Env.get e 3 = .ptr q 0 ∧ Env.get e 5 = .ptr t5 0 ∧ Env.get e 7 = .str (frameD wn m l' (t0, blankC) i).1 ∧ Env.get e 8 = .ptr tb 0 ∧ Env.get e 9 = .int .i64 i) := ⟨_, fun _ _ _ => Iff.rfl⟩
    refine loop_by I hn ?_ ?_
    · exact (hI _ _ _).2 ⟨gr8, 0, rfl, by omega, by rw [htb]; exact g8, (by simp only [SG, reduceCtorEq, Nat.reduceEqDiff, ↓reduceIte, e3] <;> rfl), (by simp only [SG, reduceCtorEq, Nat.reduceEqDiff, ↓reduceIte, e5] <;> rfl), (by simp only [SG, reduceCtorEq, Nat.reduceEqDiff, ↓reduceIte, e7] <;> rfl), (by first | (simp only [SG, reduceCtorEq, Nat.reduceEqDiff, ↓reduceIte] <;> rfl) | rfl), (by first | (simp only [SG, reduceCtorEq, Nat.reduceEqDiff, ↓reduceIte] <;> rfl) | rfl)⟩
    · clear e3 e5 e7
      intro k e' H9 hinv
      obtain ⟨g9, i, rfl, hile, h9, e3, e5, e7, e8, e9⟩ := (hI _ _ _).1 hinv
      obtain ⟨b0, b2, b1, b3, b4, b5⟩ := ldq g9
      have fl := frameD_len (lo := m) (s := (t0, blankC)) hp' hl' hw.2 hh.2 hile
      have wi : wn * i ≤ wn * hn := Nat.mul_le_mul_left _ hile
      simp only at fl
      by_cases d : (i : Int) < hn
      · have w1 : IntKind.wrap .i64 ((i : Int) + 1) = ((i + 1 : Nat) : Int) := wrapNat (n := i + 1) (by omega)
        simp only [e3, e5, e7, e8, e9, b1, d, wantV_undef, SX, reduceCtorEq, Nat.reduceEqDiff, ↓reduceIte, Int.reduceEq, Int.reduceLT, Int.reduceLE, Nat.reduceAdd]
        refine rowT_wp mq g7.fr g9 h9 hw.2 hl' hml hv7 hf7 hp' hi' (q := q) (p5 := t5) (fun {H'} g => ⟨(ldq g).1, (ldq g).2.1⟩) (fun {H'} g => ld5 g) (y := i) (by omega) (by omega) (t := (frameD wn m l' (t0, blankC) i).1) (by omega) (by simp only [SG, reduceCtorEq, Nat.reduceEqDiff, ↓reduceIte, e3] <;> rfl) (by simp only [SG, reduceCtorEq, Nat.reduceEqDiff, ↓reduceIte, e5] <;> rfl) (by simp only [SG, reduceCtorEq, Nat.reduceEqDiff, ↓reduceIte, e7] <;> rfl) (by simp only [SG, reduceCtorEq, Nat.reduceEqDiff, ↓reduceIte, e8] <;> rfl) (by simp only [SG, reduceCtorEq, Nat.reduceEqDiff, ↓reduceIte, e9] <;> rfl) (by first | (simp only [SG, reduceCtorEq, Nat.reduceEqDiff, ↓reduceIte] <;> rfl) | rfl) ?_
        intro e2 H10 q1 q2 q3 q5 q7 q8 q9
        simp only [q3, q5, q7, q8, q9, w1, SX, reduceCtorEq, Nat.reduceEqDiff, ↓reduceIte, Int.reduceEq, Int.reduceLT, Int.reduceLE, Nat.reduceAdd]
        exact ⟨hn - (i + 1), by omega, (hI _ _ _).2 ⟨q1, i + 1, rfl, by omega, q2, (by simp only [SG, reduceCtorEq, Nat.reduceEqDiff, ↓reduceIte, q3] <;> rfl), (by simp only [SG, reduceCtorEq, Nat.reduceEqDiff, ↓reduceIte, q5] <;> rfl), (by simp only [SG, reduceCtorEq, Nat.reduceEqDiff, ↓reduceIte, q7] <;> rfl), (by simp only [SG, reduceCtorEq, Nat.reduceEqDiff, ↓reduceIte, q8] <;> rfl), (by first | (simp only [SG, reduceCtorEq, Nat.reduceEqDiff, ↓reduceIte] <;> rfl) | rfl)⟩⟩
      · obtain rfl : i = hn := by omega
        simp only [e3, e5, e7, e8, e9, b1, d, wantV_undef, SX, reduceCtorEq, Nat.reduceEqDiff, ↓reduceIte, Int.reduceEq, Int.reduceLT, Int.reduceLE, Nat.reduceAdd]
        refine finR_wp mq g9 h9 (x := xn) (y := yn) (s := s') (by omega) (by omega) b3 b4 b5 (t := (frameD wn m l' (t0, blankC) i).1) (by omega) (by simp only [SG, reduceCtorEq, Nat.reduceEqDiff, ↓reduceIte, e3] <;> rfl) (by simp only [SG, reduceCtorEq, Nat.reduceEqDiff, ↓reduceIte, e7] <;> rfl) (by simp only [SG, reduceCtorEq, Nat.reduceEqDiff, ↓reduceIte, e8] <;> rfl) ?_
        intro e2 H10 q1 q4
        exact kn _ _ ((gg6.trans g7).trans q1) q4
  rcases hbl with ⟨rfl, cc⟩ | ⟨rfl, cc⟩
  · have cc' := cc
    obtain ⟨c1, rfl, rfl⟩ := cc
    obtain ⟨v, ov, er, hv⟩ := hg.rows (rightM_Good c1)
    rw [er] at hr
    simp only [mat, AV.agg.injEq, List.cons.injEq, AV.int.injEq, true_and, and_true] at hr
    obtain ⟨rfl, rfl⟩ := hr
    rw [Int.toNat_natCast, Int.toNat_natCast] at hv
    rw [baseL, if_pos cc'] at hm
    subst hm
    simp only [x0, x1, run_allocL, hZ, s5, ht5, s6, c6, d6, wantV_undef, SX, reduceCtorEq, Nat.reduceEqDiff, ↓reduceIte, Int.reduceEq, Int.reduceLT, Int.reduceLE, Nat.reduceAdd]
    refine (SameR_spec mq g6.fr hw hh hml hl' ov ov' (hgr hf hv gg6) (hgr hf hv' gg6)).mono ?_
    rintro _ H7 ⟨rfl, g7⟩
    cases hs : sameM wn hn x y s l wn hn xn yn s' l' with
    | true =>
      simp only [wantV_undef, SX, reduceCtorEq, Nat.reduceEqDiff, ↓reduceIte, Int.reduceEq, Int.reduceLT, Int.reduceLE, Nat.reduceAdd]
      exact ⟨by unfold tellP; rw [if_pos bad, if_pos cc', if_pos hs], gg6.trans g7⟩
    | false =>
      simp only [wantV_undef, SX, reduceCtorEq, Nat.reduceEqDiff, ↓reduceIte, Int.reduceEq, Int.reduceLT, Int.reduceLE, Nat.reduceAdd]
      refine main H7 [] (by simp) g7 _ (by first | (simp only [SG, reduceCtorEq, Nat.reduceEqDiff, ↓reduceIte] <;> rfl) | rfl) (by first | (simp only [SG, reduceCtorEq, Nat.reduceEqDiff, ↓reduceIte] <;> rfl) | rfl) (by first | (simp only [SG, reduceCtorEq, Nat.reduceEqDiff, ↓reduceIte] <;> rfl) | rfl) _ ?_
      intro e' H' q1 q4
      simp only [q4, SX, reduceCtorEq, Nat.reduceEqDiff, ↓reduceIte, Int.reduceEq, Int.reduceLT, Int.reduceLE, Nat.reduceAdd]
      exact ⟨by unfold tellP; rw [if_pos bad, if_pos cc', if_neg (by simp [hs])]; rfl, q1⟩
  · rw [baseL, if_neg cc] at hm
    subst hm
    simp only [x0, x1, run_allocL, hZ, s5, ht5, s6, wantV_undef, SX, reduceCtorEq, Nat.reduceEqDiff, ↓reduceIte, Int.reduceEq, Int.reduceLT, Int.reduceLE, Nat.reduceAdd]
    refine main H6 [27, 91, 50, 74] (by simp) (Gr.refl g6.fr) _ (by first | (simp only [SG, reduceCtorEq, Nat.reduceEqDiff, ↓reduceIte] <;> rfl) | rfl) (by first | (simp only [SG, reduceCtorEq, Nat.reduceEqDiff, ↓reduceIte] <;> rfl) | rfl) (by first | (simp only [SG, reduceCtorEq, Nat.reduceEqDiff, ↓reduceIte] <;> rfl) | rfl) _ ?_
    intro e' H' q1 q4
    simp only [q4, SX, reduceCtorEq, Nat.reduceEqDiff, ↓reduceIte, Int.reduceEq, Int.reduceLT, Int.reduceLE, Nat.reduceAdd]
    exact ⟨by unfold tellP; rw [if_pos bad, if_neg cc]; rfl, q1⟩
end
theorem mat_same {w h x y : Int} {s : Bool} {v : AV} (hv : AV.same1 v v = true) : AV.same (.agg (mat w h v x y s)) (.agg (mat w h v x y s)) = true := by
  have hi : ∀ k n, AV.same1 (.int k n) (.int k n) = true := fun k n => by simp [AV.same1]
  have hb : AV.same1 (.bool s) (.bool s) = true := by simp [AV.same1]
  simp only [AV.same, mat, AV.sameL, hi, hb, hv, Bool.and_self]
theorem isS_same {α : Type} {R : AHeap → α → AV → Prop} {H : AHeap} {v : AV} {l : List α} (h : IsS R H v l) : AV.same1 v v = true := by
  rcases h with ⟨rfl, _⟩ | ⟨b, o, cap, B, rfl, _⟩ <;> simp [AV.same1]
/-- a frame put into a new variable -/
theorem var6 {H : AHeap} (hf : Fr H) {cs : List AV} (hl : cs.length = 6) (ho : cs.all AV.one = true) : ∃ H1 H2, H.alloc (.row ⟨[.int .i64 0, .int .i64 0, .nils, .int .i64 0, .int .i64 0, .bool false], 0, false, true, 0⟩) = H1 ∧ storeE H1 6 (.ptr H.next 0) (.agg cs) = some (.undef, H2) ∧ Gr H H2 ∧ ∀ {H'}, Gr H2 H' → loadV H' (some 6) (.ptr H.next 0) = some (.agg cs) := by
  obtain ⟨H1, s1, g1, k1⟩ := (Hp.nil H hf).make [.int .i64 0, .int .i64 0, .nils, .int .i64 0, .int .i64 0, .bool false] 6
  obtain ⟨H2, s2, g2, k2, _⟩ := g1.storeN (n := 6) (new := cs) rfl hl ho
  exact ⟨H1, H2, s1, s2, g2.gr (k1.trans k2), fun {H'} g => (g2.of_gr g).loadN (List.mem_cons_self ..) (n := 6) hl⟩
section
variable {Q : Prog} (mq : PmQ Q) {H : AHeap}
include mq
theorem Given_spec (hf : Fr H) {w hh x y : Int} {s : Bool} {v : AV} {l : List Ce} (h : RowS H v l) : FnTo Q 6 [.agg (mat w hh v x y s)] H (fun r H' => (GF H' w hh x y s l r ∧ ∃ a b, r = .agg (mat a hh b x y s) ∧ b.one = true ∧ AV.same1 b b = true) ∧ Gr H H') := by
  by_cases hg : Good w hh l
  · obtain ⟨a, b, rfl, rfl, ha, hb, hl⟩ := hg.nat
    refine (given_spec mq.dq hf h ha hb hl).mono ?_
    rintro r H' ⟨g, v', rfl, o, hv⟩
    exact ⟨⟨⟨v', o, .inl ⟨hg, rfl, by rw [Int.toNat_natCast, Int.toNat_natCast]; exact hv⟩⟩, _, _, rfl, o, isS_same hv⟩, g⟩
  · refine (givenBad_spec mq hf h hg).mono ?_
    rintro r H' ⟨rfl, g⟩
    exact ⟨⟨⟨.nils, rfl, .inr ⟨hg, rfl⟩⟩, _, _, rfl, rfl, rfl⟩, g⟩
set_option maxHeartbeats 8000000 in
theorem sameLaw_spec (hf : Fr H) {w h x y : Int} {s : Bool} {v : AV} {l : List Ce} {w' h' x' y' : Int} {s' : Bool} {v' : AV} {l' : List Ce} (h1 : RowS H v l) (h2 : RowS H v' l') (hl : l.length ≤ 1000000) : FnTo Q 10 [.agg (mat w h v x y s), .agg (mat w' h' v' x' y' s')] H (fun r H' => r = .bool (sameM w h x y s l w' h' x' y' s' l') ∧ Gr H H') := by
  refine fn_wp (mq.ho 10 rfl _) mq.q10 (by simp [A10]) ?_
  obtain ⟨H1, s1, g1, k1⟩ := (Hp.nil H hf).make (mat w h v x y s) 6
  obtain ⟨H2, s2, g2, k2⟩ := g1.make (mat w' h' v' x' y' s') 6
  obtain ⟨p, hp⟩ : ∃ p, H.next = p := ⟨_, rfl⟩
  obtain ⟨q, hq⟩ : ∃ q, H1.next = q := ⟨_, rfl⟩
  have gg := g2.gr (k1.trans k2)
  rw [hp, hq] at g2
  have a0 := g2.load (b := p) (k := 6) (cs := mat w h v x y s) (by simp) (o := 0) rfl
  have a1 := g2.load (b := p) (k := 6) (cs := mat w h v x y s) (by simp) (o := 1) rfl
  have a2 := g2.load (b := p) (k := 6) (cs := mat w h v x y s) (by simp) (o := 2) rfl
  have a3 := g2.load (b := p) (k := 6) (cs := mat w h v x y s) (by simp) (o := 3) rfl
  have a4 := g2.load (b := p) (k := 6) (cs := mat w h v x y s) (by simp) (o := 4) rfl
  have a5 := g2.load (b := p) (k := 6) (cs := mat w h v x y s) (by simp) (o := 5) rfl
  have b0 := g2.load (b := q) (k := 6) (cs := mat w' h' v' x' y' s') (by simp) (o := 0) rfl
  have b1 := g2.load (b := q) (k := 6) (cs := mat w' h' v' x' y' s') (by simp) (o := 1) rfl
  have b2 := g2.load (b := q) (k := 6) (cs := mat w' h' v' x' y' s') (by simp) (o := 2) rfl
  have b3 := g2.load (b := q) (k := 6) (cs := mat w' h' v' x' y' s') (by simp) (o := 3) rfl
  have b4 := g2.load (b := q) (k := 6) (cs := mat w' h' v' x' y' s') (by simp) (o := 4) rfl
  have b5 := g2.load (b := q) (k := 6) (cs := mat w' h' v' x' y' s') (by simp) (o := 5) rfl
  have bq : beqV false (.bool s) (.bool s') = some (.bool (decide (s = s'))) := by cases s <;> cases s' <;> rfl
  unfold sameM
  simp only [A10, boxV_agg (mat_one h1.one), boxV_agg (mat_one h2.one), s1, s2, hp, hq, a0, b0, SX, reduceCtorEq, Nat.reduceEqDiff, ↓reduceIte, Int.reduceEq, Int.reduceLT, Int.reduceLE, Nat.reduceAdd]
  by_cases c1 : w = w'
  case neg => simp only [decide_eq_false c1, Bool.false_and, wantV_undef, SX, reduceCtorEq, Nat.reduceEqDiff, ↓reduceIte, Int.reduceEq, Int.reduceLT, Int.reduceLE, Nat.reduceAdd]; exact gg
  simp only [decide_eq_true c1, Bool.true_and, a1, b1, wantV_undef, SX, reduceCtorEq, Nat.reduceEqDiff, ↓reduceIte, Int.reduceEq, Int.reduceLT, Int.reduceLE, Nat.reduceAdd]
  by_cases c2 : h = h'
  case neg => simp only [decide_eq_false c2, Bool.false_and, wantV_undef, SX, reduceCtorEq, Nat.reduceEqDiff, ↓reduceIte, Int.reduceEq, Int.reduceLT, Int.reduceLE, Nat.reduceAdd]; exact gg
  simp only [decide_eq_true c2, Bool.true_and, a3, b3, wantV_undef, SX, reduceCtorEq, Nat.reduceEqDiff, ↓reduceIte, Int.reduceEq, Int.reduceLT, Int.reduceLE, Nat.reduceAdd]
  by_cases c3 : x = x'
  case neg => simp only [decide_eq_false c3, Bool.false_and, wantV_undef, SX, reduceCtorEq, Nat.reduceEqDiff, ↓reduceIte, Int.reduceEq, Int.reduceLT, Int.reduceLE, Nat.reduceAdd]; exact gg
  simp only [decide_eq_true c3, Bool.true_and, a4, b4, wantV_undef, SX, reduceCtorEq, Nat.reduceEqDiff, ↓reduceIte, Int.reduceEq, Int.reduceLT, Int.reduceLE, Nat.reduceAdd]
  by_cases c4 : y = y'
  case neg => simp only [decide_eq_false c4, Bool.false_and, wantV_undef, SX, reduceCtorEq, Nat.reduceEqDiff, ↓reduceIte, Int.reduceEq, Int.reduceLT, Int.reduceLE, Nat.reduceAdd]; exact gg
  simp only [decide_eq_true c4, Bool.true_and, a5, b5, run_beq, bq, wantV_undef, SX, reduceCtorEq, Nat.reduceEqDiff, ↓reduceIte, Int.reduceEq, Int.reduceLT, Int.reduceLE, Nat.reduceAdd]
  by_cases c5 : s = s'
  case neg => simp only [decide_eq_false c5, Bool.false_and, wantV_undef, SX, reduceCtorEq, Nat.reduceEqDiff, ↓reduceIte, Int.reduceEq, Int.reduceLT, Int.reduceLE, Nat.reduceAdd]; exact gg
  simp only [decide_eq_true c5, Bool.true_and, a2, b2, wantV_undef, SX, reduceCtorEq, Nat.reduceEqDiff, ↓reduceIte, Int.reduceEq, Int.reduceLT, Int.reduceLE, Nat.reduceAdd]
  refine (rowSame_spec mq (h1.grow hf gg) (h2.grow hf gg) hl).mono ?_
  rintro _ H3 ⟨rfl, hH3⟩
  rw [hH3]
  simp only [wantV_undef, SX, reduceCtorEq, Nat.reduceEqDiff, ↓reduceIte, Int.reduceEq, Int.reduceLT, Int.reduceLE, Nat.reduceAdd]
  exact gg
set_option maxHeartbeats 16000000 in
theorem law3 (q3 : Q.fns 3 = some A3) (q4 : Q.fns 4 = some A4) (yes : Q.orc 5 [] = some (.bool true)) (ht : hasTabs H TT = true) (hf : Fr H) {w h x y : Int} {s : Bool} {v : AV} {l : List Ce} {w' h' x' y' : Int} {s' : Bool} {v' : AV} {l' : List Ce} (h1 : RowS H v l) (h2 : RowS H v' l') (hi : InP l) (hi' : InP l') (hn : InF l) (hn' : InF l') :
    FnTo Q 3 [.agg (mat w h v x y s), .agg (mat w' h' v' x' y' s')] H (fun r _ => r = .bool true) := by
  have fq := mq.fq
  have nq := fq.bq.cq.nq
  refine fn_wp (mq.ho 3 rfl _) q3 (by simp [A3]) ?_
  obtain ⟨H1, s1, g1, k1⟩ := (Hp.nil H hf).make (mat w h v x y s) 6
  obtain ⟨H2, s2, g2, k2⟩ := g1.make (mat w' h' v' x' y' s') 6
  obtain ⟨p, hp⟩ : ∃ p, H.next = p := ⟨_, rfl⟩
  obtain ⟨q, hq⟩ : ∃ q, H1.next = q := ⟨_, rfl⟩
  have gg := g2.gr (k1.trans k2)
  rw [hp, hq] at g2
  have lp : ∀ {H'}, Gr H2 H' → loadV H' (some 6) (.ptr p 0) = some (.agg (mat w h v x y s)) := fun {H'} g => (g2.of_gr g).loadN (b := p) (k := 6) (by simp) (n := 6) rfl
  have lq : ∀ {H'}, Gr H2 H' → loadV H' (some 6) (.ptr q 0) = some (.agg (mat w' h' v' x' y' s')) := fun {H'} g => (g2.of_gr g).loadN (b := q) (k := 6) (by simp) (n := 6) rfl
  have tb : ∀ {H'}, Gr H2 H' → hasTabs H' TT = true := fun {H'} g => (gg.trans g).tabs hf ht
  have ra : ∀ {H'}, Gr H2 H' → RowS H' v l := fun {H'} g => h1.grow hf (gg.trans g)
  have rb : ∀ {H'}, Gr H2 H' → RowS H' v' l' := fun {H'} g => h2.grow hf (gg.trans g)
  have r0 := Gr.refl g2.fr
  have wakes : ∀ {H'} {K : AV → AHeap → Prop}, Gr H2 H' → K (.bool true) H' → FnTo Q 5 [] H' K := fun {H'} {K} g hk => fn_orc yes (by rw [fq.bq.tb]; exact tb g) hk
  simp only [A3, boxV_agg (mat_one h1.one), boxV_agg (mat_one h2.one), s1, s2, hp, hq, lp r0, SX, reduceCtorEq, Nat.reduceEqDiff, ↓reduceIte, Int.reduceEq, Int.reduceLT, Int.reduceLE, Nat.reduceAdd]
  refine (great_spec fq q4 g2.fr (ra r0)).mono ?_
  rintro _ H3 ⟨rfl, g3⟩
  by_cases c1 : (1600 : Int) < l.length
  · simp only [decide_eq_true c1, wantV_undef, SX, reduceCtorEq, Nat.reduceEqDiff, ↓reduceIte, Int.reduceEq, Int.reduceLT, Int.reduceLE, Nat.reduceAdd]
    refine wakes g3 ?_
    simp only [SX, reduceCtorEq, Nat.reduceEqDiff, ↓reduceIte, Int.reduceEq, Int.reduceLT, Int.reduceLE, Nat.reduceAdd]
  simp only [decide_eq_false c1, lq g3, wantV_undef, SX, reduceCtorEq, Nat.reduceEqDiff, ↓reduceIte, Int.reduceEq, Int.reduceLT, Int.reduceLE, Nat.reduceAdd]
  refine (great_spec fq q4 g3.fr (rb g3)).mono ?_
  rintro _ H4 ⟨rfl, gr4⟩
  have g4 := g3.trans gr4
  by_cases c2 : (1600 : Int) < l'.length
  · simp only [decide_eq_true c2, wantV_undef, SX, reduceCtorEq, Nat.reduceEqDiff, ↓reduceIte, Int.reduceEq, Int.reduceLT, Int.reduceLE, Nat.reduceAdd]
    refine wakes g4 ?_
    simp only [SX, reduceCtorEq, Nat.reduceEqDiff, ↓reduceIte, Int.reduceEq, Int.reduceLT, Int.reduceLE, Nat.reduceAdd]
  simp only [decide_eq_false c2, lp g4, wantV_undef, SX, reduceCtorEq, Nat.reduceEqDiff, ↓reduceIte, Int.reduceEq, Int.reduceLT, Int.reduceLE, Nat.reduceAdd]
  refine (Given_spec mq g4.fr (ra g4)).mono ?_
  rintro r H5 ⟨⟨gf5, a, b, hr, ob, sb⟩, gr5⟩
  have g5 := g4.trans gr5
  obtain ⟨H6, H7, s6, s7, gr7, l7⟩ := var6 g5.fr (cs := mat a h b x y s) rfl (mat_one ob)
  obtain ⟨u, hu⟩ : ∃ u, H5.next = u := ⟨_, rfl⟩
  rw [hu] at s7 l7
  have g7 := g5.trans gr7
  have sr := mat_same (w := a) (h := h) (x := x) (y := y) (s := s) sb
  rw [← hr] at s7 l7 sr
  simp only [run_allocL, s6, hu, s7, lq g7, wantV_undef, SX, reduceCtorEq, Nat.reduceEqDiff, ↓reduceIte, Int.reduceEq, Int.reduceLT, Int.reduceLE, Nat.reduceAdd]
  refine (Given_spec mq g7.fr (rb g7)).mono ?_
  rintro r' H8 ⟨⟨gf8, a', b', hr', ob', sb'⟩, gr8⟩
  have g8 := g7.trans gr8
  obtain ⟨H9, H10, s9, s10, gr10, l10⟩ := var6 g8.fr (cs := mat a' h' b' x' y' s') rfl (mat_one ob')
  obtain ⟨z, hz⟩ : ∃ z, H8.next = z := ⟨_, rfl⟩
  rw [hz] at s10 l10
  have sr' := mat_same (w := a') (h := h') (x := x') (y := y') (s := s') sb'
  rw [← hr'] at s10 l10 sr'
  have g10 := g8.trans gr10
  have sa := mat_same (w := w) (h := h) (x := x) (y := y) (s := s) h1.same
  have sc := mat_same (w := w') (h := h') (x := x') (y := y') (s := s') h2.same
  have l7' : ∀ {H'}, Gr H10 H' → loadV H' (some 6) (.ptr u 0) = some r := fun {H'} g => l7 ((gr8.trans gr10).trans g)
  have e10 := Gr.refl g10.fr
  have gfa : ∀ {H'}, Gr H10 H' → GF H' w h x y s l r := fun {H'} g => gf5.grow g5.fr (((gr7.trans gr8).trans gr10).trans g)
  have gfb : ∀ {H'}, Gr H10 H' → GF H' w' h' x' y' s' l' r' := fun {H'} g => gf8.grow g8.fr (gr10.trans g)
  have bqb : ∀ t : Bool, beqV true (.bool t) (.bool t) = some (.bool false) := fun t => by cases t <;> rfl
  have bqf : ∀ t : Bool, beqV false (.bool t) (.bool t) = some (.bool true) := fun t => by cases t <;> rfl
  simp only [run_allocL, s9, hz, s10, lp g10, l7' e10, wantV_undef, SX, reduceCtorEq, Nat.reduceEqDiff, ↓reduceIte, Int.reduceEq, Int.reduceLT, Int.reduceLE, Nat.reduceAdd]
  refine (Right_spec nq.pq (tb g10) g10.fr (ra g10)).mono ?_
  rintro _ H11 ⟨rfl, g11⟩
  refine ⟨by simp only [echoOk, l7' g11, sr, Bool.and_self, SX, reduceCtorEq, Nat.reduceEqDiff, ↓reduceIte, Int.reduceEq, Int.reduceLT, Int.reduceLE, Nat.reduceAdd], ?_⟩
  simp only [wantV_undef, SX, reduceCtorEq, Nat.reduceEqDiff, ↓reduceIte, Int.reduceEq, Int.reduceLT, Int.reduceLE, Nat.reduceAdd]
  refine (RightR_spec mq g11.fr (gfa g11) hn).mono ?_
  rintro _ H12 ⟨rfl, gr12⟩
  have g12 := g11.trans gr12
  have k12 := g10.trans g12
  simp only [run_beq, bqb, lq k12, l10 g12, wantV_undef, SX, reduceCtorEq, Nat.reduceEqDiff, ↓reduceIte, Int.reduceEq, Int.reduceLT, Int.reduceLE, Nat.reduceAdd]
  refine (Right_spec nq.pq (tb k12) k12.fr (rb k12)).mono ?_
  rintro _ H13 ⟨rfl, gr13⟩
  have g13 := g12.trans gr13
  refine ⟨by simp only [echoOk, l10 g13, sr', Bool.and_self, SX, reduceCtorEq, Nat.reduceEqDiff, ↓reduceIte, Int.reduceEq, Int.reduceLT, Int.reduceLE, Nat.reduceAdd], ?_⟩
  simp only [wantV_undef, SX, reduceCtorEq, Nat.reduceEqDiff, ↓reduceIte, Int.reduceEq, Int.reduceLT, Int.reduceLE, Nat.reduceAdd]
  refine (RightR_spec mq g13.fr (gfb g13) hn').mono ?_
  rintro _ H14 ⟨rfl, gr14⟩
  have g14 := g13.trans gr14
  have k14 := g10.trans g14
  simp only [run_beq, bqb, lp k14, lq k14, wantV_undef, SX, reduceCtorEq, Nat.reduceEqDiff, ↓reduceIte, Int.reduceEq, Int.reduceLT, Int.reduceLE, Nat.reduceAdd]
  refine (Same_spec nq k14.fr (ra k14) (rb k14) (by omega)).mono ?_
  rintro _ H15 ⟨rfl, gr15⟩
  have g15 := g14.trans gr15
  have k15 := g10.trans g15
  refine ⟨by simp only [echoOk, lp k15, lq k15, sa, sc, Bool.and_self, SX, reduceCtorEq, Nat.reduceEqDiff, ↓reduceIte, Int.reduceEq, Int.reduceLT, Int.reduceLE, Nat.reduceAdd], ?_⟩
  simp only [wantV_undef, SX, reduceCtorEq, Nat.reduceEqDiff, ↓reduceIte, Int.reduceEq, Int.reduceLT, Int.reduceLE, Nat.reduceAdd]
  refine (sameLaw_spec mq k15.fr (ra k15) (rb k15) (by omega)).mono ?_
  rintro _ H16 ⟨rfl, gr16⟩
  have g16 := g15.trans gr16
  have k16 := g10.trans g16
  simp only [run_beq, bqf, lp k16, lq k16, l7' g16, l10 g16, wantV_undef, SX, reduceCtorEq, Nat.reduceEqDiff, ↓reduceIte, Int.reduceEq, Int.reduceLT, Int.reduceLE, Nat.reduceAdd]
  refine (Unlike_spec nq (tb k16) k16.fr (ra k16) (rb k16) (by omega)).mono ?_
  rintro _ H17 ⟨rfl, gr17⟩
  have g17 := g16.trans gr17
  have k17 := g10.trans g17
  refine ⟨by simp only [echoOk, l7' g17, l10 g17, sr, sr', Bool.and_self, SX, reduceCtorEq, Nat.reduceEqDiff, ↓reduceIte, Int.reduceEq, Int.reduceLT, Int.reduceLE, Nat.reduceAdd], ?_⟩
  simp only [wantV_undef, SX, reduceCtorEq, Nat.reduceEqDiff, ↓reduceIte, Int.reduceEq, Int.reduceLT, Int.reduceLE, Nat.reduceAdd]
  refine (UnlikeR_spec mq k17.fr (gfa g17) hn (gfb g17) hn').mono ?_
  rintro _ H18 ⟨rfl, gr18⟩
  have g18 := g17.trans gr18
  have k18 := g10.trans g18
  simp only [lp k18, lq k18, l7' g18, l10 g18, wantV_undef, SX, reduceCtorEq, Nat.reduceEqDiff, ↓reduceIte, Int.reduceEq, Int.reduceLT, Int.reduceLE, Nat.reduceAdd]
  refine (tell_spec fq (tb k18) k18.fr (ra k18) (rb k18) (by omega) (by omega) hi').mono ?_
  rintro _ H19 ⟨rfl, gr19⟩
  have g19 := g18.trans gr19
  have k19 := g10.trans g19
  refine ⟨by simp only [echoOk, l7' g19, l10 g19, sr, sr', Bool.and_self, SX, reduceCtorEq, Nat.reduceEqDiff, ↓reduceIte, Int.reduceEq, Int.reduceLT, Int.reduceLE, Nat.reduceAdd], ?_⟩
  simp only [wantV_undef, SX, reduceCtorEq, Nat.reduceEqDiff, ↓reduceIte, Int.reduceEq, Int.reduceLT, Int.reduceLE, Nat.reduceAdd]
  refine (TellR_spec mq k19.fr (gfa g19) hn (gfb g19) hn' hi' (by omega)).mono ?_
  rintro _ H20 ⟨rfl, gr20⟩
  have g20 := g19.trans gr20
  have k20 := g10.trans g20
  obtain ⟨T, hT⟩ : ∃ T, tellP w h x y s l w' h' x' y' s' l' = T := ⟨_, rfl⟩
  have et : binV .eql (.str T) (.str T) = some (.bool true) := by simp [binV, strBin]
  rw [hT]
  simp only [et, lp k20, wantV_undef, SX, reduceCtorEq, Nat.reduceEqDiff, ↓reduceIte, Int.reduceEq, Int.reduceLT, Int.reduceLE, Nat.reduceAdd]
  refine (Same_spec nq k20.fr (ra k20) (ra k20) (by omega)).mono ?_
  rintro _ H21 ⟨rfl, gr21⟩
  have k21 := k20.trans gr21
  have ss : sameM w h x y s l w h x y s l = true := by simp [sameM]
  rw [ss]
  simp only [wantV_undef, SX, reduceCtorEq, Nat.reduceEqDiff, ↓reduceIte, Int.reduceEq, Int.reduceLT, Int.reduceLE, Nat.reduceAdd]
  refine wakes k21 ?_
  simp only [wantV_undef, SX, reduceCtorEq, Nat.reduceEqDiff, ↓reduceIte, Int.reduceEq, Int.reduceLT, Int.reduceLE, Nat.reduceAdd]
end
end Go.Proofs.YtfcnjfbnffijhaaDoor.AM
