/-
  What a terminal is told; the arguments; the document: widths, rows, frames.
-/
import Derived.Test.YtfcnjfbnffijhaaDoorPtX2
import Derived.Test.YtfcnjfbnffijhaaDoorAmArgs2
import Derived.Test.YtfcnjfbnffijhaaDoorPtX1
set_option linter.unusedVariables false
set_option linter.unusedSimpArgs false
namespace Go.Proofs.YtfcnjfbnffijhaaDoor.AM
open Go
def zz7 : List AV := [.int .i32 0, .int .u8 0, .int .u16 0, .int .u8 0, .int .u32 0, .int .u8 0, .int .u32 0]
theorem store7 {H : AHeap} {u : Nat} (h : H.get u = some (.row ⟨zz7, 0, false, true, 0⟩)) (c : Ce) : storeE H 7 (.ptr u 0) (.agg c.cs) = some (.undef, H.set u (.row ⟨c.cs, 0, false, true, 0⟩)) := by
  have hr := row_get h rfl
  simp only [storeE, EOp.run, Opd.ev, AV.cells, storeA, hr]
  rfl
theorem TelAt.attr {bt ct base b : Nat} {H : AHeap} {t : List UInt8} {a : List AV} (h : TelAt bt ct base H b t a) (ha : a.length = 5) : loadV H (some 5) (.ptr b 2) = some (.agg a) := by
  obtain ⟨p, v, h1, _⟩ := h.row
  have := part_load (H := H) (b := b) (p := 2) (a := [p, v]) (x := a) (c := []) h1 rfl (by simp) rfl
  rw [ha] at this
  exact this
theorem TelAt.setA {bt ct base b : Nat} {H : AHeap} {t : List UInt8} {a a' : List AV} (h : TelAt bt ct base H b t a) (ha : a.length = 5) (ha' : a'.length = 5) (ho : a'.all AV.one = true) :
    ∃ H', storeE H 5 (.ptr b 2) (.agg a') = some (.undef, H') ∧ TelAt bt ct base H' b t a' ∧ Keep base H H' ∧ Nx ct b H H' := by
  obtain ⟨p, v, h1, h2, h3⟩ := h.row
  have hr := row_get h1 rfl
  have hlo := h.lo
  have hlt := h.lt
  refine ⟨H.set b (.row ⟨p :: v :: a', 0, false, true, bt⟩), ?_, ⟨h.lo, h.lt, fun c hc => ?_, h.ct0, h.bt0, ho, p, v, by rw [AHeap.get_set, if_pos rfl], h2, ?_⟩, fun c hc => by rw [AHeap.get_set, if_neg (by omega)], Nx.set _⟩
  · match a, ha, a', ha' with
    | [a0, a1, a2, a3, a4], _, [b0, b1, b2, b3, b4], _ =>
      simp only [storeE, EOp.run, Opd.ev, AV.cells, storeA, hr, ho, List.length_cons, List.length_nil, Nat.zero_add, Nat.reduceAdd, if_true]
      rfl
  · rw [AHeap.next_set] at hc
    rw [AHeap.get_set, if_neg (by omega)]; exact h.fr c hc
  · rcases h3 with h3 | ⟨hne, g, e, g1, g2, g3, g4⟩
    · exact .inl h3
    · exact .inr ⟨hne, g, e, g1, g2, g3, by rw [AHeap.get_set, if_neg g2]; exact g4⟩
/-- the sequence to a place -/
def toP (x y : Nat) : List UInt8 := [27, 91] ++ D (y + 1) ++ [59] ++ D (x + 1) ++ [72]
theorem toP_len {x y : Nat} (hx : x < 400) (hy : y < 400) : (toP x y).length ≤ 20 := by
  have d1 := D_len (n := y + 1) (by omega)
  have d2 := D_len (n := x + 1) (by omega)
  simp [toP]; omega
/-- a cell is told; the last one that was stands for the terminal's attribute -/
def cellT (s : List UInt8 × Ce) (c : Ce) : List UInt8 × Ce := if c.w = 2 then s else (s.1 ++ betC s.2 c ++ encP c.r, c)
def cellsT (s : List UInt8 × Ce) (l : List Ce) : List UInt8 × Ce := l.foldl cellT s
/-- a row's cell, as the document tells it -/
def stepD (y : Nat) (s : Bool × (List UInt8 × Ce)) (x : Nat) (o c : Ce) : Bool × (List UInt8 × Ce) :=
  if c = o then (false, s.2) else (true, cellT (if s.1 = true then s.2 else (s.2.1 ++ toP x y, s.2.2)) c)
def rowD (y : Nat) (lo ln : List Ce) (s : List UInt8 × Ce) : Nat → Bool × (List UInt8 × Ce)
  | 0 => (false, s)
  | i + 1 => stepD y (rowD y lo ln s i) i (lo.getD i blankC) (ln.getD i blankC)
theorem betC_len {c d : Ce} (h1 : 0 ≤ d.n1) (h2 : 0 ≤ d.n2) : (betC c d).length ≤ 200 := by
  unfold betC
  split
  · simp
  · rename_i h
    cases hr : attrP d with
    | false => exact absurd (.inr hr) h
    | true =>
      simp only [attrP, Bool.and_eq_true, decide_eq_true_eq] at hr
      have q1 := saysP_len (c := 38) (.inl rfl) h1 hr.1.2
      have q2 := saysP_len (c := 48) (.inr rfl) h2 hr.2
      have q3 := sA_len d.f 8
      simp; omega
theorem take_one {l : List Ce} {i : Nat} {c : Ce} (h : l[i]? = some c) : l.take (i + 1) = l.take i ++ [c] := by
  rw [List.take_add_one, h]; rfl
theorem cellsT_one {s : List UInt8 × Ce} {l : List Ce} {i : Nat} {c : Ce} (h : l[i]? = some c) : cellsT s (l.take (i + 1)) = cellT (cellsT s (l.take i)) c := by
  unfold cellsT
  rw [take_one h, List.foldl_append]; rfl
theorem getD_of {l : List Ce} {i : Nat} {c : Ce} (h : l[i]? = some c) : l.getD i blankC = c := by rw [List.getD_eq_getElem?_getD, h]; rfl
/-- a run -/
theorem rowD_run {y : Nat} {lo ln : List Ce} {s : List UInt8 × Ce} {i : Nat} (h0 : (rowD y lo ln s i).1 = false) : ∀ {j : Nat}, i < j → j ≤ ln.length → (∀ k, i ≤ k → k < j → ln.getD k blankC ≠ lo.getD k blankC) →
    rowD y lo ln s j = (true, cellsT ((rowD y lo ln s i).2.1 ++ toP i y, (rowD y lo ln s i).2.2) ((ln.take j).drop i)) := by
  intro j
  induction j with
  | zero => intro h; omega
  | succ j ih =>
    intro h1 h2 h3
    obtain ⟨c, hc⟩ : ∃ c, ln[j]? = some c := ⟨_, List.getElem?_eq_getElem (by omega)⟩
    have e : (ln.take (j + 1)).drop i = (ln.take j).drop i ++ [c] := by
      rw [take_one hc, List.drop_append_of_le_length (by simp; omega)]
    have ne := h3 j (by omega) (by omega)
    by_cases hij : i = j
    · subst hij
      rw [rowD, stepD, if_neg ne, h0, if_neg (by simp), e, getD_of hc]
      have : (ln.take i).drop i = [] := by simp
      rw [this]; rfl
    · rw [rowD, ih (by omega) (by omega) (fun k a b => h3 k a (by omega)), stepD, if_neg ne, if_pos rfl, e, getD_of hc]
      unfold cellsT
      rw [List.foldl_append]; rfl
def ValP (l : List Ce) : Prop := ∀ c ∈ l, c.w ≠ 2 → validP c.r = true
def InP (l : List Ce) : Prop := ∀ c ∈ l, 0 ≤ c.n1 ∧ 0 ≤ c.n2
structure PfQ (Q : Prog) : Prop where
  bq : PeQ Q
  q13 : Q.fns 13 = some A13
  q29 : Q.fns 29 = some A29
  q30 : Q.fns 30 = some A30
  q43 : Q.fns 43 = some A43
section
variable {Q : Prog} (fq : PfQ Q) {H : AHeap}
include fq
set_option maxHeartbeats 4000000 in
theorem to_spec {x y : Nat} (hx : x < 400) (hy : y < 400) (ht : hasTabs H TT = true) : FnTo Q 30 [.int .i64 x, .int .i64 y] H (fun r H' => r = .str (toP x y) ∧ H' = H) := by
  refine fn_wp (fq.bq.cq.nq.pq.ho 30 rfl _) fq.q30 (by simp [A30]) ?_
  have w1 : IntKind.wrap .i64 ((y : Int) + 1) = ((y + 1 : Nat) : Int) := wrapNat (n := y + 1) (by omega)
  have w2 : IntKind.wrap .i64 ((x : Int) + 1) = ((x + 1 : Nat) : Int) := wrapNat (n := x + 1) (by omega)
  have d1 := D_len (n := y + 1) (by omega)
  have d2 := D_len (n := x + 1) (by omega)
  simp only [A30, w1, SX, reduceCtorEq, Nat.reduceEqDiff, ↓reduceIte, Int.reduceEq, Int.reduceLT, Int.reduceLE, Nat.reduceAdd]
  refine (itoa_spec fq.bq (n := y + 1) (by omega) ht).mono ?_
  rintro _ H1 ⟨rfl, hH⟩
  rw [hH]
  have a1 := bin_adds [27, 91] (D (y + 1)) (by simp; omega)
  have a2 := bin_adds ([27, 91] ++ D (y + 1)) [59] (by simp; omega)
  simp only [a1, a2, w2, SX, reduceCtorEq, Nat.reduceEqDiff, ↓reduceIte, Int.reduceEq, Int.reduceLT, Int.reduceLE, Nat.reduceAdd]
  refine (itoa_spec fq.bq (n := x + 1) (by omega) ht).mono ?_
  rintro _ H2 ⟨rfl, hH2⟩
  rw [hH2]
  have a3 := bin_adds ([27, 91] ++ D (y + 1) ++ [59]) (D (x + 1)) (by simp; omega)
  have a4 := bin_adds ([27, 91] ++ D (y + 1) ++ [59] ++ D (x + 1)) [72] (by simp; omega)
  simp only [a3, a4, SX, reduceCtorEq, Nat.reduceEqDiff, ↓reduceIte, Int.reduceEq, Int.reduceLT, Int.reduceLE, Nat.reduceAdd]
  rfl
set_option maxHeartbeats 16000000 in
theorem run_spec {H0 : AHeap} (hf0 : Fr H0) (ht0 : hasTabs H0 TT = true) (g : Gr H0 H) {v : AV} {l : List Ce} (h : RowS H0 v l) (hl : l.length ≤ 400) (hi : InP l) (hv : ValP l) {x y e : Nat} (hx : x ≤ e) (he : e ≤ l.length) (x4 : x < 400) (hy : y < 400) {b : Nat} {t : List UInt8} {c0 : Ce} (hp : TelAt 64 5 H0.next H b t c0.at) (hb : t.length ≤ 900000) :
    FnTo Q 43 [.ptr b 0, v, .int .i64 x, .int .i64 y, .int .i64 e] H (fun _ H' => (∃ t' c', (t', c') = cellsT (t ++ toP x y, c0) ((l.take e).drop x) ∧ t'.length ≤ t.length + 20 + 204 * (e - x) ∧ TelAt 64 5 H0.next H' b t' (Ce.at c')) ∧ Gr H0 H') := by
  refine fn_wp (fq.bq.cq.nq.pq.ho 43 rfl _) fq.q43 (by simp [A43]) ?_
  simp only [A43, SX, reduceCtorEq, Nat.reduceEqDiff, ↓reduceIte, Int.reduceEq, Int.reduceLT, Int.reduceLE, Nat.reduceAdd]
  refine (to_spec fq x4 hy (g.tabs hf0 ht0)).mono ?_
  rintro _ H1 ⟨rfl, hH⟩
  rw [hH]
  have hs := toP_len x4 hy
  obtain ⟨s, hsP⟩ : ∃ s, toP x y = s := ⟨_, rfl⟩
  rw [hsP] at hs ⊢
  simp only [SX, reduceCtorEq, Nat.reduceEqDiff, ↓reduceIte, Int.reduceEq, Int.reduceLT, Int.reduceLE, Nat.reduceAdd]
  refine (ws_spec fq.bq.cq hp rfl s (by omega)).mono ?_
  rintro _ H2 ⟨hp2, k2, n2⟩
  have g2 : Gr H0 H2 := ⟨g.keep.trans k2, Nat.le_trans g.next n2.le, hp2.fr⟩
  obtain ⟨sl, _⟩ := (h.grow hf0 g2).slice (m := x) (n := e) hx he
  have rs := (h.slice (m := x) (n := e) hx he).2
  obtain ⟨sv, hsv⟩ : ∃ sv, slcOf v x e = sv := ⟨_, rfl⟩
  rw [hsv] at sl rs
  have ln := rs.len H2
  have hn : ((l.take e).drop x).length = e - x := by simp; omega
  rw [hn] at ln
  have hin : InP ((l.take e).drop x) := fun c hc => hi c (List.mem_of_mem_take (List.mem_of_mem_drop hc))
  have hvl : ValP ((l.take e).drop x) := fun c hc => hv c (List.mem_of_mem_take (List.mem_of_mem_drop hc))
  obtain ⟨L, hL⟩ : ∃ L, (l.take e).drop x = L := ⟨_, rfl⟩
  rw [hL] at rs hn hin hvl ⊢
  obtain ⟨n, hn'⟩ : ∃ n, e - x = n := ⟨_, rfl⟩
  rw [hn'] at ln hn
  have hn4 : n ≤ 400 := by omega
  simp only [sl, ln, SX, reduceCtorEq, Nat.reduceEqDiff, ↓reduceIte, Int.reduceEq, Int.reduceLT, Int.reduceLE, Nat.reduceAdd]
  obtain ⟨I, hI⟩ : ∃ I : Nat → Env → AHeap → Prop, ∀ m e' H', I m e' H' ↔ (Gr H0 H' ∧ ∃ (i : Nat) (t' : List UInt8) (c' : Ce), m = n - i ∧ i ≤ n ∧ (t', c') = cellsT (t ++ s, c0) (L.take i) ∧ t'.length ≤ t.length + 20 + 204 * i ∧ TelAt 64 5 H0.next H' b t' c'.at ∧ Env.get e' 0 = .ptr b 0 ∧ Env.get e' 22 = sv ∧ Env.get e' 23 = .int .i64 n ∧ Env.get e' 24 = .int .i64 i) := ⟨_, fun _ _ _ => Iff.rfl⟩
  refine loop_by I n ?_ ?_
  · exact (hI _ _ _).2 ⟨g2, 0, t ++ s, c0, rfl, by omega, rfl, by simp; omega, hp2, (by first | (simp only [SG, reduceCtorEq, Nat.reduceEqDiff, ↓reduceIte] <;> rfl) | rfl), (by first | (simp only [SG, reduceCtorEq, Nat.reduceEqDiff, ↓reduceIte] <;> rfl) | rfl), (by first | (simp only [SG, reduceCtorEq, Nat.reduceEqDiff, ↓reduceIte] <;> rfl) | rfl), (by first | (simp only [SG, reduceCtorEq, Nat.reduceEqDiff, ↓reduceIte] <;> rfl) | rfl)⟩
  · intro m e' H3 hinv
    obtain ⟨g3, i, t', c', rfl, hi', hce, ht', hp3, e0, e22, e23, e24⟩ := (hI _ _ _).1 hinv
    by_cases d : (i : Int) < n
    · obtain ⟨c, hc⟩ : ∃ c, L[i]? = some c := ⟨_, List.getElem?_eq_getElem (by omega)⟩
      obtain ⟨bb, pp, ix, l7, _⟩ := (rs.grow hf0 g3).cell hc .i64
      obtain ⟨cn1, cn2⟩ := hin c (List.mem_of_getElem? hc)
      have w1 : IntKind.wrap .i64 ((i : Int) + 1) = ((i + 1 : Nat) : Int) := wrapNat (n := i + 1) (by omega)
      obtain ⟨u, hu⟩ : ∃ u, H3.next = u := ⟨_, rfl⟩
      obtain ⟨H4, s4⟩ : ∃ H4, H3.alloc (.row ⟨zz7, 0, false, true, 0⟩) = H4 := ⟨_, rfl⟩
      have s4' : H3.alloc (.row ⟨[.int .i32 0, .int .u8 0, .int .u16 0, .int .u8 0, .int .u32 0, .int .u8 0, .int .u32 0], 0, false, true, 0⟩) = H4 := s4
      have q4 : H4.get u = some (.row ⟨zz7, 0, false, true, 0⟩) := by rw [← s4, AHeap.get_alloc, if_pos hu.symm]
      have n4 : H4.next = u + 1 := by rw [← s4, ← hu]; rfl
      have s5 := store7 q4 c
      obtain ⟨H5, h5⟩ : ∃ H5, H4.set u (.row ⟨c.cs, 0, false, true, 0⟩) = H5 := ⟨_, rfl⟩
      rw [h5] at s5
      have q5 : H5.get u = some (.row ⟨c.cs, 0, false, true, 0⟩) := by rw [← h5, AHeap.get_set, if_pos rfl]
      have gr5 : Gr H3 H5 := ⟨fun k hk => by rw [← h5, AHeap.get_set, if_neg (by omega), ← s4, AHeap.get_alloc, if_neg (by omega)], by rw [← h5, AHeap.next_set, n4]; omega, fun k hk => by
        rw [← h5, AHeap.next_set, n4] at hk
        rw [← h5, AHeap.get_set, if_neg (by omega), ← s4, AHeap.get_alloc, if_neg (by omega)]; exact hp3.fr k (by omega)⟩
      have hp5 := hp3.gr gr5
      have g5 := g3.trans gr5
      have ub : u ≠ b := by have := hp3.lt; omega
      have lw := load_raw (o := 1) q5 rfl (v := .int .u8 c.w) rfl
      by_cases z : c.w = 2
      · have dz := decide_eq_true z
        simp only [e0, e22, e23, e24, d, ix, l7, run_allocL, s4', hu, s5, lw, dz, w1, SX, reduceCtorEq, Nat.reduceEqDiff, ↓reduceIte, Int.reduceEq, Int.reduceLT, Int.reduceLE, Nat.reduceAdd]
        exact ⟨n - (i + 1), by omega, (hI _ _ _).2 ⟨g5, i + 1, t', c', rfl, by omega, by rw [cellsT_one hc, ← hce, cellT, if_pos z], by omega, hp5, (by simp only [SG, reduceCtorEq, Nat.reduceEqDiff, ↓reduceIte, e0] <;> rfl), (by simp only [SG, reduceCtorEq, Nat.reduceEqDiff, ↓reduceIte, e22] <;> rfl), (by simp only [SG, reduceCtorEq, Nat.reduceEqDiff, ↓reduceIte, e23] <;> rfl), (by first | (simp only [SG, reduceCtorEq, Nat.reduceEqDiff, ↓reduceIte] <;> rfl) | rfl)⟩⟩
      · have dz := decide_eq_false z
        have la := hp5.attr rfl
        have ld : ∀ {K : AHeap}, K.get u = some (.row ⟨c.cs, 0, false, true, 0⟩) → loadV K (some 5) (.ptr u 2) = some (.agg c.at) := fun {K} hk => part_load (a := [.int .i32 c.r, .int .u8 c.w]) (x := c.at) (c := []) hk rfl rfl rfl
        have ld5 := ld q5
        simp only [e0, e22, e23, e24, d, ix, l7, run_allocL, s4', hu, s5, lw, dz, la, ld5, SX, reduceCtorEq, Nat.reduceEqDiff, ↓reduceIte, Int.reduceEq, Int.reduceLT, Int.reduceLE, Nat.reduceAdd]
        refine (between_spec fq.bq (c := c') (d := c) cn1 cn2 g5.fr (g5.tabs hf0 ht0)).mono ?_
        rintro _ H6 ⟨rfl, gr6⟩
        have hs6 := betC_len (c := c') cn1 cn2
        obtain ⟨s6, hs6e⟩ : ∃ s6, betC c' c = s6 := ⟨_, rfl⟩
        rw [hs6e] at hs6 ⊢
        have hp6 := hp5.gr gr6
        have q6 := gr6.get g5.fr q5
        simp only [e0, e22, e23, e24, SX, reduceCtorEq, Nat.reduceEqDiff, ↓reduceIte, Int.reduceEq, Int.reduceLT, Int.reduceLE, Nat.reduceAdd]
        refine (ws_spec fq.bq.cq hp6 rfl s6 (by omega)).mono ?_
        rintro _ H7 ⟨hp7, k7, n7⟩
        have q16 := n7.kt u _ ub q6 (show (0 : Nat) ≠ 5 by decide)
        have ld7 := ld q16
        obtain ⟨H8, s8, hp8, k8, n8⟩ := hp7.setA rfl (a' := c.at) rfl rfl
        have q32 := n8.kt u _ ub q16 (show (0 : Nat) ≠ 5 by decide)
        have lr := load_raw (o := 0) q32 rfl (v := .int .i32 c.r) rfl
        simp only [e0, e22, e23, e24, ld7, s8, lr, SX, reduceCtorEq, Nat.reduceEqDiff, ↓reduceIte, Int.reduceEq, Int.reduceLT, Int.reduceLE, Nat.reduceAdd]
        refine (wr_spec fq.bq.cq hp8 rfl (by simp; omega) (hvl c (List.mem_of_getElem? hc) z)).mono ?_
        rintro _ H9 ⟨hp9, k9, n9⟩
        have h9 := enc_len c.r
        have g6 := g5.trans gr6
        have g9 : Gr H0 H9 := ⟨((g6.keep.trans k7).trans k8).trans k9, Nat.le_trans g6.next (Nat.le_trans n7.le (Nat.le_trans n8.le n9.le)), hp9.fr⟩
        simp only [e0, e22, e23, e24, w1, SX, reduceCtorEq, Nat.reduceEqDiff, ↓reduceIte, Int.reduceEq, Int.reduceLT, Int.reduceLE, Nat.reduceAdd]
        exact ⟨n - (i + 1), by omega, (hI _ _ _).2 ⟨g9, i + 1, t' ++ s6 ++ encP c.r, c, rfl, by omega, by rw [cellsT_one hc, ← hce, cellT, if_neg z, hs6e], by simp; omega, hp9, (by simp only [SG, reduceCtorEq, Nat.reduceEqDiff, ↓reduceIte, e0] <;> rfl), (by simp only [SG, reduceCtorEq, Nat.reduceEqDiff, ↓reduceIte, e22] <;> rfl), (by simp only [SG, reduceCtorEq, Nat.reduceEqDiff, ↓reduceIte, e23] <;> rfl), (by first | (simp only [SG, reduceCtorEq, Nat.reduceEqDiff, ↓reduceIte] <;> rfl) | rfl)⟩⟩
    · obtain rfl : i = n := by omega
      simp only [e0, e22, e23, e24, d, resNil, SX, reduceCtorEq, Nat.reduceEqDiff, ↓reduceIte, Int.reduceEq, Int.reduceLT, Int.reduceLE, Nat.reduceAdd]
      rw [List.take_of_length_le (by omega)] at hce
      exact ⟨⟨t', c', hce, by omega, hp3⟩, g3⟩
set_option maxHeartbeats 16000000 in
theorem row_spec {H0 : AHeap} (hf0 : Fr H0) (ht0 : hasTabs H0 TT = true) (g : Gr H0 H) {vo vn : AV} {lo ln : List Ce} (hh : RowS H0 vo lo) (hn : RowS H0 vn ln) (hlen : lo.length = ln.length) (hl : ln.length ≤ 400) (hi : InP ln) (hv : ValP ln) {y : Nat} (hy : y < 400) {b : Nat} {t : List UInt8} {c0 : Ce} (hp : TelAt 64 5 H0.next H b t c0.at) (hb : t.length ≤ 700000) :
    FnTo Q 29 [.ptr b 0, vo, vn, .int .i64 y] H (fun _ H' => (∃ t' c', (t', c') = (rowD y lo ln (t, c0) ln.length).2 ∧ t'.length ≤ t.length + 224 * (ln.length + 1) ∧ TelAt 64 5 H0.next H' b t' (Ce.at c')) ∧ Gr H0 H') := by
  refine fn_wp (fq.bq.cq.nq.pq.ho 29 rfl _) fq.q29 (by simp [A29]) ?_
  simp only [A29, SX, reduceCtorEq, Nat.reduceEqDiff, ↓reduceIte, Int.reduceEq, Int.reduceLT, Int.reduceLE, Nat.reduceAdd]
  obtain ⟨I, hI⟩ : ∃ I : Nat → Env → AHeap → Prop, ∀ m e' H', I m e' H' ↔ (Gr H0 H' ∧ ∃ (i : Nat) (t' : List UInt8) (c' : Ce), m = ln.length + 1 - i ∧ i ≤ ln.length + 1 ∧ (i ≤ ln.length → (rowD y lo ln (t, c0) i).1 = false) ∧ (t', c') = (rowD y lo ln (t, c0) (min i ln.length)).2 ∧ t'.length ≤ t.length + 224 * i ∧ TelAt 64 5 H0.next H' b t' c'.at ∧ Env.get e' 0 = .ptr b 0 ∧ Env.get e' 1 = vo ∧ Env.get e' 2 = vn ∧ Env.get e' 3 = .int .i64 y ∧ Env.get e' 8 = .int .i64 i) := ⟨_, fun _ _ _ => Iff.rfl⟩
  refine loop_by I (ln.length + 1) ?_ ?_
  · exact (hI _ _ _).2 ⟨g, 0, t, c0, rfl, by omega, fun _ => rfl, by rw [Nat.zero_min]; rfl, by omega, hp, (by first | (simp only [SG, reduceCtorEq, Nat.reduceEqDiff, ↓reduceIte] <;> rfl) | rfl), (by first | (simp only [SG, reduceCtorEq, Nat.reduceEqDiff, ↓reduceIte] <;> rfl) | rfl), (by first | (simp only [SG, reduceCtorEq, Nat.reduceEqDiff, ↓reduceIte] <;> rfl) | rfl), (by first | (simp only [SG, reduceCtorEq, Nat.reduceEqDiff, ↓reduceIte] <;> rfl) | rfl), (by first | (simp only [SG, reduceCtorEq, Nat.reduceEqDiff, ↓reduceIte] <;> rfl) | rfl)⟩
  · intro m e' H3 hinv
    obtain ⟨g3, i, t', c', rfl, hi', hfl, hst, ht', hp3, e0, e1, e2, e3, e8⟩ := (hI _ _ _).1 hinv
    have lnn := hn.len H3
    by_cases d : (i : Int) < ln.length
    · have w1 : IntKind.wrap .i64 ((i : Int) + 1) = ((i + 1 : Nat) : Int) := wrapNat (n := i + 1) (by omega)
      have hfl := hfl (by omega)
      rw [Nat.min_eq_left (by omega)] at hst
      simp only [e0, e1, e2, e3, e8, lnn, d, SX, reduceCtorEq, Nat.reduceEqDiff, ↓reduceIte, Int.reduceEq, Int.reduceLT, Int.reduceLE, Nat.reduceAdd]
      obtain ⟨J, hJ⟩ : ∃ J : Nat → Env → AHeap → Prop, ∀ m e' H', J m e' H' ↔ (H' = H3 ∧ ∃ j : Nat, m = ln.length - j ∧ i ≤ j ∧ j ≤ ln.length ∧ (∀ k, i ≤ k → k < j → ln.getD k blankC ≠ lo.getD k blankC) ∧ Env.get e' 0 = .ptr b 0 ∧ Env.get e' 1 = vo ∧ Env.get e' 2 = vn ∧ Env.get e' 3 = .int .i64 y ∧ Env.get e' 8 = .int .i64 i ∧ Env.get e' 9 = .int .i64 j) := ⟨_, fun _ _ _ => Iff.rfl⟩
      refine loop_by J (ln.length - i) ?_ ?_
      · exact (hJ _ _ _).2 ⟨rfl, i, rfl, by omega, by omega, fun k a b => by omega, (by simp only [SG, reduceCtorEq, Nat.reduceEqDiff, ↓reduceIte, e0] <;> rfl), (by simp only [SG, reduceCtorEq, Nat.reduceEqDiff, ↓reduceIte, e1] <;> rfl), (by simp only [SG, reduceCtorEq, Nat.reduceEqDiff, ↓reduceIte, e2] <;> rfl), (by simp only [SG, reduceCtorEq, Nat.reduceEqDiff, ↓reduceIte, e3] <;> rfl), (by simp only [SG, reduceCtorEq, Nat.reduceEqDiff, ↓reduceIte, e8] <;> rfl), (by first | (simp only [SG, reduceCtorEq, Nat.reduceEqDiff, ↓reduceIte] <;> rfl) | rfl)⟩
      clear e0 e1 e2 e3 e8
      intro m2 e2' H4 hinv2
      obtain ⟨hH, j, rfl, hij, hjn, hun, e0, e1, e2, e3, e8, e9⟩ := (hJ _ _ _).1 hinv2
      rw [hH]
      by_cases dj : (j : Int) < ln.length
      · have dj' := decide_eq_true dj
        obtain ⟨x, hx⟩ : ∃ x, ln[j]? = some x := ⟨_, List.getElem?_eq_getElem (by omega)⟩
        obtain ⟨z, hz⟩ : ∃ z, lo[j]? = some z := ⟨_, List.getElem?_eq_getElem (by omega)⟩
        obtain ⟨b1, p1, ix1, l71, _⟩ := (hn.grow hf0 g3).cell hx .i64
        obtain ⟨b2, p2, ix2, l72, _⟩ := (hh.grow hf0 g3).cell hz .i64
        have sq := seq7d x z
        by_cases xz : x = z
        case neg =>
          have w2 : IntKind.wrap .i64 ((j : Int) + 1) = ((j + 1 : Nat) : Int) := wrapNat (n := j + 1) (by omega)
          simp only [e0, e1, e2, e3, e8, e9, lnn, dj', ix1, l71, ix2, l72, run_seq, sq, decide_eq_false xz, w2, wantV_undef, SX, reduceCtorEq, Nat.reduceEqDiff, ↓reduceIte, Int.reduceEq, Int.reduceLT, Int.reduceLE, Nat.reduceAdd]
          exact ⟨ln.length - (j + 1), by omega, (hJ _ _ _).2 ⟨rfl, j + 1, rfl, by omega, by omega, fun k a b => by
            by_cases hk : k = j
            · subst hk; rw [getD_of hx, getD_of hz]; exact xz
            · exact hun k a (by omega), (by simp only [SG, reduceCtorEq, Nat.reduceEqDiff, ↓reduceIte, e0] <;> rfl), (by simp only [SG, reduceCtorEq, Nat.reduceEqDiff, ↓reduceIte, e1] <;> rfl), (by simp only [SG, reduceCtorEq, Nat.reduceEqDiff, ↓reduceIte, e2] <;> rfl), (by simp only [SG, reduceCtorEq, Nat.reduceEqDiff, ↓reduceIte, e3] <;> rfl), (by simp only [SG, reduceCtorEq, Nat.reduceEqDiff, ↓reduceIte, e8] <;> rfl), (by first | (simp only [SG, reduceCtorEq, Nat.reduceEqDiff, ↓reduceIte] <;> rfl) | rfl)⟩⟩
        have dxz := decide_eq_true xz
        by_cases q : (i : Int) < j
        · have dq := decide_eq_true q
          have w2 : IntKind.wrap .i64 ((j : Int) + 1) = ((j + 1 : Nat) : Int) := wrapNat (n := j + 1) (by omega)
          simp only [e0, e1, e2, e3, e8, e9, lnn, dj', ix1, l71, ix2, l72, run_seq, sq, dxz, wantV_undef, dq, SX, reduceCtorEq, Nat.reduceEqDiff, ↓reduceIte, Int.reduceEq, Int.reduceLT, Int.reduceLE, Nat.reduceAdd]
          refine (run_spec fq hf0 ht0 g3 hn hl hi hv (x := i) (e := j) (by omega) (by omega) (by omega) hy hp3 (by omega)).mono ?_
          rintro _ H4 ⟨⟨t4, c4, hce, ht4, hp4⟩, g4⟩
          have hrun := rowD_run hfl (j := j) (by omega) (by omega) hun
          rw [← hst] at hrun
          rw [← hce] at hrun
          simp only [e0, e1, e2, e3, e8, e9, w2, SX, reduceCtorEq, Nat.reduceEqDiff, ↓reduceIte, Int.reduceEq, Int.reduceLT, Int.reduceLE, Nat.reduceAdd]
          exact ⟨ln.length + 1 - (j + 1), by omega, (hI _ _ _).2 ⟨g4, j + 1, t4, c4, rfl, by omega, fun _ => by rw [rowD, stepD, if_pos (by rw [getD_of hx, getD_of hz]; exact xz)], by rw [Nat.min_eq_left (by omega), rowD, stepD, if_pos (by rw [getD_of hx, getD_of hz]; exact xz), hrun], by omega, hp4, (by simp only [SG, reduceCtorEq, Nat.reduceEqDiff, ↓reduceIte, e0] <;> rfl), (by simp only [SG, reduceCtorEq, Nat.reduceEqDiff, ↓reduceIte, e1] <;> rfl), (by simp only [SG, reduceCtorEq, Nat.reduceEqDiff, ↓reduceIte, e2] <;> rfl), (by simp only [SG, reduceCtorEq, Nat.reduceEqDiff, ↓reduceIte, e3] <;> rfl), (by first | (simp only [SG, reduceCtorEq, Nat.reduceEqDiff, ↓reduceIte] <;> rfl) | rfl)⟩⟩
        · have dq := decide_eq_false q
          obtain rfl : i = j := by omega
          have heq : ln.getD i blankC = lo.getD i blankC := by rw [getD_of hx, getD_of hz]; exact xz
          simp only [e0, e1, e2, e3, e8, e9, lnn, dj', ix1, l71, ix2, l72, run_seq, sq, dxz, wantV_undef, dq, w1, SX, reduceCtorEq, Nat.reduceEqDiff, ↓reduceIte, Int.reduceEq, Int.reduceLT, Int.reduceLE, Nat.reduceAdd]
          exact ⟨ln.length + 1 - (i + 1), by omega, (hI _ _ _).2 ⟨g3, i + 1, t', c', rfl, by omega, fun _ => by rw [rowD, stepD, if_pos heq], by rw [Nat.min_eq_left (by omega), rowD, stepD, if_pos heq]; exact hst, by omega, hp3, (by simp only [SG, reduceCtorEq, Nat.reduceEqDiff, ↓reduceIte, e0] <;> rfl), (by simp only [SG, reduceCtorEq, Nat.reduceEqDiff, ↓reduceIte, e1] <;> rfl), (by simp only [SG, reduceCtorEq, Nat.reduceEqDiff, ↓reduceIte, e2] <;> rfl), (by simp only [SG, reduceCtorEq, Nat.reduceEqDiff, ↓reduceIte, e3] <;> rfl), (by first | (simp only [SG, reduceCtorEq, Nat.reduceEqDiff, ↓reduceIte] <;> rfl) | rfl)⟩⟩
      · have dj' := decide_eq_false dj
        by_cases q : (i : Int) < j
        · have dq := decide_eq_true q
          have w2 : IntKind.wrap .i64 ((j : Int) + 1) = ((j + 1 : Nat) : Int) := wrapNat (n := j + 1) (by omega)
          simp only [e0, e1, e2, e3, e8, e9, lnn, dj', wantV_undef, dq, SX, reduceCtorEq, Nat.reduceEqDiff, ↓reduceIte, Int.reduceEq, Int.reduceLT, Int.reduceLE, Nat.reduceAdd]
          refine (run_spec fq hf0 ht0 g3 hn hl hi hv (x := i) (e := j) (by omega) (by omega) (by omega) hy hp3 (by omega)).mono ?_
          rintro _ H4 ⟨⟨t4, c4, hce, ht4, hp4⟩, g4⟩
          have hrun := rowD_run hfl (j := j) (by omega) (by omega) hun
          rw [← hst] at hrun
          rw [← hce] at hrun
          simp only [e0, e1, e2, e3, e8, e9, w2, SX, reduceCtorEq, Nat.reduceEqDiff, ↓reduceIte, Int.reduceEq, Int.reduceLT, Int.reduceLE, Nat.reduceAdd]
          exact ⟨ln.length + 1 - (j + 1), by omega, (hI _ _ _).2 ⟨g4, j + 1, t4, c4, rfl, by omega, fun hh => by omega, by rw [Nat.min_eq_right (by omega), show ln.length = j by omega, hrun], by omega, hp4, (by simp only [SG, reduceCtorEq, Nat.reduceEqDiff, ↓reduceIte, e0] <;> rfl), (by simp only [SG, reduceCtorEq, Nat.reduceEqDiff, ↓reduceIte, e1] <;> rfl), (by simp only [SG, reduceCtorEq, Nat.reduceEqDiff, ↓reduceIte, e2] <;> rfl), (by simp only [SG, reduceCtorEq, Nat.reduceEqDiff, ↓reduceIte, e3] <;> rfl), (by first | (simp only [SG, reduceCtorEq, Nat.reduceEqDiff, ↓reduceIte] <;> rfl) | rfl)⟩⟩
        · exact absurd hij (by omega)
    · simp only [e0, e1, e2, e3, e8, lnn, d, resNil, SX, reduceCtorEq, Nat.reduceEqDiff, ↓reduceIte, Int.reduceEq, Int.reduceLT, Int.reduceLE, Nat.reduceAdd]
      rw [Nat.min_eq_right (by omega)] at hst
      refine ⟨⟨t', c', hst, ?_, hp3⟩, g3⟩
      have : 224 * i ≤ 224 * (ln.length + 1) := Nat.mul_le_mul_left _ hi'
      omega
end
def boxTV (ty : Nat) (x : AV) : Option (AObj × AKind) := LOp.run .nil (.boxT ty (.c x))
theorem run_boxT (e : Env) (ty : Nat) (x : Opd) : LOp.run e (.boxT ty x) = boxTV ty (x.ev e) := rfl
theorem boxT_tel : boxTV 64 (.agg [.nilp, .nils, .int .u16 0, .int .u8 0, .int .u32 0, .int .u8 0, .int .u32 0]) = some (.row ⟨.nilp :: .nils :: blankC.at, 0, false, true, 64⟩, .ptr) := rfl
theorem RowS.same {H : AHeap} {v : AV} {l : List Ce} (h : RowS H v l) : AV.same1 v v = true := by
  rcases h with ⟨rfl, _⟩ | ⟨b, o, cap, B, rfl, _⟩ <;> simp [AV.same1]
/-- behind the cells: an attribute that is left, and the cursor -/
def finP (s : List UInt8 × Ce) : List UInt8 := if sameA s.2 blankC then s.1 else s.1 ++ [27, 91, 48, 109]
def curP (x y : Nat) (s : Bool) : List UInt8 := if s = true then toP x y ++ [27, 91, 63, 50, 53, 104] else [27, 91, 63, 50, 53, 108]
def frameD (w : Nat) (lo ln : List Ce) (s : List UInt8 × Ce) : Nat → List UInt8 × Ce
  | 0 => s
  | y + 1 => (rowD y (lineP lo w y) (lineP ln w y) (frameD w lo ln s y) w).2
def allP (w h : Nat) (lo ln : List Ce) (t : List UInt8) (x y : Nat) (s : Bool) : List UInt8 := finP (frameD w lo ln (t, blankC) h) ++ curP x y s
/-- what a terminal is told -/
def tellP (w h x y : Int) (s : Bool) (l : List Ce) (w' h' x' y' : Int) (s' : Bool) (l' : List Ce) : List UInt8 :=
  if rightM w' h' x' y' l' = true then
    (if rightM w h x y l = true ∧ w = w' ∧ h = h' then (if sameM w h x y s l w' h' x' y' s' l' = true then [] else allP w'.toNat h'.toNat l l' [] x'.toNat y'.toNat s')
    else allP w'.toNat h'.toNat (List.replicate (w'.toNat * h'.toNat) blankC) l' [27, 91, 50, 74] x'.toNat y'.toNat s')
  else []
theorem rightP_val {l : List Ce} (h : rightP l = true) : ValP l := by
  intro c hc hw
  obtain ⟨i, hi⟩ := List.mem_iff_getElem?.1 hc
  unfold rightP at h
  simp only [Bool.and_eq_true] at h
  have h2 := (all_range _ _).1 h.2 i (List.getElem?_eq_some_iff.1 hi).1
  unfold okF at h2
  rw [hi] at h2
  simp only [okC, if_neg hw, Bool.and_eq_true] at h2
  exact h2.2.1
theorem rightM_val {w h x y : Int} {l : List Ce} (h1 : rightM w h x y l = true) : ∀ j, j < h.toNat → ValP (lineP l w.toNat j) := by
  intro j hj
  unfold rightM linesP at h1
  simp only [Bool.and_eq_true] at h1
  exact rightP_val ((all_range _ _).1 h1.2 j hj)
section
variable {Q : Prog} (fq : PfQ Q) {H : AHeap}
include fq
set_option maxHeartbeats 4000000 in
theorem line2_spec (hf : Fr H) {w hh x y : Int} {s : Bool} {v : AV} {l : List Ce} {wn yn : Nat} (h : RowS H v l) (hw : w = wn) (hwl : wn ≤ 400) (hyl : yn ≤ 400) (hle : (yn + 1) * wn ≤ l.length) : FnTo Q 19 [.agg (mat w hh v x y s), .int .i64 yn] H (fun r H' => Gr H H' ∧ r = slcOf v (yn * wn) ((yn + 1) * wn)) := by
  subst hw
  refine fn_wp (fq.bq.cq.nq.pq.ho 19 rfl _) fq.bq.cq.nq.pq.q19 (by simp [A19]) ?_
  have ho : (mat wn hh v x y s).all AV.one = true := mat_one h.one
  obtain ⟨H1, s1, g1, k1⟩ := (Hp.nil H hf).make (mat wn hh v x y s) 6
  have l0 := g1.load (List.mem_cons_self ..) (o := 0) rfl
  have l2 := g1.load (List.mem_cons_self ..) (o := 2) rfl
  have g := g1.gr k1
  have m1 : yn * wn ≤ 160000 := by have := Nat.mul_le_mul hyl hwl; omega
  have m2 : (yn + 1) * wn ≤ 160400 := by have := Nat.mul_le_mul (show yn + 1 ≤ 401 by omega) hwl; omega
  have w1 : IntKind.wrap .i64 ((yn : Int) * (wn : Int)) = ((yn * wn : Nat) : Int) := by rw [← Int.natCast_mul]; exact wrapNat (by omega)
  have w2 : IntKind.wrap .i64 ((yn : Int) + 1) = ((yn + 1 : Nat) : Int) := wrapNat (n := yn + 1) (by omega)
  have w3 : IntKind.wrap .i64 (((yn + 1 : Nat) : Int) * (wn : Int)) = (((yn + 1) * wn : Nat) : Int) := by rw [← Int.natCast_mul]; exact wrapNat (by omega)
  obtain ⟨sl, rs⟩ := (h.grow hf g).slice (m := yn * wn) (n := (yn + 1) * wn) (Nat.mul_le_mul_right _ (by omega)) hle
  simp only [A19, boxV_agg ho, s1, l0, l2, w1, w2, w3, sl, Option.map_some, SX, reduceCtorEq, Nat.reduceEqDiff, ↓reduceIte, Int.reduceEq, Int.reduceLT, Int.reduceLE, Nat.reduceAdd]
  exact g
set_option maxHeartbeats 8000000 in
theorem c4_spec {H0 : AHeap} (hf0 : Fr H0) (ht0 : hasTabs H0 TT = true) (g : Gr H0 H) {b : Nat} {t : List UInt8} {c : Ce} (hp : TelAt 64 5 H0.next H b t c.at) (hb : t.length ≤ 900000) {base0 q : Nat} {L : List Cel} {w' h' : Int} {v' : AV} {x' y' : Nat} {s' : Bool} (hq : Hp base0 H0 L) (hm : (⟨q, 6, mat w' h' v' x' y' s'⟩ : Cel) ∈ L) (hx : x' < 400) (hy : y' < 400) {e : Env} (e3 : Env.get e 3 = .ptr q 0) (e7 : Env.get e 7 = .ptr b 0) {P : AV → AHeap → Prop} (hP : ∀ H', Gr H0 H' → P (.str (t ++ curP x' y' s')) H') :
    ACode.wp Q A13_c4 (fnK [.t 4] P) e H := by
  have l3 := (hq.of_gr g).load hm (o := 3) (v := .int .i64 x') rfl
  have l4 := (hq.of_gr g).load hm (o := 4) (v := .int .i64 y') rfl
  have l5 := (hq.of_gr g).load hm (o := 5) (v := .bool s') rfl
  have fin : ∀ (H2 : AHeap) (t2 : List UInt8), t2 = t ++ curP x' y' s' → t2.length ≤ 1000000 → TelAt 64 5 H0.next H2 b t2 c.at → Gr H0 H2 → FnTo Q 31 [.ptr b 0] H2 (fun r H' => P r H') := fun H2 t2 h1 h2 h3 h4 => by
    refine (tstr_spec fq.bq.cq h3 (by omega)).mono ?_
    rintro _ H' ⟨rfl, k, n, f⟩
    rw [h1]; exact hP _ ⟨h4.keep.trans k, Nat.le_trans h4.next n, f⟩
  cases s' with
  | true =>
    simp only [A13_c4, e3, e7, l3, l4, l5, SX, reduceCtorEq, Nat.reduceEqDiff, ↓reduceIte, Int.reduceEq, Int.reduceLT, Int.reduceLE, Nat.reduceAdd]
    refine (to_spec fq hx hy (g.tabs hf0 ht0)).mono ?_
    rintro _ H1 ⟨rfl, hH⟩
    rw [hH]
    have hs := toP_len hx hy
    obtain ⟨s, hsP⟩ : ∃ s, toP x' y' = s := ⟨_, rfl⟩
    rw [hsP] at hs ⊢
    have a1 := bin_adds s [27, 91, 63, 50, 53, 104] (by simp; omega)
    simp only [e3, e7, a1, SX, reduceCtorEq, Nat.reduceEqDiff, ↓reduceIte, Int.reduceEq, Int.reduceLT, Int.reduceLE, Nat.reduceAdd]
    refine (ws_spec fq.bq.cq hp rfl (s ++ [27, 91, 63, 50, 53, 104]) (by simp; omega)).mono ?_
    rintro _ H2 ⟨hp2, k2, n2⟩
    simp only [e3, e7, SX, reduceCtorEq, Nat.reduceEqDiff, ↓reduceIte, Int.reduceEq, Int.reduceLT, Int.reduceLE, Nat.reduceAdd]
    refine (fin H2 _ (by rw [curP, if_pos rfl, hsP]) (by simp; omega) hp2 ⟨g.keep.trans k2, Nat.le_trans g.next n2.le, hp2.fr⟩).mono ?_
    intro r H3 hr
    simp only [SX, reduceCtorEq, Nat.reduceEqDiff, ↓reduceIte, Int.reduceEq, Int.reduceLT, Int.reduceLE, Nat.reduceAdd]
    exact hr
  | false =>
    simp only [A13_c4, e3, e7, l3, l4, l5, SX, reduceCtorEq, Nat.reduceEqDiff, ↓reduceIte, Int.reduceEq, Int.reduceLT, Int.reduceLE, Nat.reduceAdd]
    refine (ws_spec fq.bq.cq hp rfl [27, 91, 63, 50, 53, 108] (by simp; omega)).mono ?_
    rintro _ H2 ⟨hp2, k2, n2⟩
    simp only [e3, e7, SX, reduceCtorEq, Nat.reduceEqDiff, ↓reduceIte, Int.reduceEq, Int.reduceLT, Int.reduceLE, Nat.reduceAdd]
    refine (fin H2 _ (by rw [curP, if_neg (by simp)]) (by simp; omega) hp2 ⟨g.keep.trans k2, Nat.le_trans g.next n2.le, hp2.fr⟩).mono ?_
    intro r H3 hr
    simp only [SX, reduceCtorEq, Nat.reduceEqDiff, ↓reduceIte, Int.reduceEq, Int.reduceLT, Int.reduceLE, Nat.reduceAdd]
    exact hr
set_option maxHeartbeats 8000000 in
theorem c3_spec {H0 : AHeap} (hf0 : Fr H0) (ht0 : hasTabs H0 TT = true) (g : Gr H0 H) {b : Nat} {t : List UInt8} {c : Ce} (hp : TelAt 64 5 H0.next H b t c.at) (hb : t.length ≤ 800000) {base0 q : Nat} {L : List Cel} {w' h' : Int} {v' : AV} {x' y' : Nat} {s' : Bool} (hq : Hp base0 H0 L) (hm : (⟨q, 6, mat w' h' v' x' y' s'⟩ : Cel) ∈ L) (hx : x' < 400) (hy : y' < 400) {e : Env} (e3 : Env.get e 3 = .ptr q 0) (e7 : Env.get e 7 = .ptr b 0) {P : AV → AHeap → Prop} (hP : ∀ H', Gr H0 H' → P (.str (finP (t, c) ++ curP x' y' s')) H') :
    ACode.wp Q A13_c3 (fnK [.t 4] P) e H := by
  have la := hp.attr rfl
  have sq : seqV [1, 1, 1, 1, 1] true (.agg c.at) (.agg [.int .u16 0, .int .u8 0, .int .u32 0, .int .u8 0, .int .u32 0]) = some (.bool (!decide (sameA c blankC))) := seq5 c blankC
  by_cases z : sameA c blankC
  · simp only [A13_c3, e3, e7, la, run_build0, run_seq, sq, decide_eq_true z, SX, reduceCtorEq, Nat.reduceEqDiff, ↓reduceIte, Int.reduceEq, Int.reduceLT, Int.reduceLE, Nat.reduceAdd]
    exact c4_spec fq hf0 ht0 g hp (by omega) hq hm hx hy (by simp only [SG, reduceCtorEq, Nat.reduceEqDiff, ↓reduceIte, e3] <;> rfl) (by simp only [SG, reduceCtorEq, Nat.reduceEqDiff, ↓reduceIte, e7] <;> rfl) (by rw [finP, if_pos z] at hP; exact hP)
  · simp only [A13_c3, e3, e7, la, run_build0, run_seq, sq, decide_eq_false z, SX, reduceCtorEq, Nat.reduceEqDiff, ↓reduceIte, Int.reduceEq, Int.reduceLT, Int.reduceLE, Nat.reduceAdd]
    refine (ws_spec fq.bq.cq hp rfl [27, 91, 48, 109] (by simp; omega)).mono ?_
    rintro _ H2 ⟨hp2, k2, n2⟩
    simp only [e3, e7, SX, reduceCtorEq, Nat.reduceEqDiff, ↓reduceIte, Int.reduceEq, Int.reduceLT, Int.reduceLE, Nat.reduceAdd]
    exact c4_spec fq hf0 ht0 ⟨g.keep.trans k2, Nat.le_trans g.next n2.le, hp2.fr⟩ hp2 (by simp; omega) hq hm hx hy (by simp only [SG, reduceCtorEq, Nat.reduceEqDiff, ↓reduceIte, e3] <;> rfl) (by simp only [SG, reduceCtorEq, Nat.reduceEqDiff, ↓reduceIte, e7] <;> rfl) (by rw [finP, if_neg z] at hP; exact hP)
set_option maxHeartbeats 16000000 in
theorem c2_spec {H0 : AHeap} (hf0 : Fr H0) (ht0 : hasTabs H0 TT = true) (g : Gr H0 H) {b : Nat} {t : List UInt8} {c : Ce} (hp : TelAt 64 5 H0.next H b t c.at) (hb : t.length ≤ 4) {base0 q r : Nat} {L : List Cel} {wn hn : Nat} {v' : AV} {x' y' : Nat} {s' : Bool} {fh fx fy : Int} {fs : Bool} {u : AV} {l' m : List Ce} (hq : Hp base0 H0 L) (hm : (⟨q, 6, mat wn hn v' x' y' s'⟩ : Cel) ∈ L) (hm2 : (⟨r, 6, mat wn fh u fx fy fs⟩ : Cel) ∈ L) (hx : x' < 400) (hy : y' < 400) (hw4 : wn ≤ 400) (hh4 : hn ≤ 400) (r1 : RowS H0 v' l') (r2 : RowS H0 u m) (hl1 : l'.length = wn * hn) (hl2 : m.length = wn * hn) (h16 : wn * hn ≤ 1600) (hi : InP l') (hv : ∀ j, j < hn → ValP (lineP l' wn j)) {e : Env} (e3 : Env.get e 3 = .ptr q 0) (e5 : Env.get e 5 = .ptr r 0) (e7 : Env.get e 7 = .ptr b 0) {P : AV → AHeap → Prop} (hP : ∀ H', Gr H0 H' → P (.str (finP (frameD wn m l' (t, c) hn) ++ curP x' y' s')) H') :
    ACode.wp Q A13_c2 (fnK [.t 4] P) e H := by
  have lh := (hq.of_gr g).load hm (o := 1) (v := .int .i64 hn) rfl
  simp only [A13_c2, e3, e5, e7, lh, SX, reduceCtorEq, Nat.reduceEqDiff, ↓reduceIte, Int.reduceEq, Int.reduceLT, Int.reduceLE, Nat.reduceAdd]
  obtain ⟨A, hA⟩ : ∃ A, 224 * (wn + 1) = A := ⟨_, rfl⟩
  have hAh : A * hn ≤ 448000 := by
    rw [← hA, Nat.mul_assoc, Nat.add_mul, Nat.one_mul]
    omega
  obtain ⟨I, hI⟩ : ∃ I : Nat → Env → AHeap → Prop, ∀ k e' H', I k e' H' ↔ (Gr H0 H' ∧ ∃ (i : Nat) (t' : List UInt8) (c' : Ce), k = hn - i ∧ i ≤ hn ∧ (t', c') = frameD wn m l' (t, c) i ∧ t'.length ≤ 4 + A * i ∧ TelAt 64 5 H0.next H' b t' c'.at ∧ Env.get e' 3 = .ptr q 0 ∧ Env.get e' 5 = .ptr r 0 ∧ Env.get e' 7 = .ptr b 0 ∧ Env.get e' 33 = .int .i64 hn ∧ Env.get e' 34 = .int .i64 i) := ⟨_, fun _ _ _ => Iff.rfl⟩
  refine loop_by I hn ?_ ?_
  · exact (hI _ _ _).2 ⟨g, 0, t, c, rfl, by omega, rfl, by omega, hp, (by simp only [SG, reduceCtorEq, Nat.reduceEqDiff, ↓reduceIte, e3] <;> rfl), (by simp only [SG, reduceCtorEq, Nat.reduceEqDiff, ↓reduceIte, e5] <;> rfl), (by simp only [SG, reduceCtorEq, Nat.reduceEqDiff, ↓reduceIte, e7] <;> rfl), (by first | (simp only [SG, reduceCtorEq, Nat.reduceEqDiff, ↓reduceIte] <;> rfl) | rfl), (by first | (simp only [SG, reduceCtorEq, Nat.reduceEqDiff, ↓reduceIte] <;> rfl) | rfl)⟩
  · intro k e' H3 hinv
    obtain ⟨g3, i, t', c', rfl, hi', hfr, ht', hp3, e3, e5, e7, e33, e34⟩ := (hI _ _ _).1 hinv
    have hAi : A * i ≤ A * hn := Nat.mul_le_mul_left _ hi'
    by_cases d : (i : Int) < hn
    · have w1 : IntKind.wrap .i64 ((i : Int) + 1) = ((i + 1 : Nat) : Int) := wrapNat (n := i + 1) (by omega)
      have le1 : (i + 1) * wn ≤ wn * hn := by rw [Nat.mul_comm wn hn]; exact Nat.mul_le_mul_right _ (by omega)
      have lm := (hq.of_gr g3).loadN hm (n := 6) rfl
      have lf := (hq.of_gr g3).loadN hm2 (n := 6) rfl
      simp only [e3, e5, e7, e33, e34, d, lm, lf, SX, reduceCtorEq, Nat.reduceEqDiff, ↓reduceIte, Int.reduceEq, Int.reduceLT, Int.reduceLE, Nat.reduceAdd]
      refine (line2_spec fq g3.fr (yn := i) (r2.grow hf0 g3) rfl hw4 (by omega) (by omega)).mono ?_
      rintro _ H4 ⟨gr4, rfl⟩
      have g4 := g3.trans gr4
      have lm4 := (hq.of_gr g4).loadN hm (n := 6) rfl
      have sm : AV.same (.agg (mat wn hn v' x' y' s')) (.agg (mat wn hn v' x' y' s')) = true := by
        rcases r1 with ⟨rfl, _⟩ | ⟨_, _, _, _, rfl, _⟩ <;> simp [AV.same, AV.sameL, AV.same1, mat]
      refine ⟨by simp only [echoOk, e3, lm4, sm, Bool.and_self, SX, reduceCtorEq, Nat.reduceEqDiff, ↓reduceIte, Int.reduceEq, Int.reduceLT, Int.reduceLE, Nat.reduceAdd], ?_⟩
      simp only [e3, e5, e7, e33, e34, SX, reduceCtorEq, Nat.reduceEqDiff, ↓reduceIte, Int.reduceEq, Int.reduceLT, Int.reduceLE, Nat.reduceAdd]
      refine (line2_spec fq g4.fr (yn := i) (r1.grow hf0 g4) rfl hw4 (by omega) (by omega)).mono ?_
      rintro _ H5 ⟨gr5, rfl⟩
      have g5 := g4.trans gr5
      have hp5 := (hp3.gr gr4).gr gr5
      have q1 := (r1.slice (m := i * wn) (n := (i + 1) * wn) (Nat.mul_le_mul_right _ (by omega)) (by omega)).2
      have q2 := (r2.slice (m := i * wn) (n := (i + 1) * wn) (Nat.mul_le_mul_right _ (by omega)) (by omega)).2
      have n1 : ((l'.take ((i + 1) * wn)).drop (i * wn)).length = wn := by rw [List.length_drop, List.length_take, Nat.succ_mul]; rw [Nat.succ_mul] at le1; omega
      have n2 : ((m.take ((i + 1) * wn)).drop (i * wn)).length = wn := by rw [List.length_drop, List.length_take, Nat.succ_mul]; rw [Nat.succ_mul] at le1; omega
      simp only [e3, e5, e7, e33, e34, SX, reduceCtorEq, Nat.reduceEqDiff, ↓reduceIte, Int.reduceEq, Int.reduceLT, Int.reduceLE, Nat.reduceAdd]
      refine (row_spec fq hf0 ht0 g5 q2 q1 (by rw [n1, n2]) (by omega) (fun c hc => hi c (List.mem_of_mem_take (List.mem_of_mem_drop hc))) (hv i (by omega)) (y := i) (by omega) hp5 (by omega)).mono ?_
      rintro _ H6 ⟨⟨t6, c6, he6, ht6, hp6⟩, g6⟩
      rw [n1, hA] at ht6
      rw [n1, hfr] at he6
      simp only [e3, e5, e7, e33, e34, w1, SX, reduceCtorEq, Nat.reduceEqDiff, ↓reduceIte, Int.reduceEq, Int.reduceLT, Int.reduceLE, Nat.reduceAdd]
      exact ⟨hn - (i + 1), by omega, (hI _ _ _).2 ⟨g6, i + 1, t6, c6, rfl, by omega, he6, by rw [Nat.mul_succ]; omega, hp6, (by simp only [SG, reduceCtorEq, Nat.reduceEqDiff, ↓reduceIte, e3] <;> rfl), (by simp only [SG, reduceCtorEq, Nat.reduceEqDiff, ↓reduceIte, e5] <;> rfl), (by simp only [SG, reduceCtorEq, Nat.reduceEqDiff, ↓reduceIte, e7] <;> rfl), (by simp only [SG, reduceCtorEq, Nat.reduceEqDiff, ↓reduceIte, e33] <;> rfl), (by first | (simp only [SG, reduceCtorEq, Nat.reduceEqDiff, ↓reduceIte] <;> rfl) | rfl)⟩⟩
    · simp only [e3, e5, e7, e33, e34, d, SX, reduceCtorEq, Nat.reduceEqDiff, ↓reduceIte, Int.reduceEq, Int.reduceLT, Int.reduceLE, Nat.reduceAdd]
      exact c3_spec fq hf0 ht0 g3 hp3 (by omega) hq hm hx hy (by simp only [SG, reduceCtorEq, Nat.reduceEqDiff, ↓reduceIte, e3] <;> rfl) (by simp only [SG, reduceCtorEq, Nat.reduceEqDiff, ↓reduceIte, e7] <;> rfl) (by rw [hfr, show i = hn by omega]; exact hP)
set_option maxHeartbeats 8000000 in
theorem c1_spec (hf : Fr H) (ht : hasTabs H TT = true) {base0 q r : Nat} {L : List Cel} {wn hn : Nat} {v' : AV} {x' y' : Nat} {s' : Bool} {fh fx fy : Int} {fs bl : Bool} {u : AV} {l' m : List Ce} (hq : Hp base0 H L) (hm : (⟨q, 6, mat wn hn v' x' y' s'⟩ : Cel) ∈ L) (hm2 : (⟨r, 6, mat wn fh u fx fy fs⟩ : Cel) ∈ L) (hx : x' < 400) (hy : y' < 400) (hw4 : wn ≤ 400) (hh4 : hn ≤ 400) (r1 : RowS H v' l') (r2 : RowS H u m) (hl1 : l'.length = wn * hn) (hl2 : m.length = wn * hn) (h16 : wn * hn ≤ 1600) (hi : InP l') (hv : ∀ j, j < hn → ValP (lineP l' wn j)) {e : Env} (e3 : Env.get e 3 = .ptr q 0) (e5 : Env.get e 5 = .ptr r 0) (e6 : Env.get e 6 = .bool bl) {P : AV → AHeap → Prop} (hP : ∀ H', Gr H H' → P (.str (allP wn hn m l' (if bl = true then [27, 91, 50, 74] else []) x' y' s')) H') :
    ACode.wp Q A13_c1 (fnK [.t 4] P) e H := by
  have tn := TelAt.new (base := H.next) (H := H) (bt := 64) (ct := 5) (a := blankC.at) (Nat.le_refl _) hf (by omega) (by omega) rfl
  obtain ⟨H1, s1⟩ : ∃ H1, H.alloc (.row ⟨.nilp :: .nils :: blankC.at, 0, false, true, 64⟩) = H1 := ⟨_, rfl⟩
  rw [s1] at tn
  have g1 : Gr H H1 := by
    rw [← s1]
    exact ⟨fun c hc => by rw [AHeap.get_alloc, if_neg (by omega)], by rw [AHeap.next_alloc]; omega, fun c hc => by rw [AHeap.next_alloc] at hc; rw [AHeap.get_alloc, if_neg (by omega)]; exact hf c (by omega)⟩
  cases bl with
  | false =>
    simp only [A13_c1, e3, e5, e6, run_build0, run_boxT, boxT_tel, s1, SX, reduceCtorEq, Nat.reduceEqDiff, ↓reduceIte, Int.reduceEq, Int.reduceLT, Int.reduceLE, Nat.reduceAdd]
    exact c2_spec fq hf ht g1 tn (by simp) hq hm hm2 hx hy hw4 hh4 r1 r2 hl1 hl2 h16 hi hv (by simp only [SG, reduceCtorEq, Nat.reduceEqDiff, ↓reduceIte, e3] <;> rfl) (by simp only [SG, reduceCtorEq, Nat.reduceEqDiff, ↓reduceIte, e5] <;> rfl) (by first | (simp only [SG, reduceCtorEq, Nat.reduceEqDiff, ↓reduceIte] <;> rfl) | rfl) hP
  | true =>
    simp only [A13_c1, e3, e5, e6, run_build0, run_boxT, boxT_tel, s1, SX, reduceCtorEq, Nat.reduceEqDiff, ↓reduceIte, Int.reduceEq, Int.reduceLT, Int.reduceLE, Nat.reduceAdd]
    refine (ws_spec fq.bq.cq tn rfl [27, 91, 50, 74] (by simp)).mono ?_
    rintro _ H2 ⟨hp2, k2, n2⟩
    simp only [e3, e5, e6, SX, reduceCtorEq, Nat.reduceEqDiff, ↓reduceIte, Int.reduceEq, Int.reduceLT, Int.reduceLE, Nat.reduceAdd]
    exact c2_spec fq hf ht ⟨g1.keep.trans k2, Nat.le_trans g1.next n2.le, hp2.fr⟩ hp2 (by simp) hq hm hm2 hx hy hw4 hh4 r1 r2 hl1 hl2 h16 hi hv (by simp only [SG, reduceCtorEq, Nat.reduceEqDiff, ↓reduceIte, e3] <;> rfl) (by simp only [SG, reduceCtorEq, Nat.reduceEqDiff, ↓reduceIte, e5] <;> rfl) (by first | (simp only [SG, reduceCtorEq, Nat.reduceEqDiff, ↓reduceIte] <;> rfl) | rfl) hP
end
theorem rightM_parts {w h x y : Int} {l : List Ce} (h1 : rightM w h x y l = true) : sizeP w h = true ∧ (l.length : Int) = w * h ∧ 0 ≤ x ∧ x < w ∧ 0 ≤ y ∧ y < h := by
  unfold rightM inP at h1
  simp only [Bool.and_eq_true, decide_eq_true_eq] at h1
  obtain ⟨⟨⟨a, b⟩, ⟨⟨c, d⟩, e⟩, f⟩, _⟩ := h1
  exact ⟨a, b, c, d, e, f⟩
section
variable {Q : Prog} (fq : PfQ Q) {H : AHeap}
include fq
set_option maxHeartbeats 16000000 in
theorem tell_spec (ht : hasTabs H TT = true) (hf : Fr H) {w h x y : Int} {s : Bool} {v : AV} {l : List Ce} {w' h' x' y' : Int} {s' : Bool} {v' : AV} {l' : List Ce} (h1 : RowS H v l) (h2 : RowS H v' l') (hl : l.length ≤ 1600) (hl' : l'.length ≤ 1600) (hi : InP l') :
    FnTo Q 13 [.agg (mat w h v x y s), .agg (mat w' h' v' x' y' s')] H (fun r H' => r = .str (tellP w h x y s l w' h' x' y' s' l') ∧ Gr H H') := by
  refine fn_wp (fq.bq.cq.nq.pq.ho 13 rfl _) fq.q13 (by simp [A13]) ?_
  obtain ⟨H1, s1, g1, k1⟩ := (Hp.nil H hf).make (mat w h v x y s) 6
  obtain ⟨H2, s2, g2, k2⟩ := g1.make (mat w' h' v' x' y' s') 6
  obtain ⟨p, hp⟩ : ∃ p, H.next = p := ⟨_, rfl⟩
  obtain ⟨q, hq⟩ : ∃ q, H1.next = q := ⟨_, rfl⟩
  have gg := g2.gr (k1.trans k2)
  have kk := k1.trans k2
  have hb0 : p ≤ H2.next := by rw [← hp]; exact gg.next
  rw [hp, hq] at g2
  rw [hp] at kk
  have toG : ∀ {H' : AHeap} {L : List Cel}, Hp p H' L → Keep p H H' → Gr H H' := by rw [← hp]; exact fun a b => a.gr b
  have b6 := g2.loadN (b := q) (k := 6) (cs := mat w' h' v' x' y' s') (by simp) (n := 6) rfl
  simp only [A13, boxV_agg (mat_one h1.one), boxV_agg (mat_one h2.one), s1, s2, hp, hq, b6, SX, reduceCtorEq, Nat.reduceEqDiff, ↓reduceIte, Int.reduceEq, Int.reduceLT, Int.reduceLE, Nat.reduceAdd]
  refine (Right_spec fq.bq.cq.nq.pq (gg.tabs hf ht) g2.fr (h2.grow hf gg)).mono ?_
  rintro _ H3 ⟨rfl, gr3⟩
  cases hr : rightM w' h' x' y' l' with
  | false =>
    simp only [SX, reduceCtorEq, Nat.reduceEqDiff, ↓reduceIte, Int.reduceEq, Int.reduceLT, Int.reduceLE, Nat.reduceAdd]
    exact ⟨by unfold tellP; rw [if_neg (by simp [hr])], gg.trans gr3⟩
  | true =>
    obtain ⟨sz, hlw, hx0, hx1, hy0, hy1⟩ := rightM_parts hr
    obtain ⟨w0, w4, h0, h4⟩ := sizeP_true sz
    obtain ⟨wn, rfl⟩ : ∃ n : Nat, w' = n := ⟨w'.toNat, by omega⟩
    obtain ⟨hn, rfl⟩ : ∃ n : Nat, h' = n := ⟨h'.toNat, by omega⟩
    obtain ⟨xn, rfl⟩ : ∃ n : Nat, x' = n := ⟨x'.toNat, by omega⟩
    obtain ⟨yn, rfl⟩ : ∃ n : Nat, y' = n := ⟨y'.toNat, by omega⟩
    have hl1 : l'.length = wn * hn := by rw [← Int.natCast_mul] at hlw; omega
    have hv : ∀ j, j < hn → ValP (lineP l' wn j) := rightM_val hr
    have h16 : wn * hn ≤ 1600 := by omega
    have g3 := g2.of_gr gr3
    have gg3 := gg.trans gr3
    have k3 : Keep p H H3 := kk.trans (gr3.keep.le hb0)
    have a6 := g3.loadN (b := p) (k := 6) (cs := mat w h v x y s) (by simp) (n := 6) rfl
    have b6 := g3.loadN (b := q) (k := 6) (cs := mat wn hn v' xn yn s') (by simp) (n := 6) rfl
    simp only [a6, b6, SX, reduceCtorEq, Nat.reduceEqDiff, ↓reduceIte, Int.reduceEq, Int.reduceLT, Int.reduceLE, Nat.reduceAdd]
    refine (base_spec fq.bq.cq.nq (gg3.tabs hf ht) g3.fr (h1.grow hf gg3) h2.one sz).mono ?_
    rintro r H4 ⟨gr4, hbase⟩
    have g4 := g3.of_gr gr4
    have k4 : Keep p H H4 := k3.trans (gr4.keep.le (Nat.le_trans hb0 gr3.next))
    obtain ⟨H5, s5, g5, k5⟩ := (Hp.nil H4 g4.fr).make [.int .i64 0, .int .i64 0, .nils, .int .i64 0, .int .i64 0, .bool false] 6
    obtain ⟨u, hu⟩ : ∃ u, H4.next = u := ⟨_, rfl⟩
    have gg4 : Gr H H4 := gg3.trans gr4
    have store : ∀ (fw fh fx fy : Int) (fs : Bool) (fv : AV), fv.one = true → ∃ H6, storeE H5 6 (.ptr u 0) (.agg (mat fw fh fv fx fy fs)) = some (.undef, H6) ∧ Gr H4 H6 ∧ Hp p H6 [⟨u, 6, mat fw fh fv fx fy fs⟩, ⟨q, 6, mat wn hn v' xn yn s'⟩, ⟨p, 6, mat w h v x y s⟩] := fun fw fh fx fy fs fv ho => by
      obtain ⟨H6, s6, g6, k6, _⟩ := g5.storeN (n := 6) (new := mat fw fh fv fx fy fs) rfl rfl (mat_one ho)
      have gr6 := g6.gr (k5.trans k6)
      have g7 := g4.joinG gr6 g6
      rw [hu] at s6 g7
      exact ⟨H6, s6, gr6, g7⟩
    by_cases cb : rightM w h x y l = true ∧ w = wn ∧ h = hn
    · rw [if_pos cb] at hbase
      subst hbase
      obtain ⟨cb1, rfl, rfl⟩ := cb
      obtain ⟨H6, s6, gr6, g6⟩ := store wn hn x y s v h1.one
      have gg6 := gg4.trans gr6
      have x0 : extractV 0 (.tup [.agg (mat wn hn v x y s), .bool false]) = some (.agg (mat wn hn v x y s)) := rfl
      have x1 : extractV 1 (.tup [.agg (mat wn hn v x y s), .bool false]) = some (.bool false) := rfl
      have a6 := g6.loadN (b := p) (k := 6) (cs := mat wn hn v x y s) (by simp) (n := 6) rfl
      have b6 := g6.loadN (b := q) (k := 6) (cs := mat wn hn v' xn yn s') (by simp) (n := 6) rfl
      simp only [x0, x1, run_allocL, s5, hu, s6, a6, b6, SX, reduceCtorEq, Nat.reduceEqDiff, ↓reduceIte, Int.reduceEq, Int.reduceLT, Int.reduceLE, Nat.reduceAdd]
      refine (Same_spec fq.bq.cq.nq g6.fr (h1.grow hf gg6) (h2.grow hf gg6) (by omega)).mono ?_
      rintro _ H7 ⟨rfl, gr7⟩
      have gg7 := gg6.trans gr7
      obtain ⟨_, hlm, _⟩ := rightM_parts cb1
      have hlm1 : l.length = wn * hn := by rw [← Int.natCast_mul] at hlm; omega
      cases hs : sameM wn hn x y s l wn hn xn yn s' l' with
      | true =>
        simp only [SX, reduceCtorEq, Nat.reduceEqDiff, ↓reduceIte, Int.reduceEq, Int.reduceLT, Int.reduceLE, Nat.reduceAdd]
        exact ⟨by unfold tellP; rw [if_pos hr, if_pos ⟨cb1, rfl, rfl⟩, if_pos hs], gg7⟩
      | false =>
        simp only [SX, reduceCtorEq, Nat.reduceEqDiff, ↓reduceIte, Int.reduceEq, Int.reduceLT, Int.reduceLE, Nat.reduceAdd]
        exact c1_spec fq gg7.fr (gg7.tabs hf ht) (g6.of_gr gr7) (bl := false) (m := l) (q := q) (r := u) (x' := xn) (y' := yn) (List.mem_cons_of_mem _ (List.mem_cons_self ..)) (List.mem_cons_self ..) (by omega) (by omega) (by omega) (by omega) (h2.grow hf gg7) (h1.grow hf gg7) hl1 hlm1 h16 hi hv (by first | (simp only [SG, reduceCtorEq, Nat.reduceEqDiff, ↓reduceIte] <;> rfl) | rfl) (by first | (simp only [SG, reduceCtorEq, Nat.reduceEqDiff, ↓reduceIte] <;> rfl) | rfl) (by first | (simp only [SG, reduceCtorEq, Nat.reduceEqDiff, ↓reduceIte] <;> rfl) | rfl) (fun H' hg => ⟨by show AV.str (allP wn hn l l' [] xn yn s') = _; unfold tellP; rw [if_pos hr, if_pos ⟨cb1, rfl, rfl⟩, if_neg (by simp [hs])]; rfl, gg7.trans hg⟩)
    · rw [if_neg cb] at hbase
      obtain ⟨fv, m, rfl, rm, hm⟩ := hbase
      obtain ⟨H6, s6, gr6, g6⟩ := store wn hn 0 0 false fv rm.one
      have gg6 := gg4.trans gr6
      have x0 : extractV 0 (.tup [.agg (mat wn hn fv 0 0 false), .bool true]) = some (.agg (mat wn hn fv 0 0 false)) := rfl
      have x1 : extractV 1 (.tup [.agg (mat wn hn fv 0 0 false), .bool true]) = some (.bool true) := rfl
      have hne : ¬ (rightM w h x y l = true ∧ sameM w h x y s l wn hn xn yn s' l' = true) := fun hh => cb ⟨hh.1, by
        have := hh.2
        simp only [sameM, Bool.and_eq_true, decide_eq_true_eq] at this
        exact ⟨this.1, this.2.1⟩⟩
      have hm1 : m.length = wn * hn := by rw [hm, List.length_replicate, Int.toNat_natCast, Int.toNat_natCast]
      simp only [x0, x1, run_allocL, s5, hu, s6, wantV_undef, SX, reduceCtorEq, Nat.reduceEqDiff, ↓reduceIte, Int.reduceEq, Int.reduceLT, Int.reduceLE, Nat.reduceAdd]
      exact c1_spec fq gg6.fr (gg6.tabs hf ht) g6 (bl := true) (m := m) (q := q) (r := u) (x' := xn) (y' := yn) (List.mem_cons_of_mem _ (List.mem_cons_self ..)) (List.mem_cons_self ..) (by omega) (by omega) (by omega) (by omega) (h2.grow hf gg6) (rm.grow g4.fr gr6) hl1 hm1 h16 hi hv (by first | (simp only [SG, reduceCtorEq, Nat.reduceEqDiff, ↓reduceIte] <;> rfl) | rfl) (by first | (simp only [SG, reduceCtorEq, Nat.reduceEqDiff, ↓reduceIte] <;> rfl) | rfl) (by first | (simp only [SG, reduceCtorEq, Nat.reduceEqDiff, ↓reduceIte] <;> rfl) | rfl) (fun H' hg => ⟨by unfold tellP; rw [if_pos hr, if_neg cb, hm]; rfl, gg6.trans hg⟩)
theorem great_spec (q4 : Q.fns 4 = some A4) (hf : Fr H) {w h x y : Int} {s : Bool} {v : AV} {l : List Ce} (h1 : RowS H v l) : FnTo Q 4 [.agg (mat w h v x y s)] H (fun r H' => r = .bool (decide ((1600 : Int) < l.length)) ∧ Gr H H') := by
  refine fn_wp (fq.bq.cq.nq.pq.ho 4 rfl _) q4 (by simp [A4]) ?_
  obtain ⟨H1, s1, g1, k1⟩ := (Hp.nil H hf).make (mat w h v x y s) 6
  have l2 := g1.load (List.mem_cons_self ..) (o := 2) (v := v) rfl
  have ln := h1.len H1
  simp only [A4, boxV_agg (mat_one h1.one), s1, l2, ln, SX, reduceCtorEq, Nat.reduceEqDiff, ↓reduceIte, Int.reduceEq, Int.reduceLT, Int.reduceLE, Nat.reduceAdd]
  exact g1.gr k1
end
def InF (l : List Ce) : Prop := ∀ c ∈ l, 0 ≤ c.f ∧ 0 ≤ c.w
theorem fld_agg {P : Program} {t : TypeId} {ts : List TypeId} {G : List AV → Prop} (h1 : Agg P t G) {H : AHeap} {ps : List Dt} {cs : List AV} (hw : WTF P ps (t :: ts)) (hr : RdL H ps cs) :
    ∃ c ps' cs', cs = c ++ cs' ∧ G c ∧ WTF P ps' ts ∧ RdL H ps' cs' := by
  cases ps with
  | nil => simp [WTF] at hw
  | cons d ps =>
    simp only [WTF] at hw
    obtain ⟨t', ts', e, hw1, hw2⟩ := hw
    simp only [List.cons.injEq] at e
    obtain ⟨rfl, rfl⟩ := e
    simp only [RdL] at hr
    obtain ⟨c1, c2, rfl, hr1, hr2⟩ := hr
    exact ⟨c1, ps, c2, rfl, (h1 H d c1 hw1 hr1).2, hw2, hr2⟩
theorem wf_u16 {n : Int} (h : (Lit.int .u16 n).wf = true) : 0 ≤ n := by
  simp only [Lit.wf, Bool.and_eq_true, decide_eq_true_eq] at h
  exact h.1
theorem wf_u32 {n : Int} (h : (Lit.int .u32 n).wf = true) : 0 ≤ n := by
  simp only [Lit.wf, Bool.and_eq_true, decide_eq_true_eq] at h
  exact h.1
theorem colrW (H : AHeap) (ps : List Dt) (cs : List AV) (hw : WTF Tryd.prog ps [5, 43]) (hr : RdL H ps cs) : ∃ k n : Int, cs = [.int .u8 k, .int .u32 n] ∧ 0 ≤ n := by
  obtain ⟨k, c1, ps, cs, rfl, rfl, _, hw, hr⟩ := fld_one (one_int Tryd.underlying5) hw hr
  obtain ⟨n, c2, ps, cs, rfl, rfl, hn, hw, hr⟩ := fld_one (one_int Tryd.underlying43) hw hr
  obtain rfl := fld_none hw hr
  exact ⟨k, n, rfl, wf_u32 hn⟩
theorem attrW (H : AHeap) (ps : List Dt) (cs : List AV) (hw : WTF Tryd.prog ps [42, 45, 45]) (hr : RdL H ps cs) : ∃ f k1 n1 k2 n2 : Int, cs = [.int .u16 f, .int .u8 k1, .int .u32 n1, .int .u8 k2, .int .u32 n2] ∧ 0 ≤ n1 ∧ 0 ≤ n2 ∧ 0 ≤ f := by
  obtain ⟨fl, c1, ps, cs, rfl, rfl, hfl, hw, hr⟩ := fld_one (one_int Tryd.underlying42) hw hr
  obtain ⟨c2, ps, cs, rfl, ⟨k, n, rfl, h1⟩, hw, hr⟩ := fld_agg (agg_of Tryd.underlying45 (G := fun cs => ∃ k n : Int, cs = [.int .u8 k, .int .u32 n] ∧ 0 ≤ n) colrW) hw hr
  obtain ⟨c3, ps, cs, rfl, ⟨k', n', rfl, h2⟩, hw, hr⟩ := fld_agg (agg_of Tryd.underlying45 (G := fun cs => ∃ k n : Int, cs = [.int .u8 k, .int .u32 n] ∧ 0 ≤ n) colrW) hw hr
  obtain rfl := fld_none hw hr
  exact ⟨fl, k, n, k', n', rfl, h1, h2, wf_u16 hfl⟩
theorem cellW (H : AHeap) (ps : List Dt) (cs : List AV) (hw : WTF Tryd.prog ps [21, 5, 47]) (hr : RdL H ps cs) : ∃ c : Ce, cs = c.cs ∧ 0 ≤ c.n1 ∧ 0 ≤ c.n2 ∧ (0 ≤ c.f ∧ 0 ≤ c.w) := by
  obtain ⟨r, c1, ps, cs, rfl, rfl, _, hw, hr⟩ := fld_one (one_int Tryd.underlying21) hw hr
  obtain ⟨w, c1, ps, cs, rfl, rfl, hww, hw, hr⟩ := fld_one (one_int Tryd.underlying5) hw hr
  obtain ⟨c2, ps, cs, rfl, ⟨f, k1, n1, k2, n2, rfl, h1, h2, h3⟩, hw, hr⟩ := fld_agg (agg_of Tryd.underlying47 (G := fun cs => ∃ f k1 n1 k2 n2 : Int, cs = [.int .u16 f, .int .u8 k1, .int .u32 n1, .int .u8 k2, .int .u32 n2] ∧ 0 ≤ n1 ∧ 0 ≤ n2 ∧ 0 ≤ f) attrW) hw hr
  obtain rfl := fld_none hw hr
  exact ⟨⟨r, w, f, k1, n1, k2, n2⟩, rfl, h1, h2, h3, (wf_u8 hww).1⟩
theorem cells_list (H : AHeap) : ∀ (ds : List Dt) (cs : List AV), WTL Tryd.prog ds 49 → RdL H ds cs → ∃ l : List Ce, l.length = ds.length ∧ cs = rowV l ∧ InP l ∧ InF l
  | [], cs, _, hr => by simp only [RdL] at hr; subst hr; exact ⟨[], rfl, rfl, (fun c hc => by simp at hc), (fun c hc => by simp at hc)⟩
  | d :: ds, cs, hw, hr => by
    simp only [WTL] at hw
    simp only [RdL] at hr
    obtain ⟨c1, c2, rfl, h1, h2⟩ := hr
    obtain ⟨_, c, rfl, h3, h4, h8⟩ := (agg_of Tryd.underlying49 (G := fun cs => ∃ c : Ce, cs = c.cs ∧ 0 ≤ c.n1 ∧ 0 ≤ c.n2 ∧ (0 ≤ c.f ∧ 0 ≤ c.w)) cellW) H d c1 hw.1 h1
    obtain ⟨l, h5, rfl, h7, h9⟩ := cells_list H ds c2 hw.2 h2
    exact ⟨c :: l, by simp [h5], rfl, (fun x hx => by
      rcases List.mem_cons.1 hx with rfl | hx
      · exact ⟨h3, h4⟩
      · exact h7 x hx), (fun x hx => by
      rcases List.mem_cons.1 hx with rfl | hx
      · exact h8
      · exact h9 x hx)⟩
theorem one_cells : One Tryd.prog 22 (fun H l v => RowS H v l) (fun l => InP l ∧ InF l) := by
  intro H d cs hw hr
  cases d with
  | nils =>
    simp only [Rd] at hr
    exact ⟨(fun ps hh => by cases hh), [], _, hr, .inl ⟨rfl, rfl⟩, (fun x hx => by simp at hx), (fun x hx => by simp at hx)⟩
  | slc es cap =>
    simp only [WT, Tryd.underlying22, Option.some.injEq, TypeDesc.slice.injEq] at hw
    obtain ⟨e', rfl, h1, h2, h3⟩ := hw
    simp only [Rd] at hr
    obtain ⟨b, B, hc, hb, hlv, hro, hes, hrd⟩ := hr
    obtain ⟨l, h5, h6, h7⟩ := cells_list H es B.cells h3 hrd
    exact ⟨(fun ps hh => by cases hh), l, _, hc, .inr ⟨b, 0, cap, B, by rw [h5], by omega, hb, hlv, .inl hes, [], [], by simp [h6], rfl⟩, h7⟩
  | int k n => simp [WT, Tryd.underlying22] at hw
  | bool b => simp [WT, Tryd.underlying22] at hw
  | str s => simp [WT, Tryd.underlying22] at hw
  | agg ps => simp [WT, Tryd.underlying22] at hw
theorem matW (H : AHeap) (ps : List Dt) (cs : List AV) (hw : WTF Tryd.prog ps [3, 3, 22, 3, 3, 4]) (hr : RdL H ps cs) : ∃ (w h : Int) (v : AV) (x y : Int) (s : Bool) (l : List Ce), cs = mat w h v x y s ∧ RowS H v l ∧ InP l ∧ InF l := by
  obtain ⟨w, c1, ps, cs, rfl, rfl, _, hw, hr⟩ := fld_one (one_int Tryd.underlying3) hw hr
  obtain ⟨h, c1, ps, cs, rfl, rfl, _, hw, hr⟩ := fld_one (one_int Tryd.underlying3) hw hr
  obtain ⟨l, v, ps, cs, rfl, hv, hl, hw, hr⟩ := fld_one one_cells hw hr
  obtain ⟨x, c1, ps, cs, rfl, rfl, _, hw, hr⟩ := fld_one (one_int Tryd.underlying3) hw hr
  obtain ⟨y, c1, ps, cs, rfl, rfl, _, hw, hr⟩ := fld_one (one_int Tryd.underlying3) hw hr
  obtain ⟨s, c1, ps, cs, rfl, rfl, _, hw, hr⟩ := fld_one (one_bool Tryd.underlying4) hw hr
  obtain rfl := fld_none hw hr
  exact ⟨w, h, v, x, y, s, l, rfl, hv, hl⟩
def zref : List (Int × Int × Int) := [(0, 31, 0), (127, 159, 0), (768, 879, 0), (1155, 1161, 0), (1425, 1469, 0), (1552, 1562, 0), (1611, 1631, 0), (8203, 8207, 0), (8400, 8447, 0), (65024, 65039, 0), (65056, 65071, 0), (917760, 917999, 0), (4352, 4447, 2), (11904, 12350, 2), (12353, 13311, 2), (13312, 19903, 2), (19968, 40959, 2), (40960, 42191, 2), (44032, 55203, 2), (63744, 64255, 2), (65072, 65135, 2), (65280, 65376, 2), (65504, 65510, 2), (127744, 128591, 2), (129280, 129535, 2), (131072, 262141, 2)]
def refOfL (r : Int) : List (Int × Int × Int) → Int
  | [] => 1
  | e :: l => if e.1 ≤ r ∧ r ≤ e.2.1 then e.2.2 else refOfL r l
def refOf (r : Int) : Int := refOfL r zref
def zlo (i : Nat) : Int := zbounds.getD (2 * i) 0
def zhi (i : Nat) : Int := zbounds.getD (2 * i + 1) 0
theorem z_sort : ∀ i : Fin 26, zlo i.val ≤ zhi i.val ∧ (i.val + 1 < 26 → zhi i.val < zlo (i.val + 1)) := by decide +kernel
theorem z_le {i j : Nat} (hij : i < j) (hj : j < 26) : zhi i < zlo j := by
  induction j with
  | zero => omega
  | succ j ih =>
    have h1 := (z_sort ⟨j, by omega⟩).2 (by simpa using hj)
    have h2 := (z_sort ⟨j, by omega⟩).1
    simp only at h1 h2
    by_cases e : i = j
    · subst e; exact h1
    · have := ih (by omega) (by omega)
      omega
/-- what the search finds -/
theorem ofF_find : ∀ (f : Nat) (r : Int) (lo hi : Nat), hi - lo ≤ f → hi ≤ 26 → (∀ i, lo ≤ i → i < hi → zlo i ≤ r → r ≤ zhi i → ofF f r lo hi = ofB i) ∧ ((∀ i, lo ≤ i → i < hi → ¬ (zlo i ≤ r ∧ r ≤ zhi i)) → ofF f r lo hi = 1)
  | 0, r, lo, hi, h, _ => ⟨fun i h1 h2 => by omega, fun _ => rfl⟩
  | f + 1, r, lo, hi, h, h26 => by
    by_cases c : lo < hi
    · have e : ofF (f + 1) r lo hi = if r < zlo ((lo + hi) / 2) then ofF f r lo ((lo + hi) / 2) else if zhi ((lo + hi) / 2) < r then ofF f r ((lo + hi) / 2 + 1) hi else ofB ((lo + hi) / 2) := by
        conv => lhs; unfold ofF
        rw [if_pos c]; rfl
      rw [e]
      obtain ⟨m, hm⟩ : ∃ m, (lo + hi) / 2 = m := ⟨_, rfl⟩
      rw [hm]
      have hm1 : lo ≤ m ∧ m < hi := by omega
      by_cases c1 : r < zlo m
      · rw [if_pos c1]
        obtain ⟨a, b⟩ := ofF_find f r lo m (by omega) (by omega)
        refine ⟨fun i h1 h2 h3 h4 => ?_, fun hn => b fun i h1 h2 => hn i h1 (by omega)⟩
        refine a i h1 (Nat.lt_of_not_le fun hh => ?_) h3 h4
        by_cases e2 : m = i
        · subst e2; omega
        · have := z_le (i := m) (j := i) (by omega) (by omega)
          have := (z_sort ⟨m, by omega⟩).1
          simp only at this
          omega
      · rw [if_neg c1]
        by_cases c2 : zhi m < r
        · rw [if_pos c2]
          obtain ⟨a, b⟩ := ofF_find f r (m + 1) hi (by omega) h26
          refine ⟨fun i h1 h2 h3 h4 => ?_, fun hn => b fun i h1 h2 => hn i (by omega) h2⟩
          refine a i (Nat.lt_of_not_le fun hh => ?_) h2 h3 h4
          by_cases e2 : m = i
          · subst e2; omega
          · have := z_le (i := i) (j := m) (by omega) (by omega)
            omega
        · rw [if_neg c2]
          refine ⟨fun i h1 h2 h3 h4 => ?_, fun hn => absurd ⟨by omega, by omega⟩ (hn m hm1.1 hm1.2)⟩
          congr 1
          refine Nat.le_antisymm (Nat.le_of_not_lt fun hh => ?_) (Nat.le_of_not_lt fun hh => ?_)
          · have := z_le (i := i) (j := m) hh (by omega)
            omega
          · have := z_le (i := m) (j := i) hh (by omega)
            omega
    · exact ⟨fun i h1 h2 => by omega, fun _ => ofF_end _ _ c⟩
theorem zref_in : (zref.all fun e => (List.range 26).any fun i => decide (zlo i = e.1) && decide (zhi i = e.2.1) && decide (ofB i = e.2.2)) = true := by decide +kernel
theorem zref_all : ((List.range 26).all fun i => zref.any fun e => decide (zlo i = e.1) && decide (zhi i = e.2.1)) = true := by decide +kernel
theorem refOf_eq (r : Int) : refOf r = ofP r := by
  obtain ⟨a, b⟩ := ofF_find 26 r 0 26 (by omega) (by omega)
  have key : ∀ l : List (Int × Int × Int), (∀ e ∈ l, e ∈ zref) → (refOfL r l = ofP r ∨ (refOfL r l = 1 ∧ ∀ e ∈ l, ¬ (e.1 ≤ r ∧ r ≤ e.2.1))) := by
    intro l
    induction l with
    | nil => intro _; exact .inr ⟨rfl, fun e he => by simp at he⟩
    | cons e l ih =>
      intro hl
      unfold refOfL
      by_cases c : e.1 ≤ r ∧ r ≤ e.2.1
      · rw [if_pos c]
        left
        have h1 := List.all_eq_true.1 zref_in e (hl e (List.mem_cons_self ..))
        obtain ⟨i, hi, h2⟩ := List.any_eq_true.1 h1
        simp only [Bool.and_eq_true, decide_eq_true_eq] at h2
        obtain ⟨⟨h3, h4⟩, h5⟩ := h2
        rw [← h5]
        exact (a i (Nat.zero_le _) (by simpa using hi) (by omega) (by omega)).symm
      · rw [if_neg c]
        rcases ih (fun x hx => hl x (List.mem_cons_of_mem _ hx)) with h | ⟨h, h2⟩
        · exact .inl h
        · refine .inr ⟨h, fun x hx => ?_⟩
          rcases List.mem_cons.1 hx with rfl | hx
          · exact c
          · exact h2 x hx
  rcases key zref (fun e he => he) with h | ⟨h, h2⟩
  · exact h
  · show refOfL r zref = _
    rw [h]
    refine (b fun i _ hi hh => ?_).symm
    obtain ⟨e, he, h3⟩ := List.any_eq_true.1 (List.all_eq_true.1 zref_all i (by simpa using hi))
    simp only [Bool.and_eq_true, decide_eq_true_eq] at h3
    exact h2 e he (by omega)
def zrow (e : Int × Int × Int) : List AV := [.int .i32 e.1, .int .i32 e.2.1, .int .i32 e.2.2]
def zcells : List AV := zref.flatMap zrow
theorem bld3 (a b c : Int) : buildV [.int .i32 0, .int .i32 0, .int .i32 0] [(0, 1, .int .i32 a), (1, 1, .int .i32 b), (2, 1, .int .i32 c)] = some (.agg [.int .i32 a, .int .i32 b, .int .i32 c]) := rfl
def bsZ (ps : List (Nat × AV)) : Option (AObj × AKind) := LOp.run .nil (.bslice 3 26 [.int .i32 0, .int .i32 0, .int .i32 0] (ps.map fun p => (p.1, .c p.2)))
theorem run_bsZ (e : Env) (ps : List (Nat × Opd)) : LOp.run e (.bslice 3 26 [.int .i32 0, .int .i32 0, .int .i32 0] ps) = bsZ (ps.map fun p => (p.1, p.2.ev e)) := by
  simp only [bsZ, LOp.run, List.map_map]; rfl
set_option maxRecDepth 100000 in
theorem bsZ_ok : bsZ [(0, .agg [.int .i32 0, .int .i32 31, .int .i32 0]), (1, .agg [.int .i32 127, .int .i32 159, .int .i32 0]), (2, .agg [.int .i32 768, .int .i32 879, .int .i32 0]), (3, .agg [.int .i32 1155, .int .i32 1161, .int .i32 0]), (4, .agg [.int .i32 1425, .int .i32 1469, .int .i32 0]), (5, .agg [.int .i32 1552, .int .i32 1562, .int .i32 0]), (6, .agg [.int .i32 1611, .int .i32 1631, .int .i32 0]), (7, .agg [.int .i32 8203, .int .i32 8207, .int .i32 0]), (8, .agg [.int .i32 8400, .int .i32 8447, .int .i32 0]), (9, .agg [.int .i32 65024, .int .i32 65039, .int .i32 0]), (10, .agg [.int .i32 65056, .int .i32 65071, .int .i32 0]), (11, .agg [.int .i32 917760, .int .i32 917999, .int .i32 0]), (12, .agg [.int .i32 4352, .int .i32 4447, .int .i32 2]), (13, .agg [.int .i32 11904, .int .i32 12350, .int .i32 2]), (14, .agg [.int .i32 12353, .int .i32 13311, .int .i32 2]), (15, .agg [.int .i32 13312, .int .i32 19903, .int .i32 2]), (16, .agg [.int .i32 19968, .int .i32 40959, .int .i32 2]), (17, .agg [.int .i32 40960, .int .i32 42191, .int .i32 2]), (18, .agg [.int .i32 44032, .int .i32 55203, .int .i32 2]), (19, .agg [.int .i32 63744, .int .i32 64255, .int .i32 2]), (20, .agg [.int .i32 65072, .int .i32 65135, .int .i32 2]), (21, .agg [.int .i32 65280, .int .i32 65376, .int .i32 2]), (22, .agg [.int .i32 65504, .int .i32 65510, .int .i32 2]), (23, .agg [.int .i32 127744, .int .i32 128591, .int .i32 2]), (24, .agg [.int .i32 129280, .int .i32 129535, .int .i32 2]), (25, .agg [.int .i32 131072, .int .i32 262141, .int .i32 2])] = some (.row ⟨zcells, 0, false, true, 0⟩, .slc 26 26) := by kernel_rfl
theorem flatZ {α : Type} {f : α → List AV} {k : Nat} (hf : ∀ x, (f x).length = k) : ∀ {l : List α} {i : Nat} {x : α}, l[i]? = some x → ∀ {j : Nat} {v : AV}, (f x)[j]? = some v → (l.flatMap f)[i * k + j]? = some v
  | [], i, x, h, j, v, _ => by simp at h
  | a :: l, 0, x, h, j, v, hv => by
    simp at h; subst h
    have hj := (List.getElem?_eq_some_iff.1 hv).1
    rw [List.flatMap_cons, Nat.zero_mul, Nat.zero_add, List.getElem?_append_left hj]; exact hv
  | a :: l, i + 1, x, h, j, v, hv => by
    rw [List.flatMap_cons, List.getElem?_append_right (by rw [hf, Nat.add_mul]; omega), hf, show (i + 1) * k + j - k = i * k + j by rw [Nat.add_mul]; omega]
    exact flatZ hf (l := l) (by simpa using h) hv
theorem refOfL_cons (r : Int) (e : Int × Int × Int) (l : List (Int × Int × Int)) : refOfL r (e :: l) = if e.1 ≤ r ∧ r ≤ e.2.1 then e.2.2 else refOfL r l := rfl
set_option maxRecDepth 100000 in
set_option maxHeartbeats 8000000 in
theorem ofR_spec {Q : Prog} {H : AHeap} (ho : ∀ a, Q.orc 22 a = Option.none) (q : Q.fns 22 = some A22) (hf : Fr H) (r : Int) : FnTo Q 22 [.int .i32 r] H (fun v H' => v = .int .i64 (ofP r) ∧ Gr H H') := by
  refine fn_wp (ho _) q (by simp [A22]) ?_
  obtain ⟨H1, s1, g1, k1⟩ := (Hp.nil H hf).make zcells 3
  have gr := g1.gr k1
  simp only [A22, run_build, bld3, run_bsZ, bsZ_ok, s1, SX, reduceCtorEq, Nat.reduceEqDiff, ↓reduceIte, Int.reduceEq, Int.reduceLT, Int.reduceLE, Nat.reduceAdd]
  rw [← refOf_eq]
  have hlen : zref.length = 26 := rfl
  obtain ⟨I, hI⟩ : ∃ I : Nat → Env → AHeap → Prop, ∀ m e H', I m e H' ↔ (H' = H1 ∧ ∃ i : Nat, m = 26 - i ∧ i ≤ 26 ∧ refOfL r (zref.drop i) = refOf r ∧ Env.get e 0 = .int .i32 r ∧ Env.get e 3 = .slc H.next 0 26 26 ∧ Env.get e 4 = .int .i64 i) := ⟨_, fun _ _ _ => Iff.rfl⟩
  refine loop_by I 26 ?_ ?_
  · exact (hI _ _ _).2 ⟨rfl, 0, rfl, by omega, rfl, (by first | (simp only [SG, reduceCtorEq, Nat.reduceEqDiff, ↓reduceIte] <;> rfl) | rfl), (by first | (simp only [SG, reduceCtorEq, Nat.reduceEqDiff, ↓reduceIte] <;> rfl) | rfl), (by first | (simp only [SG, reduceCtorEq, Nat.reduceEqDiff, ↓reduceIte] <;> rfl) | rfl)⟩
  · intro m e H' hinv
    obtain ⟨hH, i, rfl, hi, hfind, e0, e3, e4⟩ := (hI _ _ _).1 hinv
    rw [hH]
    by_cases d : (i : Int) < 26
    · have d1 : decide ((i : Int) < ((26 : Nat) : Int)) = true := decide_eq_true d
      obtain ⟨x, hx⟩ : ∃ x, zref[i]? = some x := ⟨_, List.getElem?_eq_getElem (by omega)⟩
      have hdrop : zref.drop i = x :: zref.drop (i + 1) := by
        rw [List.drop_eq_getElem_cons (by omega), (List.getElem?_eq_some_iff.1 hx).2]
      rw [hdrop, refOfL_cons] at hfind
      have xi : idxSV 3 (.slc H.next 0 26 26) (.int .i64 (i : Int)) = some (.ptr H.next (i * 3)) := by
        simp only [idxSV, ROp.run, Opd.ev, inIndex, if_pos (show 0 ≤ (i : Int) ∧ (i : Int) < ((26 : Nat) : Int) by omega), Int.toNat_natCast, Nat.zero_add]
      have ld : ∀ (j : Nat) (v : AV), (zrow x)[j]? = some v → loadV H1 Option.none (.ptr H.next (i * 3 + j)) = some v := fun j v hv => g1.load (List.mem_cons_self ..) (flatZ (k := 3) (fun _ => rfl) hx hv)
      have a0 : idxAV 3 1 (.ptr H.next (i * 3)) (.int .i64 0) = some (.ptr H.next (i * 3 + 0 * 1)) := ixA (i := 0) (by omega) _
      have a1 : idxAV 3 1 (.ptr H.next (i * 3)) (.int .i64 1) = some (.ptr H.next (i * 3 + 1)) := ixA (i := 1) (by omega) _
      have a2 : idxAV 3 1 (.ptr H.next (i * 3)) (.int .i64 2) = some (.ptr H.next (i * 3 + 2)) := ixA (i := 2) (by omega) _
      have l0 : loadV H1 Option.none (.ptr H.next (i * 3 + 0 * 1)) = some (.int .i32 x.1) := ld 0 _ rfl
      have l1 := ld 1 (.int .i32 x.2.1) rfl
      have l2 := ld 2 (.int .i32 x.2.2) rfl
      have hv : x.2.2 = 0 ∨ x.2.2 = 2 := by
        have : ∀ e ∈ zref, e.2.2 = 0 ∨ e.2.2 = 2 := by decide
        exact this x (List.mem_of_getElem? hx)
      have wv : IntKind.wrap .i64 x.2.2 = x.2.2 := wrapI64 (by omega) (by omega)
      have w1 : IntKind.wrap .i64 ((i : Int) + 1) = ((i + 1 : Nat) : Int) := by rw [wrapI64 (by omega) (by omega)]; rfl
      have b0 : (1 : Nat) = 1 := rfl
      by_cases k1 : x.1 ≤ r
      · have q1 := decide_eq_true k1
        by_cases k2 : r ≤ x.2.1
        · have q2 := decide_eq_true k2
          rw [if_pos ⟨k1, k2⟩] at hfind
          rw [← hfind]
          simp only [e0, e3, e4, d1, xi, a0, a1, a2, l0, l1, l2, q1, q2, wv, lngV_slc, wantV_undef, SX, reduceCtorEq, Nat.reduceEqDiff, ↓reduceIte, Int.reduceEq, Int.reduceLT, Int.reduceLE, Nat.reduceAdd]
          exact gr
        · have q2 := decide_eq_false k2
          rw [if_neg (fun hh => k2 hh.2)] at hfind
          simp only [e0, e3, e4, d1, xi, a0, a1, l0, l1, q1, q2, w1, lngV_slc, wantV_undef, SX, reduceCtorEq, Nat.reduceEqDiff, ↓reduceIte, Int.reduceEq, Int.reduceLT, Int.reduceLE, Nat.reduceAdd]
          exact ⟨26 - (i + 1), by omega, (hI _ _ _).2 ⟨rfl, i + 1, rfl, by omega, hfind, (by simp only [SG, reduceCtorEq, Nat.reduceEqDiff, ↓reduceIte, e0] <;> rfl), (by simp only [SG, reduceCtorEq, Nat.reduceEqDiff, ↓reduceIte, e3] <;> rfl), (by first | (simp only [SG, reduceCtorEq, Nat.reduceEqDiff, ↓reduceIte] <;> rfl) | rfl)⟩⟩
      · have q1 := decide_eq_false k1
        rw [if_neg (fun hh => k1 hh.1)] at hfind
        simp only [e0, e3, e4, d1, xi, a0, l0, q1, w1, lngV_slc, wantV_undef, SX, reduceCtorEq, Nat.reduceEqDiff, ↓reduceIte, Int.reduceEq, Int.reduceLT, Int.reduceLE, Nat.reduceAdd]
        exact ⟨26 - (i + 1), by omega, (hI _ _ _).2 ⟨rfl, i + 1, rfl, by omega, hfind, (by simp only [SG, reduceCtorEq, Nat.reduceEqDiff, ↓reduceIte, e0] <;> rfl), (by simp only [SG, reduceCtorEq, Nat.reduceEqDiff, ↓reduceIte, e3] <;> rfl), (by first | (simp only [SG, reduceCtorEq, Nat.reduceEqDiff, ↓reduceIte] <;> rfl) | rfl)⟩⟩
    · have d1 : decide ((i : Int) < ((26 : Nat) : Int)) = false := decide_eq_false d
      obtain rfl : i = 26 := by omega
      have h1 : refOf r = 1 := by rw [← hfind]; rfl
      rw [h1]
      simp only [e0, e3, e4, d1, lngV_slc, SX, reduceCtorEq, Nat.reduceEqDiff, ↓reduceIte, Int.reduceEq, Int.reduceLT, Int.reduceLE, Nat.reduceAdd]
      exact gr
def whR : Bool → List Int → Bool
  | f, [] => !f
  | f, w :: t => if (decide (2 < w) || (f != decide (w = 2))) = true then false else whR (decide (w = 1)) t
theorem whR_eq : ∀ (l : List Int), (∀ w ∈ l, 0 ≤ w) → whR false l = wholeP l ∧ whR true l = (match l with | [] => false | v :: t => if v = 2 then wholeP t else false)
  | [], _ => ⟨rfl, rfl⟩
  | w :: t, h => by
    obtain ⟨i1, i2⟩ := whR_eq t (fun x hx => h x (List.mem_cons_of_mem _ hx))
    have h0 := h w (List.mem_cons_self ..)
    constructor
    · rw [wholeP_cons, whR]
      by_cases c0 : w = 0
      · subst c0; simp [i1]
      by_cases c1 : w = 1
      · subst c1
        rw [if_neg (show ¬ (1 : Int) = 0 by decide), if_neg (by decide), show decide ((1 : Int) = 1) = true from rfl, i2]
        simp only [true_and]
        cases t <;> rfl
      · have : (decide (2 < w) || (false != decide (w = 2))) = true := by
          by_cases c2 : w = 2
          · subst c2; rfl
          · rw [decide_eq_true (show 2 < w by omega)]; rfl
        rw [if_pos this, if_neg c0]
        cases t with
        | nil => rfl
        | cons v t' => simp only; rw [if_neg (fun hh => c1 hh.1)]
    · rw [whR]
      by_cases c2 : w = 2
      · subst c2; simp [i1]
      · have : (decide (2 < w) || (true != decide (w = 2))) = true := by rw [decide_eq_false c2]; simp
        rw [if_pos this]; simp [c2]
theorem bne_V (a b : Bool) : beqV true (.bool a) (.bool b) = some (.bool (a != b)) := by cases a <;> cases b <;> rfl
theorem beq_V (a b : Bool) : beqV false (.bool a) (.bool b) = some (.bool (decide (a = b))) := by cases a <;> cases b <;> rfl
/-- what the walks of the document's side lean on -/
structure PmQ (Q : Prog) : Prop where
  fq : PfQ Q
  dq : PdQ Q
  q8 : Q.fns 8 = some A8
  q10 : Q.fns 10 = some A10
  q12 : Q.fns 12 = some A12
  q14 : Q.fns 14 = some A14
  q20 : Q.fns 20 = some A20
  q21 : Q.fns 21 = some A21
  q22 : Q.fns 22 = some A22
  q23 : Q.fns 23 = some A23
  q27 : Q.fns 27 = some A27
  q33 : Q.fns 33 = some A33
  q34 : Q.fns 34 = some A34
  q40 : Q.fns 40 = some A40
  q45 : Q.fns 45 = some A45
  q46 : Q.fns 46 = some A46
  q47 : Q.fns 47 = some A47
  q48 : Q.fns 48 = some A48
section
variable {Q : Prog} (mq : PmQ Q) {H : AHeap}
include mq
theorem PmQ.ho (f : FuncId) (h : (Nat.beq f 5 || Nat.beq f 44) = false) (a : List AV) : Q.orc f a = Option.none := mq.dq.pq.ho f h a
set_option maxHeartbeats 4000000 in
theorem wholeR_spec {v : AV} {l : List Ce} (h : RowS H v l) (hl : l.length ≤ 1000000) (hw : InF l) : FnTo Q 20 [v] H (fun r H' => r = .bool (wholeP (ws l)) ∧ H' = H) := by
  rw [← (whR_eq (ws l) (fun w hh => by
    simp only [ws, List.mem_map] at hh
    obtain ⟨c, hc, rfl⟩ := hh
    exact (hw c hc).2)).1]
  refine fn_wp (mq.ho 20 rfl _) mq.q20 (by simp [A20]) ?_
  simp only [A20, SX, reduceCtorEq, Nat.reduceEqDiff, ↓reduceIte, Int.reduceEq, Int.reduceLT, Int.reduceLE, Nat.reduceAdd]
  obtain ⟨I, hI⟩ : ∃ I : Nat → Env → AHeap → Prop, ∀ m e H', I m e H' ↔ (H' = H ∧ ∃ (i : Nat) (f : Bool), m = l.length - i ∧ i ≤ l.length ∧ whR false (ws l) = whR f ((ws l).drop i) ∧ Env.get e 0 = v ∧ Env.get e 3 = .bool f ∧ Env.get e 4 = .int .i64 i) := ⟨_, fun _ _ _ => Iff.rfl⟩
  refine loop_by I l.length ?_ ?_
  · exact (hI _ _ _).2 ⟨rfl, 0, false, rfl, by omega, rfl, (by first | (simp only [SG, reduceCtorEq, Nat.reduceEqDiff, ↓reduceIte] <;> rfl) | rfl), (by first | (simp only [SG, reduceCtorEq, Nat.reduceEqDiff, ↓reduceIte] <;> rfl) | rfl), (by first | (simp only [SG, reduceCtorEq, Nat.reduceEqDiff, ↓reduceIte] <;> rfl) | rfl)⟩
  · intro m e H' hinv
    obtain ⟨hH, i, f, rfl, hi, hw, e0, e3, e4⟩ := (hI _ _ _).1 hinv
    rw [hH]
    have ln := h.len H
    by_cases d : (i : Int) < l.length
    · obtain ⟨c, hc⟩ : ∃ c, l[i]? = some c := ⟨_, List.getElem?_eq_getElem (by omega)⟩
      obtain ⟨b, p, ix, _, _, lw, _⟩ := h.cell hc .i64
      have w1 : IntKind.wrap .i64 ((i : Int) + 1) = ((i + 1 : Nat) : Int) := wrapNat (n := i + 1) (by omega)
      rw [ws_at hc, whR] at hw
      by_cases c2 : 2 < c.w
      · have d2 := decide_eq_true c2
        rw [if_pos (by rw [d2]; rfl)] at hw
        simp only [e0, e3, e4, ln, d, ix, lw, d2, hw, wantV_undef, SX, reduceCtorEq, Nat.reduceEqDiff, ↓reduceIte, Int.reduceEq, Int.reduceLT, Int.reduceLE, Nat.reduceAdd]
      · have d2 := decide_eq_false c2
        obtain ⟨g, hg⟩ : ∃ g, (f != decide (c.w = 2)) = g := ⟨_, rfl⟩
        have bv := bne_V f (decide (c.w = 2))
        rw [hg] at bv hw
        cases g with
        | true =>
          rw [if_pos (by simp)] at hw
          simp only [e0, e3, e4, ln, d, ix, lw, d2, run_beq, bv, hw, wantV_undef, SX, reduceCtorEq, Nat.reduceEqDiff, ↓reduceIte, Int.reduceEq, Int.reduceLT, Int.reduceLE, Nat.reduceAdd]
        | false =>
          rw [if_neg (by rw [d2]; simp)] at hw
          simp only [e0, e3, e4, ln, d, ix, lw, d2, run_beq, bv, w1, wantV_undef, SX, reduceCtorEq, Nat.reduceEqDiff, ↓reduceIte, Int.reduceEq, Int.reduceLT, Int.reduceLE, Nat.reduceAdd]
          exact ⟨l.length - (i + 1), by omega, (hI _ _ _).2 ⟨rfl, i + 1, _, rfl, by omega, hw, (by simp only [SG, reduceCtorEq, Nat.reduceEqDiff, ↓reduceIte, e0] <;> rfl), (by first | (simp only [SG, reduceCtorEq, Nat.reduceEqDiff, ↓reduceIte] <;> rfl) | rfl), (by first | (simp only [SG, reduceCtorEq, Nat.reduceEqDiff, ↓reduceIte] <;> rfl) | rfl)⟩⟩
    · have : (ws l).drop i = [] := List.drop_eq_nil_of_le (by rw [ws_len]; omega)
      rw [this] at hw
      simp only [e0, e3, e4, ln, d, hw, whR, SX, reduceCtorEq, Nat.reduceEqDiff, ↓reduceIte, Int.reduceEq, Int.reduceLT, Int.reduceLE, Nat.reduceAdd]
theorem char_spec (r : Int) : FnTo Q 21 [.int .i32 r] H (fun v H' => v = .bool (validP r) ∧ H' = H) := by
  refine fn_wp (mq.ho 21 rfl _) mq.q21 (by simp [A21]) ?_
  by_cases c0 : 0 ≤ r
  · have d0 : decide (r ≥ 0) = true := decide_eq_true c0
    by_cases c1 : r < 55296
    · simp only [A21, d0, decide_eq_true c1, wantV_undef, SX, reduceCtorEq, Nat.reduceEqDiff, ↓reduceIte, Int.reduceEq, Int.reduceLT, Int.reduceLE, Nat.reduceAdd]
      simp [validP, c0, c1]
    · by_cases c2 : 57343 < r
      · simp only [A21, d0, decide_eq_false c1, decide_eq_true c2, wantV_undef, SX, reduceCtorEq, Nat.reduceEqDiff, ↓reduceIte, Int.reduceEq, Int.reduceLT, Int.reduceLE, Nat.reduceAdd]
        simp [validP, c1, c2]
      · simp only [A21, d0, decide_eq_false c1, decide_eq_false c2, wantV_undef, SX, reduceCtorEq, Nat.reduceEqDiff, ↓reduceIte, Int.reduceEq, Int.reduceLT, Int.reduceLE, Nat.reduceAdd]
        simp [validP, c1, c2]
  · have d0 : decide (r ≥ 0) = false := decide_eq_false c0
    have c2 : ¬ 57343 < r := by omega
    simp only [A21, d0, decide_eq_false c2, wantV_undef, SX, reduceCtorEq, Nat.reduceEqDiff, ↓reduceIte, Int.reduceEq, Int.reduceLT, Int.reduceLE, Nat.reduceAdd]
    simp [validP, c0, c2]
theorem colorR_spec (k n : Int) (hf : Fr H) : FnTo Q 40 [.agg [.int .u8 k, .int .u32 n]] H (fun r H' => r = .bool (colP k n) ∧ Gr H H') := by
  refine fn_wp (mq.ho 40 rfl _) mq.q40 (by simp [A40]) ?_
  obtain ⟨H1, s1, h1, k1⟩ := (Hp.nil H hf).make [.int .u8 k, .int .u32 n] 2
  have l0 := h1.load (b := H.next) (k := 2) (List.mem_cons_self ..) (o := 0) (v := .int .u8 k) rfl
  have l1 := h1.load (b := H.next) (k := 2) (List.mem_cons_self ..) (o := 1) (v := .int .u32 n) rfl
  have g1 := h1.gr k1
  have bx : boxV (.agg [.int .u8 k, .int .u32 n]) = some (.row ⟨[.int .u8 k, .int .u32 n], 0, false, true, 0⟩, .ptr) := boxV_agg rfl
  by_cases c0 : k = 0
  · have d0 : decide (k = 0) = true := by simpa using c0
    simp only [A40, bx, s1, l0, l1, d0, SX, reduceCtorEq, Nat.reduceEqDiff, ↓reduceIte, Int.reduceEq, Int.reduceLT, Int.reduceLE, Nat.reduceAdd]
    exact ⟨by simp [colP, c0], g1⟩
  have d0 : decide (k = 0) = false := by simpa using c0
  by_cases c1 : k = 1
  · have d1 : decide (k = 1) = true := by simpa using c1
    simp only [A40, bx, s1, l0, l1, d0, d1, SX, reduceCtorEq, Nat.reduceEqDiff, ↓reduceIte, Int.reduceEq, Int.reduceLT, Int.reduceLE, Nat.reduceAdd]
    exact ⟨by simp [colP, c1], g1⟩
  have d1 : decide (k = 1) = false := by simpa using c1
  by_cases c2 : k = 2
  · have d2 : decide (k = 2) = true := by simpa using c2
    simp only [A40, bx, s1, l0, l1, d0, d1, d2, SX, reduceCtorEq, Nat.reduceEqDiff, ↓reduceIte, Int.reduceEq, Int.reduceLT, Int.reduceLE, Nat.reduceAdd]
    refine ⟨?_, g1⟩
    simp only [colP, c2]
    congr 1
    have : (n ≤ 16777215) ↔ (n < 16777216) := by omega
    simp [this]
  · have d2 : decide (k = 2) = false := by simpa using c2
    simp only [A40, bx, s1, l0, l1, d0, d1, d2, SX, reduceCtorEq, Nat.reduceEqDiff, ↓reduceIte, Int.reduceEq, Int.reduceLT, Int.reduceLE, Nat.reduceAdd]
    exact ⟨by simp [colP, c0, c1, c2], g1⟩
set_option maxHeartbeats 4000000 in
theorem attrR_spec (c : Ce) (hf : Fr H) : FnTo Q 23 [.agg c.at] H (fun r H' => r = .bool (attrP c) ∧ Gr H H') := by
  refine fn_wp (mq.ho 23 rfl _) mq.q23 (by simp [A23]) ?_
  obtain ⟨H1, s1, h1, k1⟩ := (Hp.nil H hf).make c.at 5
  have l0 := h1.load (List.mem_cons_self ..) (o := 0) (v := .int .u16 c.f) rfl
  have g1 := h1.gr k1
  have l1 : ∀ {H'}, Gr H1 H' → loadV H' (some 2) (.ptr H.next 1) = some (.agg [.int .u8 c.k1, .int .u32 c.n1]) := fun {H'} g => (h1.keep g.keep g.next g.fr).loadO (a := [.int .u16 c.f]) (x := [.int .u8 c.k1, .int .u32 c.n1]) (c := [.int .u8 c.k2, .int .u32 c.n2]) (k := 5) (List.mem_cons_self ..) rfl rfl
  have l3 : ∀ {H'}, Gr H1 H' → loadV H' (some 2) (.ptr H.next 3) = some (.agg [.int .u8 c.k2, .int .u32 c.n2]) := fun {H'} g => (h1.keep g.keep g.next g.fr).loadO (a := [.int .u16 c.f, .int .u8 c.k1, .int .u32 c.n1]) (x := [.int .u8 c.k2, .int .u32 c.n2]) (c := []) (k := 5) (List.mem_cons_self ..) rfl rfl
  have bc : boxV (.agg c.at) = some (.row ⟨c.at, 0, false, true, 0⟩, .ptr) := boxV_agg rfl
  by_cases c0 : c.f ≤ 255
  · have d0 : decide (c.f ≤ 255) = true := decide_eq_true c0
    simp only [A23, bc, s1, l0, d0, l1 (Gr.refl g1.fr), wantV_undef, SX, reduceCtorEq, Nat.reduceEqDiff, ↓reduceIte, Int.reduceEq, Int.reduceLT, Int.reduceLE, Nat.reduceAdd]
    refine (colorR_spec mq _ _ g1.fr).mono ?_
    rintro _ H2 ⟨rfl, g2⟩
    cases hc : colP c.k1 c.n1 with
    | true =>
      simp only [l3 g2, wantV_undef, SX, reduceCtorEq, Nat.reduceEqDiff, ↓reduceIte, Int.reduceEq, Int.reduceLT, Int.reduceLE, Nat.reduceAdd]
      refine (colorR_spec mq _ _ g2.fr).mono ?_
      rintro _ H3 ⟨rfl, g3⟩
      simp only [wantV_undef, SX, reduceCtorEq, Nat.reduceEqDiff, ↓reduceIte, Int.reduceEq, Int.reduceLT, Int.reduceLE, Nat.reduceAdd]
      exact ⟨by simp [attrP, c0, hc], (g1.trans g2).trans g3⟩
    | false =>
      simp only [wantV_undef, SX, reduceCtorEq, Nat.reduceEqDiff, ↓reduceIte, Int.reduceEq, Int.reduceLT, Int.reduceLE, Nat.reduceAdd]
      exact ⟨by simp [attrP, hc], g1.trans g2⟩
  · have d0 : decide (c.f ≤ 255) = false := decide_eq_false c0
    simp only [A23, bc, s1, l0, d0, wantV_undef, SX, reduceCtorEq, Nat.reduceEqDiff, ↓reduceIte, Int.reduceEq, Int.reduceLT, Int.reduceLE, Nat.reduceAdd]
    exact ⟨by simp [attrP, c0], g1⟩
set_option maxHeartbeats 4000000 in
theorem rowSame_spec {v w : AV} {l m : List Ce} (h1 : RowS H v l) (h2 : RowS H w m) (hl : l.length ≤ 1000000) : FnTo Q 25 [v, w] H (fun r H' => r = .bool (decide (l = m)) ∧ H' = H) := by
  refine fn_wp (mq.ho 25 rfl _) mq.dq.q25 (by simp [A25]) ?_
  have ln1 := h1.len H
  have ln2 := h2.len H
  by_cases c : l.length = m.length
  · have c' : (l.length : Int) = m.length := by omega
    simp only [A25, ln1, ln2, c', SX, reduceCtorEq, Nat.reduceEqDiff, ↓reduceIte, Int.reduceEq, Int.reduceLT, Int.reduceLE, Nat.reduceAdd]
    obtain ⟨I, hI⟩ : ∃ I : Nat → Env → AHeap → Prop, ∀ k e H', I k e H' ↔ (H' = H ∧ ∃ i : Nat, k = l.length - i ∧ i ≤ l.length ∧ l.take i = m.take i ∧ Env.get e 0 = v ∧ Env.get e 1 = w ∧ Env.get e 5 = .int .i64 i) := ⟨_, fun _ _ _ => Iff.rfl⟩
    refine loop_by I l.length ?_ ?_
    · exact (hI _ _ _).2 ⟨rfl, 0, rfl, by omega, by simp, (by first | (simp only [SG, reduceCtorEq, Nat.reduceEqDiff, ↓reduceIte] <;> rfl) | rfl), (by first | (simp only [SG, reduceCtorEq, Nat.reduceEqDiff, ↓reduceIte] <;> rfl) | rfl), (by first | (simp only [SG, reduceCtorEq, Nat.reduceEqDiff, ↓reduceIte] <;> rfl) | rfl)⟩
    · intro k e H' hinv
      obtain ⟨hH, i, rfl, hi, ht, e0, e1, e5⟩ := (hI _ _ _).1 hinv
      rw [hH]
      rw [c'] at ln1
      by_cases d : (i : Int) < m.length
      · obtain ⟨x, hx⟩ : ∃ x, l[i]? = some x := ⟨_, List.getElem?_eq_getElem (by omega)⟩
        obtain ⟨y, hy⟩ : ∃ y, m[i]? = some y := ⟨_, List.getElem?_eq_getElem (by omega)⟩
        obtain ⟨b, p, ix, l7, _⟩ := h1.cell hx .i64
        obtain ⟨b', p', ix', l7', _⟩ := h2.cell hy .i64
        have w1 : IntKind.wrap .i64 ((i : Int) + 1) = ((i + 1 : Nat) : Int) := wrapNat (n := i + 1) (by omega)
        have sq := seq7d x y
        by_cases z : x = y
        · have dz := decide_eq_true z
          simp only [e0, e1, e5, ln1, d, ix, l7, ix', l7', run_seq, sq, dz, w1, SX, reduceCtorEq, Nat.reduceEqDiff, ↓reduceIte, Int.reduceEq, Int.reduceLT, Int.reduceLE, Nat.reduceAdd]
          exact ⟨l.length - (i + 1), by omega, (hI _ _ _).2 ⟨rfl, i + 1, rfl, by omega, by rw [List.take_add_one, List.take_add_one, ht, hx, hy, z], (by simp only [SG, reduceCtorEq, Nat.reduceEqDiff, ↓reduceIte, e0] <;> rfl), (by simp only [SG, reduceCtorEq, Nat.reduceEqDiff, ↓reduceIte, e1] <;> rfl), (by first | (simp only [SG, reduceCtorEq, Nat.reduceEqDiff, ↓reduceIte] <;> rfl) | rfl)⟩⟩
        · have dz := decide_eq_false z
          have ne : decide (l = m) = false := decide_eq_false fun e => z (by rw [e, hy] at hx; exact (Option.some.inj hx).symm)
          simp only [e0, e1, e5, ln1, d, ix, l7, ix', l7', run_seq, sq, dz, ne, SX, reduceCtorEq, Nat.reduceEqDiff, ↓reduceIte, Int.reduceEq, Int.reduceLT, Int.reduceLE, Nat.reduceAdd]
      · have eqd : decide (l = m) = true := decide_eq_true (by
          have a1 : l.take i = l := List.take_of_length_le (by omega)
          have a2 : m.take i = m := List.take_of_length_le (by omega)
          rw [← a1, ht, a2])
        simp only [e0, e1, e5, ln1, d, eqd, SX, reduceCtorEq, Nat.reduceEqDiff, ↓reduceIte, Int.reduceEq, Int.reduceLT, Int.reduceLE, Nat.reduceAdd]
  · have c' : ¬ (l.length : Int) = m.length := by omega
    have ne : decide (l = m) = false := decide_eq_false fun e => c (by rw [e])
    simp only [A25, ln1, ln2, c', ne, SX, reduceCtorEq, Nat.reduceEqDiff, ↓reduceIte, Int.reduceEq, Int.reduceLT, Int.reduceLE, Nat.reduceAdd]
end
def docL (w h : Nat) (l : List Ce) : List (List Ce) := (List.range h).map fun j => lineP l w j
theorem docL_len (w h : Nat) (l : List Ce) : (docL w h l).length = h := by simp [docL]
theorem docL_at {w h : Nat} {l : List Ce} {j : Nat} (hj : j < h) : (docL w h l)[j]? = some (lineP l w j) := by
  simp [docL, hj]
theorem line_len {w h j : Nat} {l : List Ce} (hl : l.length = w * h) (hj : j < h) : (lineP l w j).length = w := by
  have le1 : (j + 1) * w ≤ w * h := by rw [Nat.mul_comm w h]; exact Nat.mul_le_mul_right _ (by omega)
  unfold lineP
  rw [List.length_drop, List.length_take, Nat.succ_mul]
  rw [Nat.succ_mul] at le1
  omega
theorem RowS.rgrow {H H' : AHeap} (hf : Fr H) (g : Gr H H') (x : List Ce) (c : AV) (h : RowR H x c) : RowR H' x c := RowS.grow h hf g
theorem InF.line {l : List Ce} (h : InF l) (w y : Nat) : InF (lineP l w y) := fun c hc => h c (List.mem_of_mem_take (List.mem_of_mem_drop hc))
theorem rightM_good {w h : Nat} {x y : Int} {l : List Ce} (hw : 1 ≤ w ∧ w ≤ 400) (hh : 1 ≤ h ∧ h ≤ 400) (hl : l.length = w * h) : rightM w h x y l = (inP w h x y && linesP w h l) := by
  have sz : sizeP w h = true := by
    unfold sizeP
    rw [decide_eq_true (show (1 : Int) ≤ w by omega), decide_eq_true (show (w : Int) ≤ 400 by omega), decide_eq_true (show (1 : Int) ≤ h by omega), decide_eq_true (show (h : Int) ≤ 400 by omega)]; rfl
  have e : decide ((l.length : Int) = (w : Int) * (h : Int)) = true := decide_eq_true (by rw [hl, Int.natCast_mul])
  unfold rightM
  rw [sz, e, Int.toNat_natCast, Int.toNat_natCast]; simp
section
variable {Q : Prog} (mq : PmQ Q) {H : AHeap}
include mq
set_option maxHeartbeats 8000000 in
theorem givenBad_spec (hf : Fr H) {w hh x y : Int} {s : Bool} {v : AV} {l : List Ce} (h : RowS H v l) (hb : ¬ (sizeP w hh = true ∧ (l.length : Int) = w * hh)) : FnTo Q 6 [.agg (mat w hh v x y s)] H (fun r H' => r = .agg (mat 0 hh .nils x y s) ∧ Gr H H') := by
  refine fn_wp (mq.ho 6 rfl _) mq.dq.q6 (by simp [A6]) ?_
  have ho : (mat w hh v x y s).all AV.one = true := mat_one h.one
  obtain ⟨Z, hZ⟩ : ∃ Z : List AV, [AV.int .i64 0, .int .i64 0, .nils, .int .i64 0, .int .i64 0, .bool false] = Z := ⟨_, rfl⟩
  have hZl : Z.length = 6 := by rw [← hZ]; rfl
  obtain ⟨H0, s0, g0, k0⟩ := (Hp.nil H hf).make (mat w hh v x y s) 6
  obtain ⟨q, hq⟩ : ∃ q, H.next = q := ⟨_, rfl⟩
  rw [hq] at g0 k0
  obtain ⟨H1, s1, g1, k1⟩ := g0.make Z 6
  obtain ⟨t, ht⟩ : ∃ t, H0.next = t := ⟨_, rfl⟩
  rw [ht] at g1
  have lq : ∀ {H' : AHeap} {L : List Cel}, Hp q H' L → (⟨q, 6, mat w hh v x y s⟩ : Cel) ∈ L → loadV H' Option.none (.ptr q 0) = some (.int .i64 w) ∧ loadV H' Option.none (.ptr q 1) = some (.int .i64 hh) ∧ loadV H' Option.none (.ptr q 2) = some v ∧ loadV H' Option.none (.ptr q 3) = some (.int .i64 x) ∧ loadV H' Option.none (.ptr q 4) = some (.int .i64 y) ∧ loadV H' Option.none (.ptr q 5) = some (.bool s) := fun g hm =>
    ⟨g.load hm (o := 0) rfl, g.load hm (o := 1) rfl, g.load hm (o := 2) rfl, g.load hm (o := 3) rfl, g.load hm (o := 4) rfl, g.load hm (o := 5) rfl⟩
  obtain ⟨a0, a1, a2, a3, a4, a5⟩ := lq g1 (by simp)
  obtain ⟨H2, s2, g2, k2⟩ := g1.make Z 6
  obtain ⟨u, hu⟩ : ∃ u, H1.next = u := ⟨_, rfl⟩
  rw [hu] at g2
  obtain ⟨H3, s3, g3, k3, _⟩ := g2.storeN (n := 6) (new := mat w hh .nils x y s) hZl rfl rfl
  obtain ⟨b0, b1, b2, b3, b4, b5⟩ := lq g3 (by simp)
  have bd : buildV Z [(0, 1, .int .i64 w), (1, 1, .int .i64 hh), (3, 1, .int .i64 x), (4, 1, .int .i64 y), (5, 1, .bool s)] = some (.agg (mat w hh .nils x y s)) := by rw [← hZ]; rfl
  obtain ⟨H4, s4, g4, k4, _⟩ := g3.store (o := 0) (v := .int .i64 0) rfl (by simp [mat])
  have g4 : Hp q H4 (⟨u, 6, mat 0 hh .nils x y s⟩ :: ⟨t, 6, Z⟩ :: [⟨q, 6, mat w hh v x y s⟩]) := g4
  have l6 := g4.loadN (b := u) (k := 6) (cs := mat 0 hh .nils x y s) (List.mem_cons_self ..) (n := 6) rfl
  obtain ⟨H5, s5, g5, k5, _⟩ := (g4.perm (List.Perm.swap _ _ _)).storeN (b := t) (n := 6) (new := mat 0 hh .nils x y s) hZl rfl rfl
  have l7 := g5.loadN (b := t) (k := 6) (cs := mat 0 hh .nils x y s) (List.mem_cons_self ..) (n := 6) rfl
  have gr : Gr H H5 := ⟨by rw [hq]; exact k0.trans (k1.trans (k2.trans (k3.trans (k4.trans k5)))), by rw [hq]; exact g5.bn, g5.fr⟩
  by_cases c1 : w < 1
  · simp only [A6, hZ, boxV_agg ho, s0, hq, run_allocL, s1, ht, a0, a1, a3, a4, a5, run_build, bd, s2, hu, s3, b0, b1, b2, c1, s4, l6, s5, resCell, l7, wantV_undef, SX, reduceCtorEq, Nat.reduceEqDiff, ↓reduceIte, Int.reduceEq, Int.reduceLT, Int.reduceLE, Nat.reduceAdd]
    exact gr
  by_cases c2 : hh < 1
  · simp only [A6, hZ, boxV_agg ho, s0, hq, run_allocL, s1, ht, a0, a1, a3, a4, a5, run_build, bd, s2, hu, s3, b0, b1, b2, c1, c2, s4, l6, s5, resCell, l7, wantV_undef, SX, reduceCtorEq, Nat.reduceEqDiff, ↓reduceIte, Int.reduceEq, Int.reduceLT, Int.reduceLE, Nat.reduceAdd]
    exact gr
  by_cases c3 : 400 < w
  · simp only [A6, hZ, boxV_agg ho, s0, hq, run_allocL, s1, ht, a0, a1, a3, a4, a5, run_build, bd, s2, hu, s3, b0, b1, b2, c1, c2, c3, s4, l6, s5, resCell, l7, wantV_undef, SX, reduceCtorEq, Nat.reduceEqDiff, ↓reduceIte, Int.reduceEq, Int.reduceLT, Int.reduceLE, Nat.reduceAdd]
    exact gr
  by_cases c4 : 400 < hh
  · simp only [A6, hZ, boxV_agg ho, s0, hq, run_allocL, s1, ht, a0, a1, a3, a4, a5, run_build, bd, s2, hu, s3, b0, b1, b2, c1, c2, c3, c4, s4, l6, s5, resCell, l7, wantV_undef, SX, reduceCtorEq, Nat.reduceEqDiff, ↓reduceIte, Int.reduceEq, Int.reduceLT, Int.reduceLE, Nat.reduceAdd]
    exact gr
  have c5 : ¬ (l.length : Int) = w * hh := fun e => hb ⟨by
    unfold sizeP
    rw [decide_eq_true (show (1 : Int) ≤ w by omega), decide_eq_true (show w ≤ 400 by omega), decide_eq_true (show (1 : Int) ≤ hh by omega), decide_eq_true (show hh ≤ 400 by omega)]; rfl, e⟩
  have ln := h.len H3
  have wm : IntKind.wrap .i64 (w * hh) = w * hh := by
    obtain ⟨a, rfl⟩ : ∃ a : Nat, w = a := ⟨w.toNat, by omega⟩
    obtain ⟨b, rfl⟩ : ∃ b : Nat, hh = b := ⟨hh.toNat, by omega⟩
    have : a * b ≤ 400 * 400 := Nat.mul_le_mul (by omega) (by omega)
    rw [← Int.natCast_mul]; exact wrapNat (by omega)
  simp only [A6, hZ, boxV_agg ho, s0, hq, run_allocL, s1, ht, a0, a1, a3, a4, a5, run_build, bd, s2, hu, s3, b0, b1, b2, c1, c2, c3, c4, ln, wm, c5, s4, l6, s5, resCell, l7, wantV_undef, SX, reduceCtorEq, Nat.reduceEqDiff, ↓reduceIte, Int.reduceEq, Int.reduceLT, Int.reduceLE, Nat.reduceAdd]
  exact gr
end
end Go.Proofs.YtfcnjfbnffijhaaDoor.AM
