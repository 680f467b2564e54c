/-
  The document: which frames may be, what they are told beyond, how many cells are unlike; Between.
-/
import Derived.Test.YtfcnjfbnffijhaaDoorPtX3
set_option linter.unusedVariables false
set_option linter.unusedSimpArgs false
namespace Go.Proofs.YtfcnjfbnffijhaaDoor.AM
open Go
section
variable {Q : Prog} (mq : PmQ Q) {H : AHeap}
include mq
set_option maxHeartbeats 16000000 in
theorem rowR_wp (hf : Fr H) {v : AV} {l : List Ce} (h : RowS H v l) (hl : l.length ≤ 1000000) (hwb : wholeP (ws l) = true) {q : Nat} (lw : ∀ {H'}, Gr H H' → loadV H' Option.none (.ptr q 0) = some (.int .i64 l.length)) {e : Env} (e1 : Env.get e 1 = .ptr q 0) {y : Int} (e3 : Env.get e 3 = .int .i64 y) (e4 : Env.get e 4 = v) {K : PostC}
    (kf : ∀ e' H', rightP l = false → Gr H H' → Env.get e' 2 = .bool false → K .ret e' H') (kn : ∀ e' H', rightP l = true → Gr H H' → Env.get e' 1 = .ptr q 0 → Env.get e' 3 = .int .i64 y → K .normal e' H') : ACode.wp Q A8_row K e H := by
  have hrp : rightP l = (List.range l.length).all (okF l) := by unfold rightP; rw [hwb]; rfl
  simp only [A8_row, SX, reduceCtorEq, Nat.reduceEqDiff, ↓reduceIte, Int.reduceEq, Int.reduceLT, Int.reduceLE, Nat.reduceAdd]
  obtain ⟨I, hI⟩ : ∃ I : Nat → Env → AHeap → Prop, ∀ m e H', I m e H' ↔ (∃ i : Nat, m = l.length - i ∧ i ≤ l.length ∧ Gr H H' ∧ (∀ j < i, okF l j = true) ∧ Env.get e 1 = .ptr q 0 ∧ Env.get e 3 = .int .i64 y ∧ Env.get e 4 = v ∧ Env.get e 5 = .int .i64 i) := ⟨_, fun _ _ _ => Iff.rfl⟩
  refine loop_by I l.length ?_ ?_
  · exact (hI _ _ _).2 ⟨0, rfl, by omega, Gr.refl hf, fun j hj => by omega, (by simp only [SG, reduceCtorEq, Nat.reduceEqDiff, ↓reduceIte, e1] <;> rfl), (by simp only [SG, reduceCtorEq, Nat.reduceEqDiff, ↓reduceIte, e3] <;> rfl), (by simp only [SG, reduceCtorEq, Nat.reduceEqDiff, ↓reduceIte, e4] <;> rfl), (by first | (simp only [SG, reduceCtorEq, Nat.reduceEqDiff, ↓reduceIte] <;> rfl) | rfl)⟩
  · clear e1 e3 e4
    intro m e H1 hinv
    obtain ⟨i, rfl, hi, g1, hok, e1, e3, e4, e5⟩ := (hI _ _ _).1 hinv
    have lw1 := lw g1
    by_cases d : (i : Int) < l.length
    · obtain ⟨c, hc⟩ : ∃ c, l[i]? = some c := ⟨_, List.getElem?_eq_getElem (by omega)⟩
      have h1 := h.grow hf g1
      obtain ⟨b, p, ix, l7, _, _, _⟩ := h1.cell hc .i64
      have w1 : IntKind.wrap .i64 ((i : Int) + 1) = ((i + 1 : Nat) : Int) := wrapNat (n := i + 1) (by omega)
      obtain ⟨H2, s2, g2, k2⟩ := (Hp.nil H1 g1.fr).make [.int .i32 0, .int .u8 0, .int .u16 0, .int .u8 0, .int .u32 0, .int .u8 0, .int .u32 0] 7
      obtain ⟨t, ht'⟩ : ∃ t, H1.next = t := ⟨_, rfl⟩
      obtain ⟨H3, s3, g3, k3, _⟩ := g2.storeN (n := 7) (new := c.cs) rfl rfl rfl
      rw [ht'] at s3
      have gg : Gr H H3 := g1.trans (g3.gr (k2.trans k3))
      have h3 := h.grow hf gg
      have lr : ∀ {H' : AHeap}, Gr H3 H' → loadV H' Option.none (.ptr t 0) = some (.int .i32 c.r) ∧ loadV H' Option.none (.ptr t 1) = some (.int .u8 c.w) ∧ loadV H' (some 5) (.ptr t 2) = some (.agg c.at) := fun {H'} g => by
        have g' := g3.keep g.keep g.next g.fr
        rw [ht'] at g'
        exact ⟨g'.load (List.mem_cons_self ..) (o := 0) rfl, g'.load (List.mem_cons_self ..) (o := 1) rfl, g'.loadO (a := [.int .i32 c.r, .int .u8 c.w]) (x := c.at) (c := []) (k := 7) (by simp [Ce.cs]) rfl rfl⟩
      obtain ⟨lr0, lr1, lr2⟩ := lr (Gr.refl g3.fr)
      have okE : okF l i = okC (l.getD (i - 1) blankC) c := by unfold okF; rw [hc]
      have bad : okF l i = false → rightP l = false := fun hh => by
        rw [hrp]
        cases hq : (List.range l.length).all (okF l) with
        | false => rfl
        | true => rw [(all_range _ _).1 hq i (by omega)] at hh; cases hh
      have next : okF l i = true → ∀ (e' : Env) (H' : AHeap), Gr H3 H' → Env.get e' 1 = .ptr q 0 → Env.get e' 3 = .int .i64 y → Env.get e' 4 = v → Env.get e' 5 = .int .i64 ((i + 1 : Nat) : Int) → ∃ m', m' < l.length - i ∧ I m' e' H' := fun hh e' H' g a1 a3 a4 a5 =>
        ⟨l.length - (i + 1), by omega, (hI _ _ _).2 ⟨i + 1, rfl, by omega, gg.trans g, fun j hj => by
          by_cases hji : j = i
          · rw [hji]; exact hh
          · exact hok j (by omega), a1, a3, a4, a5⟩⟩
      by_cases c2 : c.w = 2
      · have d2 := decide_eq_true c2
        have d1 : decide (c.w = 1) = false := decide_eq_false (by omega)
        have i0 : 0 < i := Nat.pos_of_ne_zero fun hz => by
          subst hz
          refine whole_first hwb ?_
          have := ws_at hc
          rw [List.drop_zero] at this
          rw [this]; simp [c2]
        obtain ⟨u, hq⟩ : ∃ u, l[i - 1]? = some u := ⟨_, List.getElem?_eq_getElem (by omega)⟩
        obtain ⟨b', p', ix', _, lq, _, lqa⟩ := h3.cell hq .i64
        have wm : IntKind.wrap .i64 ((i : Int) - 1) = ((i - 1 : Nat) : Int) := by rw [wrapI64 (by omega) (by omega)]; omega
        have hgd : l.getD (i - 1) blankC = u := by rw [List.getD_eq_getElem?_getD, hq]; rfl
        rw [hgd] at okE
        unfold okC at okE
        rw [if_pos c2] at okE
        by_cases cr : c.r = u.r
        · have dr := decide_eq_true cr
          have sq := seq5 c u
          by_cases ca : sameA c u
          · have da := decide_eq_true ca
            rw [dr, da] at okE
            rw [da] at sq
            simp only [e1, e3, e4, e5, lw1, d, ix, l7, run_allocL, s2, ht', s3, lr0, lr1, lr2, d1, d2, wm, ix', lq, lqa, dr, run_seq, sq, w1, wantV_undef, SX, reduceCtorEq, Nat.reduceEqDiff, ↓reduceIte, Int.reduceEq, Int.reduceLT, Int.reduceLE, Nat.reduceAdd]
            exact next okE _ _ (Gr.refl g3.fr) (by simp only [SG, reduceCtorEq, Nat.reduceEqDiff, ↓reduceIte, e1] <;> rfl) (by simp only [SG, reduceCtorEq, Nat.reduceEqDiff, ↓reduceIte, e3] <;> rfl) (by simp only [SG, reduceCtorEq, Nat.reduceEqDiff, ↓reduceIte, e4] <;> rfl) (by first | (simp only [SG, reduceCtorEq, Nat.reduceEqDiff, ↓reduceIte] <;> rfl) | rfl)
          · have da := decide_eq_false ca
            rw [dr, da] at okE
            rw [da] at sq
            simp only [e1, e3, e4, e5, lw1, d, ix, l7, run_allocL, s2, ht', s3, lr0, lr1, lr2, d1, d2, wm, ix', lq, lqa, dr, run_seq, sq, w1, wantV_undef, SX, reduceCtorEq, Nat.reduceEqDiff, ↓reduceIte, Int.reduceEq, Int.reduceLT, Int.reduceLE, Nat.reduceAdd]
            exact kf _ _ (bad okE) gg (by first | (simp only [SG, reduceCtorEq, Nat.reduceEqDiff, ↓reduceIte] <;> rfl) | rfl)
        · have dr := decide_eq_false cr
          rw [dr] at okE
          simp only [e1, e3, e4, e5, lw1, d, ix, l7, run_allocL, s2, ht', s3, lr0, lr1, lr2, d1, d2, wm, ix', lq, lqa, dr, w1, wantV_undef, SX, reduceCtorEq, Nat.reduceEqDiff, ↓reduceIte, Int.reduceEq, Int.reduceLT, Int.reduceLE, Nat.reduceAdd]
          exact kf _ _ (bad okE) gg (by first | (simp only [SG, reduceCtorEq, Nat.reduceEqDiff, ↓reduceIte] <;> rfl) | rfl)
      · have d2 := decide_eq_false c2
        unfold okC at okE
        rw [if_neg c2] at okE
        have rest : ∀ (n : Int), (n = if c.w = 1 then 2 else 1) → ∀ (e' : Env), Env.get e' 1 = .ptr q 0 → Env.get e' 3 = .int .i64 y → Env.get e' 4 = v → Env.get e' 5 = .int .i64 i → Env.get e' 6 = .ptr t 0 → Env.get e' 7 = .int .i64 n →
            ∀ K : PostC, (∀ (e2 : Env) (H' : AHeap), rightP l = false → Gr H H' → Env.get e2 2 = .bool false → K .ret e2 H') → (∀ (e2 : Env) (H' : AHeap), okF l i = true → Gr H3 H' → Env.get e2 1 = .ptr q 0 → Env.get e2 3 = .int .i64 y → Env.get e2 4 = v → Env.get e2 5 = .int .i64 i → K .normal e2 H') → ACode.wp Q A8_sw K e' H3 := by
          intro n hn e' e1 e3 e4 e5 e6 e7 K kf kn
          simp only [A8_sw, e1, e3, e4, e5, e6, e7, lr0, lr1, lr2, wantV_undef, SX, reduceCtorEq, Nat.reduceEqDiff, ↓reduceIte, Int.reduceEq, Int.reduceLT, Int.reduceLE, Nat.reduceAdd]
          refine (char_spec mq c.r).mono ?_
          rintro _ H4 ⟨rfl, rfl⟩
          obtain ⟨vb, hvb⟩ : ∃ b, validP c.r = b := ⟨_, rfl⟩
          rw [hvb] at okE
          cases vb with
          | false =>
            rw [hvb]
            simp only [wantV_undef, SX, reduceCtorEq, Nat.reduceEqDiff, ↓reduceIte, Int.reduceEq, Int.reduceLT, Int.reduceLE, Nat.reduceAdd]
            exact kf _ _ (bad (by rw [okE]; simp)) gg (by first | (simp only [SG, reduceCtorEq, Nat.reduceEqDiff, ↓reduceIte] <;> rfl) | rfl)
          | true =>
            rw [hvb]
            simp only [e1, e3, e4, e5, e6, e7, lr0, lr1, lr2, wantV_undef, SX, reduceCtorEq, Nat.reduceEqDiff, ↓reduceIte, Int.reduceEq, Int.reduceLT, Int.reduceLE, Nat.reduceAdd]
            refine (ofR_spec (fun a => mq.ho 22 rfl a) mq.q22 g3.fr c.r).mono ?_
            rintro _ H5 ⟨rfl, g5⟩
            obtain ⟨lr0, lr1, lr2⟩ := lr g5
            by_cases cn : ofP c.r = n
            · have dn := decide_eq_true cn
              simp only [e1, e3, e4, e5, e6, e7, dn, lr0, lr1, lr2, wantV_undef, SX, reduceCtorEq, Nat.reduceEqDiff, ↓reduceIte, Int.reduceEq, Int.reduceLT, Int.reduceLE, Nat.reduceAdd]
              refine (attrR_spec mq c g5.fr).mono ?_
              rintro _ H6 ⟨rfl, g6⟩
              obtain ⟨ab, hab⟩ : ∃ b, attrP c = b := ⟨_, rfl⟩
              rw [hab] at okE
              cases ab with
              | false =>
                rw [hab]
                simp only [wantV_undef, SX, reduceCtorEq, Nat.reduceEqDiff, ↓reduceIte, Int.reduceEq, Int.reduceLT, Int.reduceLE, Nat.reduceAdd]
                exact kf _ _ (bad (by rw [okE]; simp)) ((gg.trans g5).trans g6) (by first | (simp only [SG, reduceCtorEq, Nat.reduceEqDiff, ↓reduceIte] <;> rfl) | rfl)
              | true =>
                rw [hab]
                simp only [e1, e3, e4, e5, wantV_undef, SX, reduceCtorEq, Nat.reduceEqDiff, ↓reduceIte, Int.reduceEq, Int.reduceLT, Int.reduceLE, Nat.reduceAdd]
                exact kn _ _ (by rw [okE, ← hn, dn]; rfl) (g5.trans g6) (by simp only [SG, reduceCtorEq, Nat.reduceEqDiff, ↓reduceIte, e1] <;> rfl) (by simp only [SG, reduceCtorEq, Nat.reduceEqDiff, ↓reduceIte, e3] <;> rfl) (by simp only [SG, reduceCtorEq, Nat.reduceEqDiff, ↓reduceIte, e4] <;> rfl) (by simp only [SG, reduceCtorEq, Nat.reduceEqDiff, ↓reduceIte, e5] <;> rfl)
            · have dn := decide_eq_false cn
              simp only [e1, e3, e4, e5, e6, e7, dn, wantV_undef, SX, reduceCtorEq, Nat.reduceEqDiff, ↓reduceIte, Int.reduceEq, Int.reduceLT, Int.reduceLE, Nat.reduceAdd]
              exact kf _ _ (bad (by rw [okE, ← hn, dn]; simp)) (gg.trans g5) (by first | (simp only [SG, reduceCtorEq, Nat.reduceEqDiff, ↓reduceIte] <;> rfl) | rfl)
        by_cases c1 : c.w = 1
        · have d1 := decide_eq_true c1
          simp only [e1, e3, e4, e5, lw1, d, ix, l7, run_allocL, s2, ht', s3, lr1, d1, SX, reduceCtorEq, Nat.reduceEqDiff, ↓reduceIte, Int.reduceEq, Int.reduceLT, Int.reduceLE, Nat.reduceAdd]
          refine rest 2 (by rw [if_pos c1]) _ (by simp only [SG, reduceCtorEq, Nat.reduceEqDiff, ↓reduceIte, e1] <;> rfl) (by simp only [SG, reduceCtorEq, Nat.reduceEqDiff, ↓reduceIte, e3] <;> rfl) (by simp only [SG, reduceCtorEq, Nat.reduceEqDiff, ↓reduceIte, e4] <;> rfl) (by simp only [SG, reduceCtorEq, Nat.reduceEqDiff, ↓reduceIte, e5] <;> rfl) (by first | (simp only [SG, reduceCtorEq, Nat.reduceEqDiff, ↓reduceIte] <;> rfl) | rfl) (by first | (simp only [SG, reduceCtorEq, Nat.reduceEqDiff, ↓reduceIte] <;> rfl) | rfl) _ ?_ ?_
          · intro e2 H' hb g a2
            simp only [SX, reduceCtorEq, Nat.reduceEqDiff, ↓reduceIte, Int.reduceEq, Int.reduceLT, Int.reduceLE, Nat.reduceAdd]
            exact kf _ _ hb g a2
          · intro e2 H' hb g a1 a3 a4 a5
            simp only [a1, a3, a4, a5, w1, SX, reduceCtorEq, Nat.reduceEqDiff, ↓reduceIte, Int.reduceEq, Int.reduceLT, Int.reduceLE, Nat.reduceAdd]
            exact next hb _ _ g (by simp only [SG, reduceCtorEq, Nat.reduceEqDiff, ↓reduceIte, a1] <;> rfl) (by simp only [SG, reduceCtorEq, Nat.reduceEqDiff, ↓reduceIte, a3] <;> rfl) (by simp only [SG, reduceCtorEq, Nat.reduceEqDiff, ↓reduceIte, a4] <;> rfl) (by first | (simp only [SG, reduceCtorEq, Nat.reduceEqDiff, ↓reduceIte] <;> rfl) | rfl)
        · have d1 := decide_eq_false c1
          simp only [e1, e3, e4, e5, lw1, d, ix, l7, run_allocL, s2, ht', s3, lr1, d1, d2, SX, reduceCtorEq, Nat.reduceEqDiff, ↓reduceIte, Int.reduceEq, Int.reduceLT, Int.reduceLE, Nat.reduceAdd]
          refine rest 1 (by rw [if_neg c1]) _ (by simp only [SG, reduceCtorEq, Nat.reduceEqDiff, ↓reduceIte, e1] <;> rfl) (by simp only [SG, reduceCtorEq, Nat.reduceEqDiff, ↓reduceIte, e3] <;> rfl) (by simp only [SG, reduceCtorEq, Nat.reduceEqDiff, ↓reduceIte, e4] <;> rfl) (by simp only [SG, reduceCtorEq, Nat.reduceEqDiff, ↓reduceIte, e5] <;> rfl) (by first | (simp only [SG, reduceCtorEq, Nat.reduceEqDiff, ↓reduceIte] <;> rfl) | rfl) (by first | (simp only [SG, reduceCtorEq, Nat.reduceEqDiff, ↓reduceIte] <;> rfl) | rfl) _ ?_ ?_
          · intro e2 H' hb g a2
            simp only [SX, reduceCtorEq, Nat.reduceEqDiff, ↓reduceIte, Int.reduceEq, Int.reduceLT, Int.reduceLE, Nat.reduceAdd]
            exact kf _ _ hb g a2
          · intro e2 H' hb g a1 a3 a4 a5
            simp only [a1, a3, a4, a5, w1, SX, reduceCtorEq, Nat.reduceEqDiff, ↓reduceIte, Int.reduceEq, Int.reduceLT, Int.reduceLE, Nat.reduceAdd]
            exact next hb _ _ g (by simp only [SG, reduceCtorEq, Nat.reduceEqDiff, ↓reduceIte, a1] <;> rfl) (by simp only [SG, reduceCtorEq, Nat.reduceEqDiff, ↓reduceIte, a3] <;> rfl) (by simp only [SG, reduceCtorEq, Nat.reduceEqDiff, ↓reduceIte, a4] <;> rfl) (by first | (simp only [SG, reduceCtorEq, Nat.reduceEqDiff, ↓reduceIte] <;> rfl) | rfl)
    · have e2 : rightP l = true := by rw [hrp, all_range]; intro j hj; exact hok j (by omega)
      simp only [e1, e3, e4, e5, lw1, d, SX, reduceCtorEq, Nat.reduceEqDiff, ↓reduceIte, Int.reduceEq, Int.reduceLT, Int.reduceLE, Nat.reduceAdd]
      exact kn _ _ e2 g1 (by simp only [SG, reduceCtorEq, Nat.reduceEqDiff, ↓reduceIte, e1] <;> rfl) (by simp only [SG, reduceCtorEq, Nat.reduceEqDiff, ↓reduceIte, e3] <;> rfl)
end
def Good (w h : Int) (l : List Ce) : Prop := sizeP w h = true ∧ (l.length : Int) = w * h
instance (w h : Int) (l : List Ce) : Decidable (Good w h l) := by unfold Good; infer_instance
/-- what the document is given of a frame -/
def GF (H : AHeap) (w h x y : Int) (s : Bool) (l : List Ce) (r : AV) : Prop :=
  ∃ v : AV, v.one = true ∧ ((Good w h l ∧ r = .agg (mat w h v x y s) ∧ IsS RowR H v (docL w.toNat h.toNat l)) ∨ (¬ Good w h l ∧ r = .agg (mat 0 h v x y s)))
theorem GF.grow {H H' : AHeap} {w h x y : Int} {s : Bool} {l : List Ce} {r : AV} (hg : GF H w h x y s l r) (hf : Fr H) (g : Gr H H') : GF H' w h x y s l r := by
  obtain ⟨v, o, ⟨h1, h2, h3⟩ | ⟨h1, h2⟩⟩ := hg
  · exact ⟨v, o, .inl ⟨h1, h2, h3.grow (fun x c hc => RowS.grow hc hf g) hf g⟩⟩
  · exact ⟨v, o, .inr ⟨h1, h2⟩⟩
theorem rightM_Good {w h x y : Int} {l : List Ce} (hr : rightM w h x y l = true) : Good w h l := rightM_size hr
theorem Good.nat {w h : Int} {l : List Ce} (hg : Good w h l) : ∃ a b : Nat, w = a ∧ h = b ∧ (1 ≤ a ∧ a ≤ 400) ∧ (1 ≤ b ∧ b ≤ 400) ∧ l.length = a * b := by
  obtain ⟨w0, w4, h0, h4⟩ := sizeP_true hg.1
  obtain ⟨a, rfl⟩ : ∃ a : Nat, w = a := ⟨w.toNat, by omega⟩
  obtain ⟨b, rfl⟩ : ∃ b : Nat, h = b := ⟨h.toNat, by omega⟩
  exact ⟨a, b, rfl, rfl, by omega, by omega, by have := size_len hg.1 hg.2; simpa using this⟩
theorem GF.rows {H : AHeap} {w h x y : Int} {s : Bool} {l : List Ce} {r : AV} (hg : GF H w h x y s l r) (hr : Good w h l) : ∃ v : AV, v.one = true ∧ r = .agg (mat w h v x y s) ∧ IsS RowR H v (docL w.toNat h.toNat l) := by
  obtain ⟨v, o, ⟨h1, h2, h3⟩ | ⟨h1, h2⟩⟩ := hg
  · exact ⟨v, o, h2, h3⟩
  · exact absurd hr h1
theorem docL_blank (w h : Nat) : docL w h (List.replicate (w * h) blankC) = List.replicate h (List.replicate w blankC) := by
  refine List.ext_getElem? fun j => ?_
  by_cases hj : j < h
  · rw [docL_at hj, List.getElem?_replicate, if_pos hj]
    congr 1
    have hl := line_len (w := w) (h := h) (l := List.replicate (w * h) blankC) (by simp) hj
    refine List.eq_replicate_iff.2 ⟨hl, fun b hb => ?_⟩
    exact (List.mem_replicate.1 (List.mem_of_mem_take (List.mem_of_mem_drop hb))).2
  · rw [List.getElem?_eq_none (by rw [docL_len]; omega), List.getElem?_eq_none (by simp; omega)]
section
variable {Q : Prog} (mq : PmQ Q) {H : AHeap}
include mq
set_option maxHeartbeats 16000000 in
theorem rightGood_spec (hf : Fr H) {wn hn : Nat} {x y : Int} {s : Bool} {v : AV} {l : List Ce} (hw : 1 ≤ wn ∧ wn ≤ 400) (hh : 1 ≤ hn ∧ hn ≤ 400) (hl : l.length = wn * hn) (o : v.one = true) (hv : IsS RowR H v (docL wn hn l)) (hi : InF l) :
    FnTo Q 8 [.agg (mat wn hn v x y s)] H (fun r H' => r = .bool (rightM wn hn x y l) ∧ Gr H H') := by
  refine fn_wp (mq.ho 8 rfl _) mq.q8 (by simp [A8]) ?_
  rw [rightM_good hw hh hl]
  obtain ⟨H1, s1, g1, k1⟩ := (Hp.nil H hf).make (mat wn hn v x y s) 6
  obtain ⟨q, hq⟩ : ∃ q, H.next = q := ⟨_, rfl⟩
  have gg := g1.gr k1
  rw [hq] at g1
  have lq : ∀ {H' : AHeap}, Gr H1 H' → loadV H' Option.none (.ptr q 0) = some (.int .i64 wn) ∧ loadV H' Option.none (.ptr q 1) = some (.int .i64 hn) ∧ loadV H' Option.none (.ptr q 2) = some v ∧ loadV H' Option.none (.ptr q 3) = some (.int .i64 x) ∧ loadV H' Option.none (.ptr q 4) = some (.int .i64 y) := fun {H'} g =>
    have g' := g1.of_gr g
    ⟨g'.load (List.mem_cons_self ..) (o := 0) rfl, g'.load (List.mem_cons_self ..) (o := 1) rfl, g'.load (List.mem_cons_self ..) (o := 2) rfl, g'.load (List.mem_cons_self ..) (o := 3) rfl, g'.load (List.mem_cons_self ..) (o := 4) rfl⟩
  obtain ⟨a0, a1, a2, a3, a4⟩ := lq (Gr.refl gg.fr)
  have c1 : ¬ (wn : Int) < 1 := by omega
  have c2 : ¬ (400 : Int) < wn := by omega
  have c3 : ¬ (hn : Int) < 1 := by omega
  have c4 : ¬ (400 : Int) < hn := by omega
  have hlen : (docL wn hn l).length = hn := docL_len ..
  have hv1 : IsS RowR H1 v (docL wn hn l) := hv.grow (fun x c hc => RowS.grow hc hf gg) hf gg
  have ln := hv1.len
  rw [hlen] at ln
  by_cases cx0 : x < 0
  · have e : inP wn hn x y = false := by unfold inP; rw [decide_eq_false (show ¬ 0 ≤ x by omega)]; rfl
    simp only [A8, boxV_agg (mat_one o), s1, hq, a0, a1, a2, a3, a4, c1, c2, c3, c4, ln, cx0, e, Bool.false_and, wantV_undef, SX, reduceCtorEq, Nat.reduceEqDiff, ↓reduceIte, Int.reduceEq, Int.reduceLT, Int.reduceLE, Nat.reduceAdd]
    exact gg
  by_cases cx1 : (wn : Int) ≤ x
  · have e : inP wn hn x y = false := by unfold inP; rw [decide_eq_false (show ¬ x < wn by omega)]; simp
    simp only [A8, boxV_agg (mat_one o), s1, hq, a0, a1, a2, a3, a4, c1, c2, c3, c4, ln, cx0, show decide (x ≥ (wn : Int)) = true from decide_eq_true cx1, e, Bool.false_and, wantV_undef, SX, reduceCtorEq, Nat.reduceEqDiff, ↓reduceIte, Int.reduceEq, Int.reduceLT, Int.reduceLE, Nat.reduceAdd]
    exact gg
  by_cases cy0 : y < 0
  · have e : inP wn hn x y = false := by unfold inP; rw [decide_eq_false (show ¬ 0 ≤ y by omega)]; simp
    simp only [A8, boxV_agg (mat_one o), s1, hq, a0, a1, a2, a3, a4, c1, c2, c3, c4, ln, cx0, show decide (x ≥ (wn : Int)) = false from decide_eq_false cx1, cy0, e, Bool.false_and, wantV_undef, SX, reduceCtorEq, Nat.reduceEqDiff, ↓reduceIte, Int.reduceEq, Int.reduceLT, Int.reduceLE, Nat.reduceAdd]
    exact gg
  by_cases cy1 : (hn : Int) ≤ y
  · have e : inP wn hn x y = false := by unfold inP; rw [decide_eq_false (show ¬ y < hn by omega)]; simp
    simp only [A8, boxV_agg (mat_one o), s1, hq, a0, a1, a2, a3, a4, c1, c2, c3, c4, ln, cx0, show decide (x ≥ (wn : Int)) = false from decide_eq_false cx1, cy0, show decide (y ≥ (hn : Int)) = true from decide_eq_true cy1, e, Bool.false_and, wantV_undef, SX, reduceCtorEq, Nat.reduceEqDiff, ↓reduceIte, Int.reduceEq, Int.reduceLT, Int.reduceLE, Nat.reduceAdd]
    exact gg
  have e : inP wn hn x y = true := by
    unfold inP
    rw [decide_eq_true (show 0 ≤ x by omega), decide_eq_true (show x < wn by omega), decide_eq_true (show 0 ≤ y by omega), decide_eq_true (show y < hn by omega)]; rfl
  simp only [A8, boxV_agg (mat_one o), s1, hq, a0, a1, a2, a3, a4, c1, c2, c3, c4, ln, cx0, show decide (x ≥ (wn : Int)) = false from decide_eq_false cx1, cy0, show decide (y ≥ (hn : Int)) = false from decide_eq_false cy1, e, Bool.true_and, wantV_undef, SX, reduceCtorEq, Nat.reduceEqDiff, ↓reduceIte, Int.reduceEq, Int.reduceLT, Int.reduceLE, Nat.reduceAdd]
  obtain ⟨I, hI⟩ : ∃ I : Nat → Env → AHeap → Prop, ∀ m e H', I m e H' ↔ (∃ i : Nat, m = hn - i ∧ i ≤ hn ∧ Gr H1 H' ∧ (∀ j < i, rightP (lineP l wn j) = true) ∧ Env.get e 1 = .ptr q 0 ∧ Env.get e 3 = .int .i64 i) := ⟨_, fun _ _ _ => Iff.rfl⟩
  refine loop_by I hn ?_ ?_
  · exact (hI _ _ _).2 ⟨0, rfl, by omega, Gr.refl gg.fr, fun j hj => by omega, (by first | (simp only [SG, reduceCtorEq, Nat.reduceEqDiff, ↓reduceIte] <;> rfl) | rfl), (by first | (simp only [SG, reduceCtorEq, Nat.reduceEqDiff, ↓reduceIte] <;> rfl) | rfl)⟩
  · intro m e H2 hinv
    obtain ⟨i, rfl, hi', g2, hok, e1, e3⟩ := (hI _ _ _).1 hinv
    obtain ⟨a0, a1, a2, a3, a4⟩ := lq g2
    by_cases d : (i : Int) < hn
    · have w1 : IntKind.wrap .i64 ((i : Int) + 1) = ((i + 1 : Nat) : Int) := wrapNat (n := i + 1) (by omega)
      have hv2 : IsS RowR H2 v (docL wn hn l) := hv1.grow (fun x c hc => RowS.grow hc gg.fr g2) gg.fr g2
      have xi := hv2.at (i := (i : Int)) (by omega) (by rw [hlen]; exact d) .i64
      obtain ⟨z, lz, hz⟩ := hv2.get (i := (i : Int)) (a := lineP l wn i) (by rw [Int.toNat_natCast]; exact docL_at (by omega))
      have hz : RowS H2 z (lineP l wn i) := hz
      have hll := line_len hl (j := i) (by omega)
      have lzl := hz.len H2
      rw [hll] at lzl
      have bad : rightP (lineP l wn i) = false → linesP wn hn l = false := fun hb => by
        unfold linesP
        cases hq : (List.range hn).all fun j => rightP (lineP l wn j) with
        | false => rfl
        | true => rw [(all_range _ _).1 hq i (by omega)] at hb; cases hb
      simp only [e1, e3, a0, a1, a2, d, xi, lz, lzl, wantV_undef, SX, reduceCtorEq, Nat.reduceEqDiff, ↓reduceIte, Int.reduceEq, Int.reduceLT, Int.reduceLE, Nat.reduceAdd]
      refine (wholeR_spec mq hz (by omega) (hi.line wn i)).mono ?_
      rintro _ H3 ⟨rfl, hH⟩
      rw [hH]
      obtain ⟨wb, hwb⟩ : ∃ wb, wholeP (ws (lineP l wn i)) = wb := ⟨_, rfl⟩
      rw [hwb]
      cases wb with
      | false =>
        have hb := bad (by unfold rightP; rw [hwb]; rfl)
        simp only [hb, wantV_undef, SX, reduceCtorEq, Nat.reduceEqDiff, ↓reduceIte, Int.reduceEq, Int.reduceLT, Int.reduceLE, Nat.reduceAdd]
        exact gg.trans g2
      | true =>
        simp only [e1, e3, wantV_undef, SX, reduceCtorEq, Nat.reduceEqDiff, ↓reduceIte, Int.reduceEq, Int.reduceLT, Int.reduceLE, Nat.reduceAdd]
        refine rowR_wp mq g2.fr hz (by omega) hwb (q := q) (fun {H'} g => by rw [hll]; exact (lq (g2.trans g)).1) (by simp only [SG, reduceCtorEq, Nat.reduceEqDiff, ↓reduceIte, e1] <;> rfl) (by simp only [SG, reduceCtorEq, Nat.reduceEqDiff, ↓reduceIte, e3] <;> rfl) (by first | (simp only [SG, reduceCtorEq, Nat.reduceEqDiff, ↓reduceIte] <;> rfl) | rfl) ?_ ?_
        · intro e' H' hb g a2
          simp only [a2, bad hb, SX, reduceCtorEq, Nat.reduceEqDiff, ↓reduceIte, Int.reduceEq, Int.reduceLT, Int.reduceLE, Nat.reduceAdd]
          exact (gg.trans g2).trans g
        · intro e' H' hb g a1 a3
          simp only [a1, a3, w1, SX, reduceCtorEq, Nat.reduceEqDiff, ↓reduceIte, Int.reduceEq, Int.reduceLT, Int.reduceLE, Nat.reduceAdd]
          exact ⟨hn - (i + 1), by omega, (hI _ _ _).2 ⟨i + 1, rfl, by omega, g2.trans g, fun j hj => by
            by_cases hji : j = i
            · rw [hji]; exact hb
            · exact hok j (by omega), (by simp only [SG, reduceCtorEq, Nat.reduceEqDiff, ↓reduceIte, a1] <;> rfl), (by first | (simp only [SG, reduceCtorEq, Nat.reduceEqDiff, ↓reduceIte] <;> rfl) | rfl)⟩⟩
    · have hT : linesP wn hn l = true := by unfold linesP; rw [all_range]; intro j hj; exact hok j (by omega)
      simp only [e1, e3, a1, d, hT, SX, reduceCtorEq, Nat.reduceEqDiff, ↓reduceIte, Int.reduceEq, Int.reduceLT, Int.reduceLE, Nat.reduceAdd]
      exact gg.trans g2
theorem RightR_spec (hf : Fr H) {w h x y : Int} {s : Bool} {l : List Ce} {r : AV} (hg : GF H w h x y s l r) (hi : InF l) : FnTo Q 8 [r] H (fun r H' => r = .bool (rightM w h x y l) ∧ Gr H H') := by
  obtain ⟨v, o, ⟨h1, rfl, h3⟩ | ⟨h1, rfl⟩⟩ := hg
  · obtain ⟨a, b, rfl, rfl, ha, hb, hl⟩ := h1.nat
    exact rightGood_spec mq hf ha hb hl o h3 hi
  · refine fn_wp (mq.ho 8 rfl _) mq.q8 (by simp [A8]) ?_
    have hr : rightM w h x y l = false := by
      cases hq : rightM w h x y l with
      | false => rfl
      | true => exact absurd (rightM_Good hq) h1
    obtain ⟨H1, s1, g1, k1⟩ := (Hp.nil H hf).make (mat 0 h v x y s) 6
    have a0 := g1.load (List.mem_cons_self ..) (o := 0) (v := .int .i64 0) rfl
    have d0 : (0 : Int) < 1 := by omega
    simp only [A8, boxV_agg (mat_one o), s1, a0, d0, hr, wantV_undef, SX, reduceCtorEq, Nat.reduceEqDiff, ↓reduceIte, Int.reduceEq, Int.reduceLT, Int.reduceLE, Nat.reduceAdd]
    exact g1.gr k1
end
theorem lines_eq {w h : Nat} {l m : List Ce} (hl : l.length = w * h) (hm : m.length = w * h) (he : ∀ j, j < h → lineP l w j = lineP m w j) : l = m := by
  have key : ∀ j, j ≤ h → l.take (j * w) = m.take (j * w) := by
    intro j
    induction j with
    | zero => intro _; simp
    | succ j ih =>
      intro hj
      have e1 : ∀ (a : List Ce), a.take ((j + 1) * w) = a.take (j * w) ++ lineP a w j := fun a => by
        unfold lineP
        have : (a.take ((j + 1) * w)).take (j * w) = a.take (j * w) := by
          rw [List.take_take, Nat.min_eq_left (Nat.mul_le_mul_right _ (by omega))]
        rw [← this, List.take_append_drop]
      rw [e1 l, e1 m, ih (by omega), he j (by omega)]
  have := key h (Nat.le_refl _)
  rwa [List.take_of_length_le (by rw [hl, Nat.mul_comm]; exact Nat.le_refl _), List.take_of_length_le (by rw [hm, Nat.mul_comm]; exact Nat.le_refl _)] at this
section
variable {Q : Prog} (mq : PmQ Q) {H : AHeap}
include mq
set_option maxHeartbeats 16000000 in
theorem SameR_spec (hf : Fr H) {wn hn : Nat} {x y : Int} {s : Bool} {v : AV} {l : List Ce} {x' y' : Int} {s' : Bool} {v' : AV} {l' : List Ce} (hw : 1 ≤ wn ∧ wn ≤ 400) (hh : 1 ≤ hn ∧ hn ≤ 400) (hl : l.length = wn * hn) (hl' : l'.length = wn * hn) (o : v.one = true) (o' : v'.one = true) (hv : IsS RowR H v (docL wn hn l)) (hv' : IsS RowR H v' (docL wn hn l')) :
    FnTo Q 32 [.agg (mat wn hn v x y s), .agg (mat wn hn v' x' y' s')] H (fun r H' => r = .bool (sameM wn hn x y s l wn hn x' y' s' l') ∧ Gr H H') := by
  refine fn_wp (mq.ho 32 rfl _) mq.dq.q32 (by simp [A32]) ?_
  obtain ⟨H1, s1, g1, k1⟩ := (Hp.nil H hf).make (mat wn hn v x y s) 6
  obtain ⟨H2, s2, g2, k2⟩ := g1.make (mat wn hn v' x' y' s') 6
  obtain ⟨p, hp⟩ : ∃ p, H.next = p := ⟨_, rfl⟩
  obtain ⟨q, hq⟩ : ∃ q, H1.next = q := ⟨_, rfl⟩
  have gg := g2.gr (k1.trans k2)
  rw [hp, hq] at g2
  have lp : ∀ {H' : AHeap}, Gr H2 H' → loadV H' Option.none (.ptr p 0) = some (.int .i64 wn) ∧ loadV H' Option.none (.ptr p 1) = some (.int .i64 hn) ∧ loadV H' Option.none (.ptr p 2) = some v ∧ loadV H' Option.none (.ptr p 3) = some (.int .i64 x) ∧ loadV H' Option.none (.ptr p 4) = some (.int .i64 y) ∧ loadV H' Option.none (.ptr p 5) = some (.bool s) := fun {H'} g =>
    have g' := g2.of_gr g
    have hm : (⟨p, 6, mat wn hn v x y s⟩ : Cel) ∈ [(⟨q, 6, mat wn hn v' x' y' s'⟩ : Cel), ⟨p, 6, mat wn hn v x y s⟩] := by simp
    ⟨g'.load hm (o := 0) rfl, g'.load hm (o := 1) rfl, g'.load hm (o := 2) rfl, g'.load hm (o := 3) rfl, g'.load hm (o := 4) rfl, g'.load hm (o := 5) rfl⟩
  have lq : ∀ {H' : AHeap}, Gr H2 H' → loadV H' Option.none (.ptr q 0) = some (.int .i64 wn) ∧ loadV H' Option.none (.ptr q 1) = some (.int .i64 hn) ∧ loadV H' Option.none (.ptr q 2) = some v' ∧ loadV H' Option.none (.ptr q 3) = some (.int .i64 x') ∧ loadV H' Option.none (.ptr q 4) = some (.int .i64 y') ∧ loadV H' Option.none (.ptr q 5) = some (.bool s') := fun {H'} g =>
    have g' := g2.of_gr g
    have hm : (⟨q, 6, mat wn hn v' x' y' s'⟩ : Cel) ∈ [(⟨q, 6, mat wn hn v' x' y' s'⟩ : Cel), ⟨p, 6, mat wn hn v x y s⟩] := by simp
    ⟨g'.load hm (o := 0) rfl, g'.load hm (o := 1) rfl, g'.load hm (o := 2) rfl, g'.load hm (o := 3) rfl, g'.load hm (o := 4) rfl, g'.load hm (o := 5) rfl⟩
  obtain ⟨a0, a1, a2, a3, a4, a5⟩ := lp (Gr.refl gg.fr)
  obtain ⟨b0, b1, b2, b3, b4, b5⟩ := lq (Gr.refl gg.fr)
  have bq : beqV true (.bool s) (.bool s') = some (.bool (!decide (s = s'))) := by cases s <;> cases s' <;> rfl
  have up : ∀ {u : AV} {m : List Ce} {H' : AHeap}, IsS RowR H u (docL wn hn m) → Gr H H' → IsS RowR H' u (docL wn hn m) := fun {u m H'} h g => h.grow (fun x c hc => RowS.grow hc hf g) hf g
  have ln := (up hv gg).len
  have ln' := (up hv' gg).len
  rw [docL_len] at ln ln'
  unfold sameM
  simp only [decide_true, Bool.true_and]
  by_cases c3 : x = x'
  case neg =>
    simp only [A32, boxV_agg (mat_one o), boxV_agg (mat_one o'), s1, s2, hp, hq, a0, b0, a1, b1, a3, b3, decide_eq_false c3, c3, Bool.false_and, wantV_undef, SX, reduceCtorEq, Nat.reduceEqDiff, ↓reduceIte, Int.reduceEq, Int.reduceLT, Int.reduceLE, Nat.reduceAdd]
    exact gg
  subst c3
  simp only [decide_true, Bool.true_and]
  by_cases c4 : y = y'
  case neg =>
    simp only [A32, boxV_agg (mat_one o), boxV_agg (mat_one o'), s1, s2, hp, hq, a0, b0, a1, b1, a3, b3, a4, b4, decide_eq_false c4, c4, Bool.false_and, wantV_undef, SX, reduceCtorEq, Nat.reduceEqDiff, ↓reduceIte, Int.reduceEq, Int.reduceLT, Int.reduceLE, Nat.reduceAdd]
    exact gg
  subst c4
  simp only [decide_true, Bool.true_and]
  by_cases c5 : s = s'
  case neg =>
    rw [decide_eq_false c5] at bq
    simp only [A32, boxV_agg (mat_one o), boxV_agg (mat_one o'), s1, s2, hp, hq, a0, b0, a1, b1, a3, b3, a4, b4, a5, b5, run_beq, bq, decide_eq_false c5, Bool.false_and, Bool.not_false, wantV_undef, SX, reduceCtorEq, Nat.reduceEqDiff, ↓reduceIte, Int.reduceEq, Int.reduceLT, Int.reduceLE, Nat.reduceAdd]
    exact gg
  rw [decide_eq_true c5] at bq
  simp only [A32, boxV_agg (mat_one o), boxV_agg (mat_one o'), s1, s2, hp, hq, a0, b0, a1, b1, a3, b3, a4, b4, a5, b5, a2, b2, ln, ln', run_beq, bq, decide_eq_true c5, Bool.true_and, Bool.not_true, wantV_undef, SX, reduceCtorEq, Nat.reduceEqDiff, ↓reduceIte, Int.reduceEq, Int.reduceLT, Int.reduceLE, Nat.reduceAdd]
  obtain ⟨I, hI⟩ : ∃ I : Nat → Env → AHeap → Prop, ∀ k e H', I k e H' ↔ (H' = H2 ∧ ∃ i : Nat, k = hn - i ∧ i ≤ hn ∧ (∀ j, j < i → lineP l wn j = lineP l' wn j) ∧ Env.get e 2 = .ptr p 0 ∧ Env.get e 3 = .ptr q 0 ∧ Env.get e 5 = .int .i64 i) := ⟨_, fun _ _ _ => Iff.rfl⟩
  refine loop_by I hn ?_ ?_
  · exact (hI _ _ _).2 ⟨rfl, 0, rfl, by omega, fun j hj => by omega, (by first | (simp only [SG, reduceCtorEq, Nat.reduceEqDiff, ↓reduceIte] <;> rfl) | rfl), (by first | (simp only [SG, reduceCtorEq, Nat.reduceEqDiff, ↓reduceIte] <;> rfl) | rfl), (by first | (simp only [SG, reduceCtorEq, Nat.reduceEqDiff, ↓reduceIte] <;> rfl) | rfl)⟩
  · intro k e H3 hinv
    obtain ⟨hH, i, rfl, hi, hall, e2, e3, e5⟩ := (hI _ _ _).1 hinv
    rw [hH]
    by_cases d : (i : Int) < hn
    · have w1 : IntKind.wrap .i64 ((i : Int) + 1) = ((i + 1 : Nat) : Int) := wrapNat (n := i + 1) (by omega)
      have xi := (up hv gg).at (i := (i : Int)) (by omega) (by rw [docL_len]; exact d) .i64
      obtain ⟨z, lz, hz⟩ := (up hv gg).get (i := (i : Int)) (a := lineP l wn i) (by rw [Int.toNat_natCast]; exact docL_at (by omega))
      have hz : RowS H2 z (lineP l wn i) := hz
      have xi' := (up hv' gg).at (i := (i : Int)) (by omega) (by rw [docL_len]; exact d) .i64
      obtain ⟨z', lz', hz'⟩ := (up hv' gg).get (i := (i : Int)) (a := lineP l' wn i) (by rw [Int.toNat_natCast]; exact docL_at (by omega))
      have hz' : RowS H2 z' (lineP l' wn i) := hz'
      have hll := line_len hl (j := i) (by omega)
      simp only [e2, e3, e5, a2, b2, ln, d, xi, lz, xi', lz', wantV_undef, SX, reduceCtorEq, Nat.reduceEqDiff, ↓reduceIte, Int.reduceEq, Int.reduceLT, Int.reduceLE, Nat.reduceAdd]
      refine (rowSame_spec mq hz hz' (by omega)).mono ?_
      rintro _ H4 ⟨rfl, hH4⟩
      rw [hH4]
      by_cases c : lineP l wn i = lineP l' wn i
      · simp only [decide_eq_true c, e2, e3, e5, w1, wantV_undef, SX, reduceCtorEq, Nat.reduceEqDiff, ↓reduceIte, Int.reduceEq, Int.reduceLT, Int.reduceLE, Nat.reduceAdd]
        exact ⟨hn - (i + 1), by omega, (hI _ _ _).2 ⟨rfl, i + 1, rfl, by omega, fun j hj => by
          by_cases hji : j = i
          · rw [hji]; exact c
          · exact hall j (by omega), (by simp only [SG, reduceCtorEq, Nat.reduceEqDiff, ↓reduceIte, e2] <;> rfl), (by simp only [SG, reduceCtorEq, Nat.reduceEqDiff, ↓reduceIte, e3] <;> rfl), (by first | (simp only [SG, reduceCtorEq, Nat.reduceEqDiff, ↓reduceIte] <;> rfl) | rfl)⟩⟩
      · have ne : decide (l = l') = false := decide_eq_false fun e => c (by rw [e])
        simp only [decide_eq_false c, ne, wantV_undef, SX, reduceCtorEq, Nat.reduceEqDiff, ↓reduceIte, Int.reduceEq, Int.reduceLT, Int.reduceLE, Nat.reduceAdd]
        exact gg
    · have eq : decide (l = l') = true := decide_eq_true (lines_eq hl hl' fun j hj => hall j (by omega))
      simp only [e2, e3, e5, a2, ln, d, eq, SX, reduceCtorEq, Nat.reduceEqDiff, ↓reduceIte, Int.reduceEq, Int.reduceLT, Int.reduceLE, Nat.reduceAdd]
      exact gg
set_option maxHeartbeats 16000000 in
theorem beyond_spec (hf : Fr H) {w h x y : Int} {s : Bool} {l : List Ce} {r : AV} (hg : GF H w h x y s l r) (hi : InF l) {wn hn : Nat} {v' : AV} {x' y' : Int} {s' : Bool} (hw : 1 ≤ wn ∧ wn ≤ 400) (hh : 1 ≤ hn ∧ hn ≤ 400) (o' : v'.one = true) :
    FnTo Q 27 [r, .agg (mat wn hn v' x' y' s')] H (fun b H' => Gr H H' ∧ if rightM w h x y l = true ∧ w = wn ∧ h = hn then b = .tup [r, .bool false] else ∃ u, b = .tup [.agg (mat wn hn u 0 0 false), .bool true] ∧ u.one = true ∧ ∀ H2 : AHeap, (∀ c, H.next ≤ c → H2.get c = H'.get c) → H2.next = H'.next → IsS RowR H2 u (docL wn hn (List.replicate (wn * hn) blankC))) := by
  refine fn_wp (mq.ho 27 rfl _) mq.q27 (by simp [A27]) ?_
  obtain ⟨rw', rv, hrv, ro⟩ : ∃ (a : Int) (b : AV), r = .agg (mat a h b x y s) ∧ b.one = true := by
    obtain ⟨v, o, ⟨h1, rfl, h3⟩ | ⟨h1, rfl⟩⟩ := hg
    · exact ⟨_, _, rfl, o⟩
    · exact ⟨_, _, rfl, o⟩
  have hrw : rightM w h x y l = true → rw' = w := fun hr => by
    obtain ⟨v, o, h2, _⟩ := hg.rows (rightM_Good hr)
    rw [hrv] at h2
    simp [mat] at h2
    exact h2.1
  subst hrv
  obtain ⟨H1, s1, g1, k1⟩ := (Hp.nil H hf).make (mat rw' h rv x y s) 6
  obtain ⟨H2, s2, g2, k2⟩ := g1.make (mat wn hn v' x' y' s') 6
  obtain ⟨H3, s3, g3, k3⟩ := g2.make [.int .i64 0, .int .i64 0, .nils, .int .i64 0, .int .i64 0, .bool false] 6
  obtain ⟨Z, hZ⟩ : ∃ Z : List AV, [AV.int .i64 0, .int .i64 0, .nils, .int .i64 0, .int .i64 0, .bool false] = Z := ⟨_, rfl⟩
  obtain ⟨p, hp⟩ : ∃ p, H.next = p := ⟨_, rfl⟩
  obtain ⟨q, hq⟩ : ∃ q, H1.next = q := ⟨_, rfl⟩
  obtain ⟨t, hT⟩ : ∃ t, H2.next = t := ⟨_, rfl⟩
  have kk := k1.trans (k2.trans k3)
  have gg := g3.gr kk
  rw [hp, hq, hT] at g3
  rw [hZ] at g3
  have a6 := g3.loadN (b := p) (k := 6) (cs := mat rw' h rv x y s) (by simp) (n := 6) rfl
  simp only [A27, boxV_agg (mat_one ro), boxV_agg (mat_one o'), s1, s2, s3, run_allocL, hp, hq, hT, a6, SX, reduceCtorEq, Nat.reduceEqDiff, ↓reduceIte, Int.reduceEq, Int.reduceLT, Int.reduceLE, Nat.reduceAdd]
  refine (RightR_spec mq g3.fr (hg.grow hf gg) hi).mono ?_
  rintro _ H4 ⟨rfl, gr4⟩
  have g4 := g3.of_gr gr4
  have hb0 : p ≤ H3.next := by rw [← hp]; exact gg.next
  have tb : t < H3.next := by
    have := (g3.has ⟨t, 6, Z⟩ (by simp))
    obtain ⟨es, ty, h1, _⟩ := this
    exact Nat.lt_of_not_le fun hle => by rw [g3.fr t hle] at h1; cases h1
  rw [hp] at kk
  have k4 : Keep p H H4 := kk.trans (gr4.keep.le hb0)
  have toG : ∀ {H' : AHeap} {L : List Cel}, Hp p H' L → Keep p H H' → Gr H H' := by rw [← hp]; exact fun a b => a.gr b
  have a0 := g4.load (b := p) (k := 6) (cs := mat rw' h rv x y s) (by simp) (o := 0) rfl
  have a1 := g4.load (b := p) (k := 6) (cs := mat rw' h rv x y s) (by simp) (o := 1) rfl
  have a6 := g4.loadN (b := p) (k := 6) (cs := mat rw' h rv x y s) (by simp) (n := 6) rfl
  have b0 := g4.load (b := q) (k := 6) (cs := mat wn hn v' x' y' s') (by simp) (o := 0) rfl
  have b1 := g4.load (b := q) (k := 6) (cs := mat wn hn v' x' y' s') (by simp) (o := 1) rfl
  have other : FnTo Q 41 [.int .i64 wn, .int .i64 hn] H4 (fun b H' => ∃ u H5, b = .agg (mat wn hn u 0 0 false) ∧ u.one = true ∧ storeE H' 6 (.ptr t 0) b = some (.undef, H5) ∧ loadV H5 (some 6) (.ptr t 0) = some b ∧ Gr H H5 ∧ ∀ H2 : AHeap, (∀ c, p ≤ c → H2.get c = H5.get c) → H2.next = H5.next → IsS RowR H2 u (docL wn hn (List.replicate (wn * hn) blankC))) := by
    refine (blankF_spec mq.dq g4.fr hw.2 (by omega) hh.2).mono ?_
    rintro b H' ⟨g5, u, rfl, ou, hu⟩
    obtain ⟨H5, s5, g8, k8, n8⟩ := (g4.of_gr g5).storeN (b := t) (n := 6) (new := mat wn hn u 0 0 false) (by rw [← hZ]; rfl) rfl (mat_one ou)
    have l8 := g8.loadN (b := t) (List.mem_cons_self ..) (n := 6) rfl
    refine ⟨u, H5, rfl, ou, s5, l8, toG g8 (k4.trans ((g5.keep.le (Nat.le_trans hb0 gr4.next)).trans k8)), fun H9 ha hn9 => ?_⟩
    rw [docL_blank]
    have hpn : p ≤ H4.next := Nat.le_trans hb0 gr4.next
    have htn : t < H4.next := Nat.lt_of_lt_of_le tb gr4.next
    exact hu H9 (fun c hc => by rw [ha c (by omega)]; exact store_other s5 (by omega)) (by rw [hn9, n8])
  cases hr : rightM w h x y l with
  | false =>
    simp only [b0, b1, wantV_undef, SX, reduceCtorEq, Nat.reduceEqDiff, ↓reduceIte, Int.reduceEq, Int.reduceLT, Int.reduceLE, Nat.reduceAdd]
    refine other.mono ?_
    rintro _ H' ⟨u, H5, rfl, ou, s5, l5, g5, hu⟩
    simp only [s5, resCell, l5, SX, reduceCtorEq, Nat.reduceEqDiff, ↓reduceIte, Int.reduceEq, Int.reduceLT, Int.reduceLE, Nat.reduceAdd]
    exact ⟨g5, by rw [if_neg (by simp)]; exact ⟨u, rfl, ou, hu⟩⟩
  | true =>
    obtain rfl := hrw hr
    by_cases c1 : rw' = wn
    case neg =>
      simp only [a0, b0, b1, c1, wantV_undef, SX, reduceCtorEq, Nat.reduceEqDiff, ↓reduceIte, Int.reduceEq, Int.reduceLT, Int.reduceLE, Nat.reduceAdd]
      refine other.mono ?_
      rintro _ H' ⟨u, H5, rfl, ou, s5, l5, g5, hu⟩
      simp only [s5, resCell, l5, SX, reduceCtorEq, Nat.reduceEqDiff, ↓reduceIte, Int.reduceEq, Int.reduceLT, Int.reduceLE, Nat.reduceAdd]
      exact ⟨g5, by rw [if_neg (by simp [c1])]; exact ⟨u, rfl, ou, hu⟩⟩
    by_cases c2 : h = hn
    case neg =>
      simp only [a0, b0, a1, b1, c1, c2, wantV_undef, SX, reduceCtorEq, Nat.reduceEqDiff, ↓reduceIte, Int.reduceEq, Int.reduceLT, Int.reduceLE, Nat.reduceAdd]
      refine other.mono ?_
      rintro _ H' ⟨u, H5, rfl, ou, s5, l5, g5, hu⟩
      simp only [s5, resCell, l5, SX, reduceCtorEq, Nat.reduceEqDiff, ↓reduceIte, Int.reduceEq, Int.reduceLT, Int.reduceLE, Nat.reduceAdd]
      exact ⟨g5, u, rfl, ou, hu⟩
    obtain ⟨H5, s5, g5, k5, _⟩ := g4.storeN (b := t) (n := 6) (new := mat rw' h rv x y s) (by rw [← hZ]; rfl) rfl (mat_one ro)
    have l5 := g5.loadN (b := t) (List.mem_cons_self ..) (n := 6) rfl
    subst c1 c2
    simp only [a0, b0, a1, b1, wantV_undef, SX, reduceCtorEq, Nat.reduceEqDiff, ↓reduceIte, Int.reduceEq, Int.reduceLT, Int.reduceLE, Nat.reduceAdd]
    simp only [a6, s5, resCell, l5, SX, reduceCtorEq, Nat.reduceEqDiff, ↓reduceIte, Int.reduceEq, Int.reduceLT, Int.reduceLE, Nat.reduceAdd]
    exact toG g5 (k4.trans k5)
end
theorem line_at {w y x : Nat} {l : List Ce} (hx : x < w) : (lineP l w y)[x]? = l[y * w + x]? := by
  unfold lineP
  rw [List.getElem?_drop, List.getElem?_take, if_pos (by rw [Nat.succ_mul]; omega)]
section
variable {Q : Prog} (mq : PmQ Q) {H : AHeap}
include mq
set_option maxHeartbeats 16000000 in
theorem UnlikeR_spec (hf : Fr H) {w h x y : Int} {s : Bool} {l : List Ce} {r : AV} {w' h' x' y' : Int} {s' : Bool} {l' : List Ce} {r' : AV} (hg : GF H w h x y s l r) (hi : InF l) (hg' : GF H w' h' x' y' s' l' r') (hi' : InF l') :
    FnTo Q 12 [r, r'] H (fun b H' => b = .int .i64 (unlikeM w h x y l w' h' x' y' l' : Nat) ∧ Gr H H') := by
  refine fn_wp (mq.ho 12 rfl _) mq.q12 (by simp [A12]) ?_
  have shape : ∀ {w h x y : Int} {s : Bool} {l : List Ce} {r : AV}, GF H w h x y s l r → ∃ (a : Int) (b : AV), r = .agg (mat a h b x y s) ∧ b.one = true := fun {w h x y s l r} hg => by
    obtain ⟨v, o, ⟨h1, rfl, h3⟩ | ⟨h1, rfl⟩⟩ := hg
    · exact ⟨_, _, rfl, o⟩
    · exact ⟨_, _, rfl, o⟩
  obtain ⟨a, b, hr, o⟩ := shape hg
  obtain ⟨a', b', hr', o'⟩ := shape hg'
  obtain ⟨H1, s1, g1, k1⟩ := (Hp.nil H hf).make (mat a h b x y s) 6
  obtain ⟨H2, s2, g2, k2⟩ := g1.make (mat a' h' b' x' y' s') 6
  obtain ⟨p, hp⟩ : ∃ p, H.next = p := ⟨_, rfl⟩
  obtain ⟨q, hq⟩ : ∃ q, H1.next = q := ⟨_, rfl⟩
  have gg := g2.gr (k1.trans k2)
  have kk := k1.trans k2
  have hb0 : p ≤ H2.next := by rw [← hp]; exact gg.next
  rw [hp, hq] at g2
  rw [hp] at kk
  have pb : p < H2.next := by
    obtain ⟨es, ty, h1, _⟩ := (g2.has ⟨p, 6, mat a h b x y s⟩ (by simp))
    exact Nat.lt_of_not_le fun hle => by rw [g2.fr p hle] at h1; cases h1
  have b6 := g2.loadN (b := q) (k := 6) (cs := mat a' h' b' x' y' s') (by simp) (n := 6) rfl
  rw [hr, hr']
  simp only [A12, boxV_agg (mat_one o), boxV_agg (mat_one o'), s1, s2, hp, hq, b6, SX, reduceCtorEq, Nat.reduceEqDiff, ↓reduceIte, Int.reduceEq, Int.reduceLT, Int.reduceLE, Nat.reduceAdd]
  rw [← hr']
  refine (RightR_spec mq g2.fr (hg'.grow hf gg) hi').mono ?_
  rintro _ H3 ⟨rfl, gr3⟩
  have g3 := g2.of_gr gr3
  have gg3 := gg.trans gr3
  cases bad : rightM w' h' x' y' l' with
  | false =>
    simp only [SX, reduceCtorEq, Nat.reduceEqDiff, ↓reduceIte, Int.reduceEq, Int.reduceLT, Int.reduceLE, Nat.reduceAdd]
    exact ⟨by unfold unlikeM; rw [if_neg (by simp [bad])]; rfl, gg3⟩
  | true =>
  have gd := rightM_Good bad
  obtain ⟨wn, hn, rfl, rfl, hw, hh, hl'⟩ := gd.nat
  obtain ⟨v', ov', er', hv'⟩ := hg'.rows gd
  rw [er'] at hr'
  simp only [mat, AV.agg.injEq, List.cons.injEq, AV.int.injEq, true_and, and_true] at hr'
  obtain ⟨rfl, rfl⟩ := hr'
  rw [Int.toNat_natCast, Int.toNat_natCast] at hv'
  have a6 := g3.loadN (b := p) (k := 6) (cs := mat a h b x y s) (by simp) (n := 6) rfl
  have b6 := g3.loadN (b := q) (k := 6) (cs := mat wn hn v' x' y' s') (by simp) (n := 6) rfl
  simp only [a6, b6, SX, reduceCtorEq, Nat.reduceEqDiff, ↓reduceIte, Int.reduceEq, Int.reduceLT, Int.reduceLE, Nat.reduceAdd]
  rw [← hr]
  refine (beyond_spec mq g3.fr (hg.grow hf gg3) hi hw hh o').mono ?_
  rintro r4 H4 ⟨gr4, hb⟩
  have gg4 := gg3.trans gr4
  have g4 := g3.of_gr gr4
  have k4 : Keep p H H4 := (kk.trans (gr3.keep.le hb0)).trans (gr4.keep.le (Nat.le_trans hb0 gr3.next))
  have toG : ∀ {H' : AHeap} {L : List Cel}, Hp p H' L → Keep p H H' → Gr H H' := by rw [← hp]; exact fun a b => a.gr b
  obtain ⟨m, hm⟩ : ∃ m, baseL w h x y l wn hn = m := ⟨_, rfl⟩
  have hml : m.length = wn * hn := by rw [← hm, baseL_len]; rfl
  have fin : ∃ fw fh fv fx fy fs bl H5, r4 = .tup [.agg (mat fw fh fv fx fy fs), .bool bl] ∧ storeE H4 6 (.ptr p 0) (.agg (mat fw fh fv fx fy fs)) = some (.undef, H5) ∧ Hp p H5 [⟨p, 6, mat fw fh fv fx fy fs⟩, ⟨q, 6, mat wn hn v' x' y' s'⟩] ∧ Gr H H5 ∧ IsS RowR H5 fv (docL wn hn m) := by
    by_cases c : rightM w h x y l = true ∧ w = wn ∧ h = hn
    · rw [if_pos c] at hb
      rw [baseL, if_pos c] at hm
      subst hm
      obtain ⟨c1, rfl, rfl⟩ := c
      obtain ⟨v, ov, er, hv⟩ := hg.rows (rightM_Good c1)
      rw [er] at hb
      obtain ⟨H5, s5, g5, k5, _⟩ := (g4.perm (List.Perm.swap _ _ _)).storeN (b := p) (n := 6) (new := mat wn hn v x y s) rfl rfl (mat_one ov)
      have gg5 := toG g5 (k4.trans k5)
      rw [Int.toNat_natCast, Int.toNat_natCast] at hv
      exact ⟨_, _, _, _, _, _, _, H5, hb, s5, g5, gg5, hv.grow (fun x c hc => RowS.grow hc hf gg5) hf gg5⟩
    · rw [if_neg c] at hb
      rw [baseL, if_neg c] at hm
      obtain ⟨u, hb, ou, hu⟩ := hb
      obtain ⟨H5, s5, g5, k5, n5⟩ := (g4.perm (List.Perm.swap _ _ _)).storeN (b := p) (n := 6) (new := mat wn hn u 0 0 false) rfl rfl (mat_one ou)
      have gg5 := toG g5 (k4.trans k5)
      rw [Int.toNat_natCast, Int.toNat_natCast] at hm
      rw [← hm]
      exact ⟨_, _, _, _, _, _, _, H5, hb, s5, g5, gg5, hu H5 (fun c hc => store_other s5 (by have := gr3.next; omega)) n5⟩
  clear hb
  obtain ⟨fw, fh, fv, fx, fy, fs, bl, H5, rfl, s5, g5, gg5, hv5⟩ := fin
  have hv5' : IsS RowR H5 v' (docL wn hn l') := hv'.grow (fun x c hc => RowS.grow hc hf gg5) hf gg5
  have a2 := g5.load (b := p) (k := 6) (cs := mat fw fh fv fx fy fs) (by simp) (o := 2) (v := fv) rfl
  have b0 := g5.load (b := q) (k := 6) (cs := mat wn hn v' x' y' s') (by simp) (o := 0) (v := .int .i64 wn) rfl
  have b1 := g5.load (b := q) (k := 6) (cs := mat wn hn v' x' y' s') (by simp) (o := 1) (v := .int .i64 hn) rfl
  have b2 := g5.load (b := q) (k := 6) (cs := mat wn hn v' x' y' s') (by simp) (o := 2) (v := v') rfl
  have x0 : extractV 0 (.tup [.agg (mat fw fh fv fx fy fs), .bool bl]) = some (.agg (mat fw fh fv fx fy fs)) := rfl
  have x1 : extractV 1 (.tup [.agg (mat fw fh fv fx fy fs), .bool bl]) = some (.bool bl) := rfl
  simp only [x0, x1, s5, SX, reduceCtorEq, Nat.reduceEqDiff, ↓reduceIte, Int.reduceEq, Int.reduceLT, Int.reduceLE, Nat.reduceAdd]
  have hwh : wn * hn ≤ 160000 := by have := Nat.mul_le_mul hw.2 hh.2; omega
  obtain ⟨I, hI⟩ : ∃ I : Nat → Env → AHeap → Prop, ∀ k e H', I k e H' ↔ (H' = H5 ∧ ∃ i : Nat, k = hn - i ∧ i ≤ hn ∧ Env.get e 2 = .ptr p 0 ∧ Env.get e 3 = .ptr q 0 ∧ Env.get e 5 = .int .i64 (unlikeC m l' (i * wn) : Nat) ∧ Env.get e 6 = .int .i64 i) := ⟨_, fun _ _ _ => Iff.rfl⟩
  refine loop_by I hn ?_ ?_
  · exact (hI _ _ _).2 ⟨rfl, 0, rfl, by omega, (by first | (simp only [SG, reduceCtorEq, Nat.reduceEqDiff, ↓reduceIte] <;> rfl) | rfl), (by first | (simp only [SG, reduceCtorEq, Nat.reduceEqDiff, ↓reduceIte] <;> rfl) | rfl), by rw [Nat.zero_mul]; exact (by first | (simp only [SG, reduceCtorEq, Nat.reduceEqDiff, ↓reduceIte] <;> rfl) | rfl), (by first | (simp only [SG, reduceCtorEq, Nat.reduceEqDiff, ↓reduceIte] <;> rfl) | rfl)⟩
  · intro k e H6 hinv
    obtain ⟨hH, i, rfl, hile, e2, e3, e5, e6⟩ := (hI _ _ _).1 hinv
    rw [hH]
    by_cases d : (i : Int) < hn
    · have w1 : IntKind.wrap .i64 ((i : Int) + 1) = ((i + 1 : Nat) : Int) := wrapNat (n := i + 1) (by omega)
      have xi := hv5.at (i := (i : Int)) (by omega) (by rw [docL_len]; exact d) .i64
      obtain ⟨z, lz, hz⟩ := hv5.get (i := (i : Int)) (a := lineP m wn i) (by rw [Int.toNat_natCast]; exact docL_at (by omega))
      have hz : RowS H5 z (lineP m wn i) := hz
      have xi' := hv5'.at (i := (i : Int)) (by omega) (by rw [docL_len]; exact d) .i64
      obtain ⟨z', lz', hz'⟩ := hv5'.get (i := (i : Int)) (a := lineP l' wn i) (by rw [Int.toNat_natCast]; exact docL_at (by omega))
      have hz' : RowS H5 z' (lineP l' wn i) := hz'
      have him : (i + 1) * wn ≤ wn * hn := by rw [Nat.mul_comm wn hn]; exact Nat.mul_le_mul_right _ (by omega)
      rw [Nat.succ_mul] at him
      simp only [e2, e3, e5, e6, b1, d, wantV_undef, SX, reduceCtorEq, Nat.reduceEqDiff, ↓reduceIte, Int.reduceEq, Int.reduceLT, Int.reduceLE, Nat.reduceAdd]
      obtain ⟨J, hJ⟩ : ∃ J : Nat → Env → AHeap → Prop, ∀ k e H', J k e H' ↔ (H' = H5 ∧ ∃ j : Nat, k = wn - j ∧ j ≤ wn ∧ Env.get e 2 = .ptr p 0 ∧ Env.get e 3 = .ptr q 0 ∧ Env.get e 5 = .int .i64 (unlikeC m l' (i * wn + j) : Nat) ∧ Env.get e 6 = .int .i64 i ∧ Env.get e 7 = .int .i64 j) := ⟨_, fun _ _ _ => Iff.rfl⟩
      refine loop_by J wn ?_ ?_
      · exact (hJ _ _ _).2 ⟨rfl, 0, rfl, by omega, (by simp only [SG, reduceCtorEq, Nat.reduceEqDiff, ↓reduceIte, e2] <;> rfl), (by simp only [SG, reduceCtorEq, Nat.reduceEqDiff, ↓reduceIte, e3] <;> rfl), (by simp only [SG, reduceCtorEq, Nat.reduceEqDiff, ↓reduceIte, e5] <;> rfl), (by simp only [SG, reduceCtorEq, Nat.reduceEqDiff, ↓reduceIte, e6] <;> rfl), (by first | (simp only [SG, reduceCtorEq, Nat.reduceEqDiff, ↓reduceIte] <;> rfl) | rfl)⟩
      clear e2 e3 e5 e6
      intro k2 e' H7 hinv2
      obtain ⟨hH7, j, rfl, hj, e2, e3, e5, e6, e7⟩ := (hJ _ _ _).1 hinv2
      rw [hH7]
      by_cases dj : (j : Int) < wn
      · obtain ⟨c, hc⟩ : ∃ c, l'[i * wn + j]? = some c := ⟨_, List.getElem?_eq_getElem (by omega)⟩
        obtain ⟨u, hu⟩ : ∃ u, m[i * wn + j]? = some u := ⟨_, List.getElem?_eq_getElem (by omega)⟩
        obtain ⟨c1, o1, ix, l7, _⟩ := hz.cell (i := j) (c := u) (by rw [line_at (by omega)]; exact hu) .i64
        obtain ⟨c2, o2, ix', l7', _⟩ := hz'.cell (i := j) (c := c) (by rw [line_at (by omega)]; exact hc) .i64
        have w2 : IntKind.wrap .i64 ((j : Int) + 1) = ((j + 1 : Nat) : Int) := wrapNat (n := j + 1) (by omega)
        have un := unlikeC_le m l' (i * wn + j)
        have w3 : IntKind.wrap .i64 ((unlikeC m l' (i * wn + j) : Int) + 1) = ((unlikeC m l' (i * wn + j) + 1 : Nat) : Int) := wrapNat (n := unlikeC m l' (i * wn + j) + 1) (by omega)
        have sq := seq7d u c
        by_cases cz : u = c
        · have dz := decide_eq_true cz
          have nx : unlikeC m l' (i * wn + (j + 1)) = unlikeC m l' (i * wn + j) := by rw [← Nat.add_assoc, unlikeC, if_pos (by rw [getDof hc, getDof hu]; exact cz.symm)]; rfl
          simp only [e2, e3, e5, e6, e7, a2, b0, b2, dj, xi, lz, ix, l7, xi', lz', ix', l7', run_seq, sq, dz, w2, wantV_undef, SX, reduceCtorEq, Nat.reduceEqDiff, ↓reduceIte, Int.reduceEq, Int.reduceLT, Int.reduceLE, Nat.reduceAdd]
          exact ⟨wn - (j + 1), by omega, (hJ _ _ _).2 ⟨rfl, j + 1, rfl, by omega, (by simp only [SG, reduceCtorEq, Nat.reduceEqDiff, ↓reduceIte, e2] <;> rfl), (by simp only [SG, reduceCtorEq, Nat.reduceEqDiff, ↓reduceIte, e3] <;> rfl), by rw [nx]; exact (by simp only [SG, reduceCtorEq, Nat.reduceEqDiff, ↓reduceIte, e5] <;> rfl), (by simp only [SG, reduceCtorEq, Nat.reduceEqDiff, ↓reduceIte, e6] <;> rfl), (by first | (simp only [SG, reduceCtorEq, Nat.reduceEqDiff, ↓reduceIte] <;> rfl) | rfl)⟩⟩
        · have dz := decide_eq_false cz
          have nx : unlikeC m l' (i * wn + (j + 1)) = unlikeC m l' (i * wn + j) + 1 := by rw [← Nat.add_assoc, unlikeC, if_neg (by rw [getDof hc, getDof hu]; exact fun e => cz e.symm)]
          simp only [e2, e3, e5, e6, e7, a2, b0, b2, dj, xi, lz, ix, l7, xi', lz', ix', l7', run_seq, sq, dz, w2, w3, wantV_undef, SX, reduceCtorEq, Nat.reduceEqDiff, ↓reduceIte, Int.reduceEq, Int.reduceLT, Int.reduceLE, Nat.reduceAdd]
          exact ⟨wn - (j + 1), by omega, (hJ _ _ _).2 ⟨rfl, j + 1, rfl, by omega, (by simp only [SG, reduceCtorEq, Nat.reduceEqDiff, ↓reduceIte, e2] <;> rfl), (by simp only [SG, reduceCtorEq, Nat.reduceEqDiff, ↓reduceIte, e3] <;> rfl), by rw [nx]; exact (by first | (simp only [SG, reduceCtorEq, Nat.reduceEqDiff, ↓reduceIte] <;> rfl) | rfl), (by simp only [SG, reduceCtorEq, Nat.reduceEqDiff, ↓reduceIte, e6] <;> rfl), (by first | (simp only [SG, reduceCtorEq, Nat.reduceEqDiff, ↓reduceIte] <;> rfl) | rfl)⟩⟩
      · obtain rfl : j = wn := by omega
        simp only [e2, e3, e5, e6, e7, b0, dj, w1, wantV_undef, SX, reduceCtorEq, Nat.reduceEqDiff, ↓reduceIte, Int.reduceEq, Int.reduceLT, Int.reduceLE, Nat.reduceAdd]
        exact ⟨hn - (i + 1), by omega, (hI _ _ _).2 ⟨rfl, i + 1, rfl, by omega, (by simp only [SG, reduceCtorEq, Nat.reduceEqDiff, ↓reduceIte, e2] <;> rfl), (by simp only [SG, reduceCtorEq, Nat.reduceEqDiff, ↓reduceIte, e3] <;> rfl), by rw [Nat.succ_mul]; exact (by simp only [SG, reduceCtorEq, Nat.reduceEqDiff, ↓reduceIte, e5] <;> rfl), (by first | (simp only [SG, reduceCtorEq, Nat.reduceEqDiff, ↓reduceIte] <;> rfl) | rfl)⟩⟩
    · obtain rfl : i = hn := by omega
      simp only [e2, e3, e5, e6, b1, d, SX, reduceCtorEq, Nat.reduceEqDiff, ↓reduceIte, Int.reduceEq, Int.reduceLT, Int.reduceLE, Nat.reduceAdd]
      exact ⟨by unfold unlikeM; rw [if_pos bad, hm, hl', Nat.mul_comm wn i], gg5⟩
end
def bitP (n : Int) : Int := if n = 1 then 1 else if n = 2 then 2 else if n = 3 then 4 else if n = 4 then 8 else if n = 5 then 16 else if n = 7 then 32 else if n = 8 then 64 else if n = 9 then 128 else 0
def quoV (k : IntKind) (a b : Int) : Int := k.wrap (a.tdiv b)
theorem bin_quoV (k : IntKind) (a b : Int) (h : b ≠ 0) : binV .quo (.int k a) (.int k b) = some (.int k (quoV k a b)) := by simp [binV, intBin, quoV, h]
theorem bin_remV (k : IntKind) (a b : Int) (h : b ≠ 0) : binV .rem (.int k a) (.int k b) = some (.int k (a.tmod b)) := by simp [binV, intBin, h]
theorem wrapU8 {x : Int} (h0 : 0 ≤ x) (h1 : x ≤ 255) : IntKind.wrap .u8 x = x := by
  simp [IntKind.wrap, IntKind.signed, IntKind.bits]
  omega
theorem D_lenN : ∀ (k n : Nat), n < 10 ^ (k + 1) → (D n).length ≤ k + 1
  | 0, n, h => by rw [D1 (by omega)]; simp
  | k + 1, n, h => by
    by_cases h1 : n < 10
    · rw [D1 h1]; simp
    · rw [Dq h1, D1 (n := n % 10) (by omega), List.length_append]
      have : n < 10 ^ (k + 1) * 10 := by rw [← Nat.pow_succ]; exact h
      have := D_lenN k (n / 10) (by omega)
      simp; omega
theorem sob1 {base : Nat} {H : AHeap} {l : List Cel} {b k : Nat} {x : Int} (h : Hp base H (⟨b, k, [.int .u8 x]⟩ :: l)) : strOfBytesV H (.slc b 0 1 1) = some (.str [UInt8.ofNat x.toNat]) := by
  obtain ⟨B, r, hc⟩ := h.rowOf (List.mem_cons_self ..)
  simp only [strOfBytesV, ROp.run, Opd.ev, r, hc]
  rfl
/-- what the walks of the bytes lean on -/
def testD (fl : Int) (i : Nat) : Bool := decide (andV .u16 fl (bitP ((i : Int) + 1)) = 0)
def sD (fl : Int) : Nat → List UInt8
  | 0 => [27, 91, 48]
  | i + 1 => if testD fl i = true then sD fl i else sD fl i ++ (59 :: dec3 (i + 1))
theorem sD_len (fl : Int) : ∀ i, (sD fl i).length ≤ 3 + 4 * i
  | 0 => by simp [sD]
  | i + 1 => by
    have h1 := sD_len fl i
    have h2 := dec3_len (i + 1)
    unfold sD; split <;> simp <;> omega
set_option maxRecDepth 100000 in
theorem sEq_all : ((List.range 256).all fun m => sA (m : Int) 8 == sD (m : Int) 9) = true := by kernel_rfl
theorem sEq {fl : Int} (h0 : 0 ≤ fl) (h1 : fl ≤ 255) : sA fl 8 = sD fl 9 := by
  obtain ⟨m, rfl⟩ : ∃ m : Nat, fl = m := ⟨fl.toNat, by omega⟩
  have := List.all_eq_true.1 sEq_all m (List.mem_range.2 (by omega))
  simpa using this
/-- what leads from an attribute to another, by the document -/
def betD (c d : Ce) : List UInt8 := if sameA c d ∨ attrP d = false then [] else ((sD d.f 9 ++ saysP 38 d.k1 d.n1) ++ saysP 48 d.k2 d.n2) ++ [109]
theorem betD_eq {c d : Ce} (h : 0 ≤ d.f) : betD c d = betC c d := by
  unfold betD betC
  by_cases hh : sameA c d ∨ attrP d = false
  · rw [if_pos hh, if_pos hh]
  · rw [if_neg hh, if_neg hh]
    have h2 : d.f ≤ 255 := by
      cases hr : attrP d with
      | false => exact absurd (.inr hr) hh
      | true =>
        simp only [attrP, Bool.and_eq_true, decide_eq_true_eq] at hr
        exact hr.1.1
    rw [← sEq h h2]
section
variable {Q : Prog} (mq : PmQ Q) {H : AHeap}
include mq
set_option maxRecDepth 100000 in
theorem bit_run {n : Int} (hn : n = 1 ∨ n = 2 ∨ n = 3 ∨ n = 4 ∨ n = 5 ∨ n = 7 ∨ n = 8 ∨ n = 9) : FnTo Q 46 [.int .i64 n] H (fun r H' => r = .int .u16 (bitP n) ∧ H' = H) := by
  rcases hn with rfl | rfl | rfl | rfl | rfl | rfl | rfl | rfl
  all_goals
    refine ⟨10, _, _, fun k hk => ?_, rfl, rfl⟩
    obtain ⟨m, rfl⟩ : ∃ m, k = m + 10 := ⟨k - 10, by omega⟩
    simp only [callF, mq.ho 46 rfl, mq.q46]
    kernel_rfl
set_option maxHeartbeats 4000000 in
theorem bit_spec (n : Int) : FnTo Q 46 [.int .i64 n] H (fun r H' => r = .int .u16 (bitP n) ∧ H' = H) := by
  by_cases hn : n = 1 ∨ n = 2 ∨ n = 3 ∨ n = 4 ∨ n = 5 ∨ n = 7 ∨ n = 8 ∨ n = 9
  · exact bit_run mq hn
  · refine fn_wp (mq.ho 46 rfl _) mq.q46 (by simp [A46]) ?_
    have d1 : decide (n = 1) = false := by simp only [decide_eq_false_iff_not]; omega
    have d2 : decide (n = 2) = false := by simp only [decide_eq_false_iff_not]; omega
    have d3 : decide (n = 3) = false := by simp only [decide_eq_false_iff_not]; omega
    have d4 : decide (n = 4) = false := by simp only [decide_eq_false_iff_not]; omega
    have d5 : decide (n = 5) = false := by simp only [decide_eq_false_iff_not]; omega
    have d7 : decide (n = 7) = false := by simp only [decide_eq_false_iff_not]; omega
    have d8 : decide (n = 8) = false := by simp only [decide_eq_false_iff_not]; omega
    have d9 : decide (n = 9) = false := by simp only [decide_eq_false_iff_not]; omega
    simp only [A46, d1, d2, d3, d4, d5, d7, d8, d9, SX, reduceCtorEq, Nat.reduceEqDiff, ↓reduceIte, Int.reduceEq, Int.reduceLT, Int.reduceLE, Nat.reduceAdd]
    unfold bitP
    (repeat' split) <;> first | rfl | (exfalso; omega)
set_option maxHeartbeats 4000000 in
theorem digits_spec : ∀ (n : Nat) {H : AHeap}, n < 4294967296 → Fr H → FnTo Q 47 [.int .u32 n] H (fun r H' => r = .str (D n) ∧ Gr H H') := by
  intro n
  induction n using Nat.strongRecOn with
  | _ n ih =>
    intro H hn hf
    refine fn_wp (mq.ho 47 rfl _) mq.q47 (by simp [A47]) ?_
    by_cases c : n < 10
    · have d : decide ((n : Int) < 10) = true := decide_eq_true (by omega)
      have w1 : IntKind.wrap .u32 (48 + (n : Int)) = 48 + (n : Int) := wrapU32k (by omega) (by omega)
      have w2 : IntKind.wrap .u8 (48 + (n : Int)) = 48 + (n : Int) := wrapU8 (by omega) (by omega)
      obtain ⟨H1, s1, h1, k1⟩ := (Hp.nil H hf).make [.int .u8 (48 + (n : Int))] 1
      have sb := sob1 h1
      have e : (48 + (n : Int)).toNat = 48 + n := by omega
      rw [e] at sb
      simp only [A47, d, w1, w2, s1, sb, SX, reduceCtorEq, Nat.reduceEqDiff, ↓reduceIte, Int.reduceEq, Int.reduceLT, Int.reduceLE, Nat.reduceAdd]
      exact ⟨by rw [D1 c], h1.gr k1⟩
    · have d : decide ((n : Int) < 10) = false := decide_eq_false (by omega)
      have q1 : binV .quo (.int .u32 (n : Int)) (.int .u32 10) = some (.int .u32 ((n / 10 : Nat) : Int)) := by
        rw [bin_quoV _ _ _ (by decide)]
        congr 2
        unfold quoV
        rw [Int.tdiv_eq_ediv_of_nonneg (by omega), wrapU32k (by omega) (by omega)]
        omega
      have q2 : binV .rem (.int .u32 (n : Int)) (.int .u32 10) = some (.int .u32 ((n % 10 : Nat) : Int)) := by
        rw [bin_remV _ _ _ (by decide)]
        rfl
      simp only [A47, d, q1, q2, SX, reduceCtorEq, Nat.reduceEqDiff, ↓reduceIte, Int.reduceEq, Int.reduceLT, Int.reduceLE, Nat.reduceAdd]
      refine (ih (n / 10) (by omega) (by omega) hf).mono ?_
      rintro _ H1 ⟨rfl, g1⟩
      simp only [q1, q2, SX, reduceCtorEq, Nat.reduceEqDiff, ↓reduceIte, Int.reduceEq, Int.reduceLT, Int.reduceLE, Nat.reduceAdd]
      refine (ih (n % 10) (by omega) (by omega) g1.fr).mono ?_
      rintro _ H2 ⟨rfl, g2⟩
      have ad := bin_adds (D (n / 10)) (D (n % 10)) (by have := D_lenN 9 (n / 10) (by omega); have := D_lenN 9 (n % 10) (by omega); omega)
      simp only [ad, SX, reduceCtorEq, Nat.reduceEqDiff, ↓reduceIte, Int.reduceEq, Int.reduceLT, Int.reduceLE, Nat.reduceAdd]
      exact ⟨by rw [Dq c], g1.trans g2⟩
set_option maxHeartbeats 4000000 in
theorem saysR_spec {c : Nat} (hc : c = 38 ∨ c = 48) {k n : Int} (hn : 0 ≤ n) (hk : colP k n = true) (hf : Fr H) : FnTo Q 48 [.str (D c), .agg [.int .u8 k, .int .u32 n]] H (fun r H' => r = .str (saysP c k n) ∧ Gr H H') := by
  refine fn_wp (mq.ho 48 rfl _) mq.q48 (by simp [A48]) ?_
  have lc := D_len (n := c) (by omega)
  obtain ⟨H1, s1, h1, k1⟩ := (Hp.nil H hf).make [.int .u8 k, .int .u32 n] 2
  have g1 := h1.gr k1
  have l0 := h1.load (List.mem_cons_self ..) (o := 0) (v := .int .u8 k) rfl
  have l1 : ∀ {H'}, Gr H1 H' → loadV H' none (.ptr H.next 1) = some (.int .u32 n) := fun {H'} g => (h1.keep g.keep g.next g.fr).load (k := 2) (List.mem_cons_self ..) rfl
  have l10 := l1 (Gr.refl g1.fr)
  have bx : boxV (.agg [.int .u8 k, .int .u32 n]) = some (.row ⟨[.int .u8 k, .int .u32 n], 0, false, true, 0⟩, .ptr) := rfl
  simp only [colP, Bool.or_eq_true, Bool.and_eq_true, decide_eq_true_eq] at hk
  have a1 := bin_adds [59] (D c) (by simp; omega)
  by_cases c1 : k = 1
  · have d1 : decide (k = 1) = true := decide_eq_true c1
    obtain ⟨m, rfl⟩ : ∃ m : Nat, n = m := ⟨n.toNat, by omega⟩
    have lm := D_len (n := m) (by omega)
    have a2 := bin_adds ([59] ++ D c) [58, 53, 58] (by simp; omega)
    simp only [A48, bx, s1, l0, l10, d1, a1, a2, SX, reduceCtorEq, Nat.reduceEqDiff, ↓reduceIte, Int.reduceEq, Int.reduceLT, Int.reduceLE, Nat.reduceAdd]
    refine (digits_spec mq m (by omega) g1.fr).mono ?_
    rintro _ H2 ⟨rfl, g2⟩
    have a3 := bin_adds ([59] ++ D c ++ [58, 53, 58]) (D m) (by simp; omega)
    simp only [a3, SX, reduceCtorEq, Nat.reduceEqDiff, ↓reduceIte, Int.reduceEq, Int.reduceLT, Int.reduceLE, Nat.reduceAdd]
    refine ⟨?_, g1.trans g2⟩
    unfold saysP
    rw [if_pos c1]; simp
  have d1 : decide (k = 1) = false := decide_eq_false c1
  by_cases c2 : k = 2
  · have d2 : decide (k = 2) = true := decide_eq_true c2
    obtain ⟨m, rfl⟩ : ∃ m : Nat, n = m := ⟨n.toNat, by omega⟩
    have hm : m < 16777216 := by omega
    have qq : ∀ (x y : Nat), x < 4294967296 → 0 < y → binV .quo (.int .u32 (x : Int)) (.int .u32 (y : Int)) = some (.int .u32 ((x / y : Nat) : Int)) := fun x y hx hy => by
      rw [bin_quoV _ _ _ (by omega)]
      have : quoV .u32 (x : Int) (y : Int) = ((x / y : Nat) : Int) := by
        have h3 : x / y ≤ x := Nat.div_le_self ..
        have h4 : ((x : Int)).tdiv (y : Int) = ((x / y : Nat) : Int) := rfl
        unfold quoV
        rw [h4]
        generalize x / y = z at h3 ⊢
        rw [wrapU32k (by omega) (by omega)]
      rw [this]
    have rr : ∀ (x y : Nat), 0 < y → binV .rem (.int .u32 (x : Int)) (.int .u32 (y : Int)) = some (.int .u32 ((x % y : Nat) : Int)) := fun x y hy => by
      rw [bin_remV _ _ _ (by omega)]; rfl
    have q1 : binV .quo (.int .u32 (m : Int)) (.int .u32 65536) = _ := qq m 65536 (by omega) (by omega)
    have q2 : binV .quo (.int .u32 (m : Int)) (.int .u32 256) = _ := qq m 256 (by omega) (by omega)
    have q3 : binV .rem (.int .u32 ((m / 256 : Nat) : Int)) (.int .u32 256) = _ := rr (m / 256) 256 (by omega)
    have q4 : binV .rem (.int .u32 (m : Int)) (.int .u32 256) = _ := rr m 256 (by omega)
    have e1 := D_len (n := m / 65536) (by omega)
    have e2 := D_len (n := m / 256 % 256) (by omega)
    have e3 := D_len (n := m % 256) (by omega)
    have a2 := bin_adds ([59] ++ D c) [58, 50, 58, 58] (by simp; omega)
    have ec : AV.same (.int .u32 (m : Int)) (.int .u32 (m : Int)) = true := by simp [AV.same, AV.same1]
    simp only [A48, bx, s1, l0, l10, d1, d2, a1, a2, q1, q2, q3, q4, SX, reduceCtorEq, Nat.reduceEqDiff, ↓reduceIte, Int.reduceEq, Int.reduceLT, Int.reduceLE, Nat.reduceAdd]
    refine (digits_spec mq (m / 65536) (by omega) g1.fr).mono ?_
    rintro _ H2 ⟨rfl, g2⟩
    have l12 := l1 g2
    refine ⟨by simp only [echoOk, l12, ec, Bool.and_self, SX, reduceCtorEq, Nat.reduceEqDiff, ↓reduceIte, Int.reduceEq, Int.reduceLT, Int.reduceLE, Nat.reduceAdd], ?_⟩
    have a3 := bin_adds ([59] ++ D c ++ [58, 50, 58, 58]) (D (m / 65536)) (by simp; omega)
    have a4 := bin_adds ([59] ++ D c ++ [58, 50, 58, 58] ++ D (m / 65536)) [58] (by simp; omega)
    simp only [a3, a4, SX, reduceCtorEq, Nat.reduceEqDiff, ↓reduceIte, Int.reduceEq, Int.reduceLT, Int.reduceLE, Nat.reduceAdd]
    refine (digits_spec mq (m / 256 % 256) (by omega) g2.fr).mono ?_
    rintro _ H3 ⟨rfl, g3⟩
    have l13 := l1 (g2.trans g3)
    refine ⟨by simp only [echoOk, l13, ec, Bool.and_self, SX, reduceCtorEq, Nat.reduceEqDiff, ↓reduceIte, Int.reduceEq, Int.reduceLT, Int.reduceLE, Nat.reduceAdd], ?_⟩
    have a5 := bin_adds ([59] ++ D c ++ [58, 50, 58, 58] ++ D (m / 65536) ++ [58]) (D (m / 256 % 256)) (by simp; omega)
    have a6 := bin_adds ([59] ++ D c ++ [58, 50, 58, 58] ++ D (m / 65536) ++ [58] ++ D (m / 256 % 256)) [58] (by simp; omega)
    simp only [a5, a6, SX, reduceCtorEq, Nat.reduceEqDiff, ↓reduceIte, Int.reduceEq, Int.reduceLT, Int.reduceLE, Nat.reduceAdd]
    refine (digits_spec mq (m % 256) (by omega) g3.fr).mono ?_
    rintro _ H4 ⟨rfl, g4⟩
    have a7 := bin_adds ([59] ++ D c ++ [58, 50, 58, 58] ++ D (m / 65536) ++ [58] ++ D (m / 256 % 256) ++ [58]) (D (m % 256)) (by simp; omega)
    simp only [a7, SX, reduceCtorEq, Nat.reduceEqDiff, ↓reduceIte, Int.reduceEq, Int.reduceLT, Int.reduceLE, Nat.reduceAdd]
    refine ⟨?_, ((g1.trans g2).trans g3).trans g4⟩
    unfold saysP
    rw [if_neg c1, if_pos c2]; simp
  have d2 : decide (k = 2) = false := decide_eq_false c2
  simp only [A48, bx, s1, l0, l10, d1, d2, SX, reduceCtorEq, Nat.reduceEqDiff, ↓reduceIte, Int.reduceEq, Int.reduceLT, Int.reduceLE, Nat.reduceAdd]
  refine ⟨?_, g1⟩
  unfold saysP
  rw [if_neg c1, if_neg c2]
set_option maxHeartbeats 8000000 in
theorem betweenR_spec {c d : Ce} (hb1 : 0 ≤ d.n1) (hb2 : 0 ≤ d.n2) (hf : Fr H) : FnTo Q 34 [.agg c.at, .agg d.at] H (fun r H' => r = .str (betD c d) ∧ Gr H H') := by
  refine fn_wp (mq.ho 34 rfl _) mq.q34 (by simp [A34]) ?_
  obtain ⟨H1, s1, h1, k1⟩ := (Hp.nil H hf).make c.at 5
  obtain ⟨H2, s2, h2, k2⟩ := h1.make d.at 5
  have g2 : Gr H H2 := h2.gr (k1.trans k2)
  have la0 := h2.loadN (b := H.next) (k := 5) (cs := c.at) (by simp) (n := 5) rfl
  have lb0 := h2.loadN (b := H1.next) (k := 5) (cs := d.at) (by simp) (n := 5) rfl
  have bc : c.at.all AV.one = true := rfl
  have bd : d.at.all AV.one = true := rfl
  by_cases hab : sameA c d
  · simp only [A34, boxV_agg bc, boxV_agg bd, s1, s2, la0, lb0, seq5f, decide_eq_true hab, wantV_undef, SX, reduceCtorEq, Nat.reduceEqDiff, ↓reduceIte, Int.reduceEq, Int.reduceLT, Int.reduceLE, Nat.reduceAdd]
    exact ⟨by unfold betD; rw [if_pos (.inl hab)], g2⟩
  simp only [A34, boxV_agg bc, boxV_agg bd, s1, s2, la0, lb0, seq5f, decide_eq_false hab, wantV_undef, SX, reduceCtorEq, Nat.reduceEqDiff, ↓reduceIte, Int.reduceEq, Int.reduceLT, Int.reduceLE, Nat.reduceAdd]
  refine (attrR_spec mq d g2.fr).mono ?_
  rintro _ H3 ⟨rfl, g3⟩
  cases hr : attrP d with
  | false =>
    simp only [wantV_undef, SX, reduceCtorEq, Nat.reduceEqDiff, ↓reduceIte, Int.reduceEq, Int.reduceLT, Int.reduceLE, Nat.reduceAdd]
    exact ⟨by unfold betD; rw [if_pos (.inr hr)], g2.trans g3⟩
  | true =>
    have hr' := hr
    simp only [attrP, Bool.and_eq_true, decide_eq_true_eq] at hr'
    obtain ⟨⟨hr1, hr2⟩, hr3⟩ := hr'
    have h3 := h2.keep g3.keep g3.next g3.fr
    have lf : ∀ {H'}, Gr H3 H' → loadV H' none (.ptr H1.next 0) = some (.int .u16 d.f) := fun {H'} g => (h3.keep g.keep g.next g.fr).load (k := 5) (cs := d.at) (List.mem_of_getElem? (i := 0) rfl) rfl
    have l1 : ∀ {H'}, Gr H3 H' → loadV H' (some 2) (.ptr H1.next 1) = some (.agg [.int .u8 d.k1, .int .u32 d.n1]) := fun {H'} g => (h3.keep g.keep g.next g.fr).loadO (a := [.int .u16 d.f]) (x := [.int .u8 d.k1, .int .u32 d.n1]) (c := [.int .u8 d.k2, .int .u32 d.n2]) (k := 5) (List.mem_of_getElem? (i := 0) rfl) rfl rfl
    have l3 : ∀ {H'}, Gr H3 H' → loadV H' (some 2) (.ptr H1.next 3) = some (.agg [.int .u8 d.k2, .int .u32 d.n2]) := fun {H'} g => (h3.keep g.keep g.next g.fr).loadO (a := [.int .u16 d.f, .int .u8 d.k1, .int .u32 d.n1]) (x := [.int .u8 d.k2, .int .u32 d.n2]) (c := []) (k := 5) (List.mem_of_getElem? (i := 0) rfl) rfl rfl
    simp only [wantV_undef, SX, reduceCtorEq, Nat.reduceEqDiff, ↓reduceIte, Int.reduceEq, Int.reduceLT, Int.reduceLE, Nat.reduceAdd]
    obtain ⟨I, hI⟩ : ∃ I : Nat → Env → AHeap → Prop, ∀ m e H', I m e H' ↔ (Gr H3 H' ∧ ∃ i : Nat, m = 9 - i ∧ i ≤ 9 ∧ Env.get e 3 = .ptr H1.next 0 ∧ Env.get e 5 = .str (sD d.f i) ∧ Env.get e 6 = .int .i64 ((i + 1 : Nat) : Int)) := ⟨_, fun _ _ _ => Iff.rfl⟩
    refine loop_by I 9 ?_ ?_
    · refine (hI _ _ _).2 ⟨Gr.refl g3.fr, 0, rfl, by omega, ?_⟩
      simp only [SX, reduceCtorEq, Nat.reduceEqDiff, ↓reduceIte, Int.reduceEq, Int.reduceLT, Int.reduceLE, Nat.reduceAdd]
      exact ⟨rfl, rfl⟩
    · intro m e H' hinv
      obtain ⟨g', i, rfl, hi, e3, e5, e6⟩ := (hI _ _ _).1 hinv
      have lf' := lf g'
      by_cases dd : (((i + 1 : Nat) : Int)) < 10
      · have d' : decide (((i + 1 : Nat) : Int) < 10) = true := decide_eq_true dd
        have w1 : IntKind.wrap .i64 (((i + 1 : Nat) : Int) + 1) = ((i + 1 + 1 : Nat) : Int) := by rw [wrapI64 (by omega) (by omega)]; rfl
        have w2 : IntKind.wrap .u32 ((i + 1 : Nat) : Int) = ((i + 1 : Nat) : Int) := wrapU32k (by omega) (by omega)
        have ec : AV.same (.int .u16 d.f) (.int .u16 d.f) = true := by simp [AV.same, AV.same1]
        have nx : ∀ s e' H'', Gr H' H'' → s = sD d.f (i + 1) → Env.get e' 3 = .ptr H1.next 0 → Env.get e' 5 = .str s → Env.get e' 6 = .int .i64 ((i + 1 + 1 : Nat) : Int) → ∃ m', m' < 9 - i ∧ I m' e' H'' := by
          intro s e' H'' g'' hs f1 f2 f3
          subst hs
          exact ⟨9 - (i + 1), by omega, (hI _ _ _).2 ⟨g'.trans g'', i + 1, rfl, by omega, f1, f2, f3⟩⟩
        simp only [e3, e5, e6, d', lf', SX, reduceCtorEq, Nat.reduceEqDiff, ↓reduceIte, Int.reduceEq, Int.reduceLT, Int.reduceLE, Nat.reduceAdd]
        refine (bit_spec mq (((i + 1 : Nat) : Int))).mono ?_
        rintro _ H4 ⟨rfl, hx⟩
        subst hx
        have an := bin_andV .u16 d.f (bitP ((i + 1 : Nat) : Int))
        refine ⟨by simp only [echoOk, e3, lf', ec, Bool.and_self, SX, reduceCtorEq, Nat.reduceEqDiff, ↓reduceIte, Int.reduceEq, Int.reduceLT, Int.reduceLE, Nat.reduceAdd], ?_⟩
        cases ht : testD d.f i with
        | true =>
          have dt : decide (andV .u16 d.f (bitP ((i + 1 : Nat) : Int)) = 0) = true := ht
          simp only [e3, e5, e6, an, dt, w1, SX, reduceCtorEq, Nat.reduceEqDiff, ↓reduceIte, Int.reduceEq, Int.reduceLT, Int.reduceLE, Nat.reduceAdd]
          refine nx (sD d.f i) _ _ (Gr.refl g'.fr) (by rw [sD, if_pos ht]) ?_ ?_ ?_ <;> simp only [e3, e5, e6, SX, reduceCtorEq, Nat.reduceEqDiff, ↓reduceIte, Int.reduceEq, Int.reduceLT, Int.reduceLE, Nat.reduceAdd]
        | false =>
          have dt : decide (andV .u16 d.f (bitP ((i + 1 : Nat) : Int)) = 0) = false := ht
          have sl := sD_len d.f i
          have a1 := bin_adds (sD d.f i) [59] (by simp; omega)
          simp only [e3, e5, e6, an, dt, w1, w2, a1, SX, reduceCtorEq, Nat.reduceEqDiff, ↓reduceIte, Int.reduceEq, Int.reduceLT, Int.reduceLE, Nat.reduceAdd]
          refine (digits_spec mq (i + 1) (by omega) g'.fr).mono ?_
          rintro _ H5 ⟨rfl, g5⟩
          have dl := D_len (n := i + 1) (by omega)
          have a2 := bin_adds (sD d.f i ++ [59]) (D (i + 1)) (by simp; omega)
          simp only [e3, e5, e6, a2, w1, SX, reduceCtorEq, Nat.reduceEqDiff, ↓reduceIte, Int.reduceEq, Int.reduceLT, Int.reduceLE, Nat.reduceAdd]
          refine nx (sD d.f i ++ [59] ++ D (i + 1)) _ _ g5 (by rw [sD, if_neg (by rw [ht]; simp), ← dec3_eq (by omega)]; simp) ?_ ?_ ?_ <;> simp only [e3, e5, e6, SX, reduceCtorEq, Nat.reduceEqDiff, ↓reduceIte, Int.reduceEq, Int.reduceLT, Int.reduceLE, Nat.reduceAdd]
      · have d' : decide (((i + 1 : Nat) : Int) < 10) = false := decide_eq_false dd
        obtain rfl : i = 9 := by omega
        have sl := sD_len d.f 9
        have q1 := saysP_len (c := 38) (.inl rfl) hb1 hr2
        have q2 := saysP_len (c := 48) (.inr rfl) hb2 hr3
        have l10 := l1 g'
        have l30 := l3 g'
        simp only [e3, e5, e6, d', l10, l30, SX, reduceCtorEq, Nat.reduceEqDiff, ↓reduceIte, Int.reduceEq, Int.reduceLT, Int.reduceLE, Nat.reduceAdd]
        have e38 : ([51, 56] : List UInt8) = D 38 := by rw [dec3_eq (by omega)]; rfl
        have e48 : ([52, 56] : List UInt8) = D 48 := by rw [dec3_eq (by omega)]; rfl
        rw [e38, e48]
        refine (saysR_spec mq (c := 38) (.inl rfl) hb1 hr2 g'.fr).mono ?_
        rintro _ H4 ⟨rfl, g4⟩
        have l34 := l3 (g'.trans g4)
        have ec : AV.same (.agg [.int .u8 d.k2, .int .u32 d.n2]) (.agg [.int .u8 d.k2, .int .u32 d.n2]) = true := by simp [AV.same, AV.sameL, AV.same1]
        have a1 := bin_adds (sD d.f 9) (saysP 38 d.k1 d.n1) (by omega)
        refine ⟨by simp only [echoOk, e3, l34, ec, Bool.and_self, SX, reduceCtorEq, Nat.reduceEqDiff, ↓reduceIte, Int.reduceEq, Int.reduceLT, Int.reduceLE, Nat.reduceAdd], ?_⟩
        simp only [e3, e5, a1, SX, reduceCtorEq, Nat.reduceEqDiff, ↓reduceIte, Int.reduceEq, Int.reduceLT, Int.reduceLE, Nat.reduceAdd]
        refine (saysR_spec mq (c := 48) (.inr rfl) hb2 hr3 g4.fr).mono ?_
        rintro _ H5 ⟨rfl, g5⟩
        have a2 := bin_adds (sD d.f 9 ++ saysP 38 d.k1 d.n1) (saysP 48 d.k2 d.n2) (by simp; omega)
        have a3 := bin_adds (sD d.f 9 ++ saysP 38 d.k1 d.n1 ++ saysP 48 d.k2 d.n2) [109] (by simp; omega)
        simp only [e3, e5, a2, a3, SX, reduceCtorEq, Nat.reduceEqDiff, ↓reduceIte, Int.reduceEq, Int.reduceLT, Int.reduceLE, Nat.reduceAdd]
        exact ⟨by unfold betD; rw [if_neg (fun h => h.elim hab (fun h => by rw [hr] at h; cases h))], ((((g2.trans g3).trans g').trans g4).trans g5)⟩
end
end Go.Proofs.YtfcnjfbnffijhaaDoor.AM
