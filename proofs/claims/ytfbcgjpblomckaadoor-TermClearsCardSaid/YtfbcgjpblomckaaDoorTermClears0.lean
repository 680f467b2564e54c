/-
  TermClears: behind a clearing of all, what was fed ahead turns nothing; the law's walk on the abstract machine.
-/
import Derived.Test.YtfbcgjpblomckaaDoorTmX3
set_option linter.unusedVariables false
set_option linter.unusedSimpArgs false
namespace Go.Proofs.YtfbcgjpblomckaaDoor.AM.EvN
open Go
section
variable {Q : Prog} (tq : TwQ Q) {H : AHeap}
include tq
set_option maxHeartbeats 16000000 in
theorem law5 (q5 : Q.fns 5 = some A5) (tb : Q.tabs = TT) (yes : Q.orc 10 [] = some (.bool true)) (ht : hasTabs H TT = true) (hf : Fr H) (w h : Int) (s t : List UInt8) :
    FnTo Q 5 [.int .i64 w, .int .i64 h, .str s, .str t] H (fun r _ => r = .bool true) := by
  refine fn_wp (tq.at_.ho 5 rfl _) q5 (by simp [A5]) ?_
  simp only [A5, SX, SY, Opd.ev, resVal, resVals, ARes.val, reduceCtorEq, Nat.reduceEqDiff, ↓reduceIte, Int.reduceEq, Int.reduceLT, Int.reduceLE, Nat.reduceAdd]
  refine fn_orc yes (by rw [tb]; exact ht) ?_
  by_cases c1 : (3000 : Int) < s.length
  · have d1 := decide_eq_true c1
    simp only [d1, wantV_undef, SX, SY, Opd.ev, resVal, resVals, ARes.val, reduceCtorEq, Nat.reduceEqDiff, ↓reduceIte, Int.reduceEq, Int.reduceLT, Int.reduceLE, Nat.reduceAdd]
  have d1 := decide_eq_false c1
  by_cases c2 : (3000 : Int) < t.length
  · have d2 := decide_eq_true c2
    simp only [d1, d2, wantV_undef, SX, SY, Opd.ev, resVal, resVals, ARes.val, reduceCtorEq, Nat.reduceEqDiff, ↓reduceIte, Int.reduceEq, Int.reduceLT, Int.reduceLE, Nat.reduceAdd]
  have d2 := decide_eq_false c2
  simp only [d1, d2, wantV_undef, SX, SY, Opd.ev, resVal, resVals, ARes.val, reduceCtorEq, Nat.reduceEqDiff, ↓reduceIte, Int.reduceEq, Int.reduceLT, Int.reduceLE, Nat.reduceAdd]
  refine (greatN_spec tq w h).mono ?_
  rintro _ H' ⟨rfl, hH⟩
  rw [hH]; clear hH H'
  obtain ⟨gb, hgb⟩ : ∃ gb, (mayB w h && decide (3000 < w * h)) = gb := ⟨_, rfl⟩
  rw [hgb]
  cases gb with
  | true => simp only [wantV_undef, SX, SY, Opd.ev, resVal, resVals, ARes.val, reduceCtorEq, Nat.reduceEqDiff, ↓reduceIte, Int.reduceEq, Int.reduceLT, Int.reduceLE, Nat.reduceAdd]
  | false =>
  simp only [wantV_undef, SX, SY, Opd.ev, resVal, resVals, ARes.val, reduceCtorEq, Nat.reduceEqDiff, ↓reduceIte, Int.reduceEq, Int.reduceLT, Int.reduceLE, Nat.reduceAdd]
  refine (may_spec tq w h).mono ?_
  rintro _ H' ⟨rfl, hH⟩
  rw [hH]; clear hH H'
  cases hm : mayB w h with
  | false => simp only [wantV_undef, SX, SY, Opd.ev, resVal, resVals, ARes.val, reduceCtorEq, Nat.reduceEqDiff, ↓reduceIte, Int.reduceEq, Int.reduceLT, Int.reduceLE, Nat.reduceAdd]
  | true =>
  obtain ⟨wn, hn, rfl, rfl, hw, hh⟩ := mayB_true hm
  have hT := tabd_of hf ht
  simp only [wantV_undef, SX, SY, Opd.ev, resVal, resVals, ARes.val, reduceCtorEq, Nat.reduceEqDiff, ↓reduceIte, Int.reduceEq, Int.reduceLT, Int.reduceLE, Nat.reduceAdd]
  refine (termNew_spec tq (Hp.nil H hf) wn hn).mono ?_
  rintro r H1 ⟨k1, hr⟩
  rcases hr with ⟨hx, _⟩ | ⟨_, b1, p1, cs1, rfl, tc1, g1⟩
  · rw [hm] at hx; cases hx
  simp only [Int.toNat_natCast] at tc1
  simp only [ex0, ex1, SX, SY, Opd.ev, resVal, resVals, ARes.val, reduceCtorEq, Nat.reduceEqDiff, ↓reduceIte, Int.reduceEq, Int.reduceLT, Int.reduceLE, Nat.reduceAdd]
  refine (termNew_spec tq g1 wn hn).mono ?_
  rintro r H2 ⟨k2, hr⟩
  rcases hr with ⟨hx, _⟩ | ⟨_, b2, p2, cs2, rfl, tc2, g2⟩
  · rw [hm] at hx; cases hx
  simp only [Int.toNat_natCast] at tc2
  have ok := TP.new_ok hw hh
  have ad1 := bin_adds s (24 :: clearT) (by simp [clearT]; omega)
  have ad2 := bin_adds (s ++ (24 :: clearT)) t (by simp [clearT]; omega)
  have ad3 := bin_adds (24 :: clearT) t (by simp [clearT]; omega)
  have hcl : ([24, 27, 91, 48, 109, 27, 91, 50, 74, 27, 91, 49, 59, 49, 72, 27, 91, 63, 50, 53, 104] : List UInt8) = 24 :: clearT := rfl
  simp only [ex0, ex1, wantV_undef, hcl, ad1, ad2, SX, SY, Opd.ev, resVal, resVals, ARes.val, reduceCtorEq, Nat.reduceEqDiff, ↓reduceIte, Int.reduceEq, Int.reduceLT, Int.reduceLE, Nat.reduceAdd]
  have g2' : Hp H.next H2 (cs1 ++ cs2) := perm_c g2 fun a => by simp only [cnt_append, cnt_nil]; omega
  have tx0 : (TP.new wn hn).p.text.length = 0 := rfl
  refine (termFeed_spec tq ok tc1 g2' (hT.keep (k1.trans k2)) (s ++ (24 :: clearT) ++ t) (by simp [clearT]; omega) (by rw [tx0]; simp [clearT]; omega)).mono ?_
  rintro _ H3 ⟨k3, cs1', tc3, g3⟩
  have hTa : Tabd H.next H3 := hT.keep (k1.trans (k2.trans k3))
  simp only [hcl, ad3, SX, SY, Opd.ev, resVal, resVals, ARes.val, reduceCtorEq, Nat.reduceEqDiff, ↓reduceIte, Int.reduceEq, Int.reduceLT, Int.reduceLE, Nat.reduceAdd]
  have g3' : Hp H.next H3 (cs2 ++ cs1') := perm_c g3 fun a => by simp only [cnt_append]; omega
  refine (termFeed_spec tq ok tc2 g3' hTa ((24 :: clearT) ++ t) (by simp [clearT]; omega) (by rw [tx0]; simp [clearT]; omega)).mono ?_
  rintro _ H4 ⟨k4, cs2', tc4, g4⟩
  have oka := (ok.feed (s ++ (24 :: clearT) ++ t)).t
  have okb := (ok.feed ((24 :: clearT) ++ t)).t
  have e := clears_same hw hh s t
  rw [← e] at okb
  obtain ⟨tcl3, pcl3, tm3, pc3, rfl⟩ := tc3
  obtain ⟨tcl4, pcl4, tm4, pc4, rfl⟩ := tc4
  rw [← e] at tm4
  obtain ⟨T, hTT⟩ : ∃ T, ((TP.new wn hn).feed (s ++ (24 :: clearT) ++ t)).t = T := ⟨_, rfl⟩
  rw [hTT] at oka okb tm3 tm4
  have g4' : Hp H.next H4 (tcl3 ++ (pcl3 ++ (tcl4 ++ pcl4))) := perm_c g4 fun a => by simp only [cnt_append]; omega
  simp only [SX, SY, Opd.ev, resVal, resVals, ARes.val, reduceCtorEq, Nat.reduceEqDiff, ↓reduceIte, Int.reduceEq, Int.reduceLT, Int.reduceLE, Nat.reduceAdd]
  refine (matrix_spec tq oka tm3 g4').mono ?_
  rintro _ H5 ⟨k5, cb1, rfl, g5⟩
  have g5' : Hp H.next H5 (tcl4 ++ (⟨cb1, 7, rowV T.rows.flatten⟩ :: (tcl3 ++ (pcl3 ++ pcl4)))) := perm_c g5 fun a => by simp only [cnt_append, cnt_cons]; omega
  simp only [SX, SY, Opd.ev, resVal, resVals, ARes.val, reduceCtorEq, Nat.reduceEqDiff, ↓reduceIte, Int.reduceEq, Int.reduceLT, Int.reduceLE, Nat.reduceAdd]
  refine (matrix_spec tq okb tm4 g5').mono ?_
  rintro _ H6 ⟨k6, cb2, rfl, g6⟩
  have r1 := g6.rowS (b := cb1) (l := T.rows.flatten) (cap := T.rows.flatten.length) (by simp) (Nat.le_refl _)
  have r2 := g6.rowS (b := cb2) (l := T.rows.flatten) (cap := T.rows.flatten.length) (List.mem_cons_self ..) (Nat.le_refl _)
  have hl : T.rows.flatten.length ≤ 1000000 := by
    rw [flat_len (n := T.w) fun l hl => (oka.r l hl).1, oka.n]
    have := Nat.mul_le_mul oka.h.2 oka.w.2
    omega
  simp only [SX, SY, Opd.ev, resVal, resVals, ARes.val, reduceCtorEq, Nat.reduceEqDiff, ↓reduceIte, Int.reduceEq, Int.reduceLT, Int.reduceLE, Nat.reduceAdd]
  refine (same_spec tq g6.fr r1 r2 hl).mono ?_
  rintro _ H7 ⟨rfl, _⟩
  simp only [SX, SY, Opd.ev, resVal, resVals, ARes.val, reduceCtorEq, Nat.reduceEqDiff, ↓reduceIte, Int.reduceEq, Int.reduceLT, Int.reduceLE, Nat.reduceAdd]
end
end Go.Proofs.YtfbcgjpblomckaaDoor.AM.EvN
