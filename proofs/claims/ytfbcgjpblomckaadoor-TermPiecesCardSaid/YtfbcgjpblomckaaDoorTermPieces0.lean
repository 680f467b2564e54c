/-
  TermPieces: however bytes are cut, what is shown is the same; each row is whole, and the cursor within; the law's walk on the abstract machine.
-/
import Derived.Test.YtfbcgjpblomckaaDoorTmX3
set_option linter.unusedVariables false
set_option linter.unusedSimpArgs false
namespace Go.Proofs.YtfbcgjpblomckaaDoor.AM.EvN
open Go
def slStrV (x : AV) (lo hi : Option AV) : Option AV := ROp.run ⟨0, .nil⟩ .nil (.slStr (.c x) (lo.map .c) (hi.map .c))
theorem run_slStr (H : AHeap) (e : Env) (x : Opd) (lo hi : Option Opd) : ROp.run H e (.slStr x lo hi) = slStrV (x.ev e) (lo.map (·.ev e)) (hi.map (·.ev e)) := by
  cases lo <;> cases hi <;> rfl
theorem slStr_take {s : List UInt8} {n : Nat} (h : n ≤ s.length) : slStrV (.str s) Option.none (some (.int .i64 n)) = some (.str (s.take n)) := by
  simp only [slStrV, ROp.run, Opd.ev, Option.map_some, Option.map_none, bounds, bound, if_pos (show 0 ≤ (n : Int) ∧ (n : Int) ≤ (s.length : Int) by omega), Int.toNat_natCast]
  simp
theorem slStr_drop {s : List UInt8} {n : Nat} (h : n ≤ s.length) : slStrV (.str s) (some (.int .i64 n)) Option.none = some (.str (s.drop n)) := by
  simp only [slStrV, ROp.run, Opd.ev, Option.map_some, Option.map_none, bounds, bound, if_pos (show 0 ≤ (n : Int) ∧ (n : Int) ≤ ((s.length : Nat) : Int) by omega), Int.toNat_natCast]
  simp
theorem isU8_grow {H H' : AHeap} {v : AV} {l : List Int} (h : IsSl (IsK .u8) H v l) (hf : Fr H) (g : Gr H H') : IsSl (IsK .u8) H' v l := IsSl.grow (R := IsK .u8) (H := H) (H' := H') (fun _ _ h => h) h hf g
theorem bin_rem (k : IntKind) (a b : Int) (h : b ≠ 0) : binV .rem (.int k a) (.int k b) = some (.int k (a.tmod b)) := by simp [binV, intBin, h]
theorem feed_text (s : PSt) (hg : s.Good) (t : List UInt8) : (s.feed t).text.length ≤ s.text.length + t.length := (Good.feed (t := t) hg).2.2
section
variable {Q : Prog} (tq : TwQ Q) {H : AHeap}
include tq
set_option maxHeartbeats 16000000 in
/-- each row is whole -/
theorem wholes {K : PostC} {T : Tm} (k : T.Ok) {v : AV} {q : Nat} {H6 : AHeap} {L : List Cel} {base : Nat} {mx my : Int} {ms : Bool} (g : Hp base H6 L) (hm : (⟨q, 6, mat T.w T.h v mx my ms⟩ : Cel) ∈ L) (hv : RowS H6 v T.rows.flatten) {e : Env} (e0 : Env.get e 0 = .int .i64 T.w) (e1 : Env.get e 1 = .int .i64 T.h) (e16 : Env.get e 16 = .ptr q 0) (e17 : Env.get e 17 = .int .i64 0)
    (hk : ∀ e', K .normal e' H6) : ACode.wp Q A6_rows K e H6 := by
  simp only [A6_rows, SX, SY, Opd.ev, resVal, resVals, ARes.val, reduceCtorEq, Nat.reduceEqDiff, ↓reduceIte, Int.reduceEq, Int.reduceLT, Int.reduceLE, Nat.reduceAdd]
  have kw := k.w
  have kh := k.h
  obtain ⟨I, hI⟩ : ∃ I : Nat → Env → AHeap → Prop, ∀ m e H', I m e H' ↔ (H' = H6 ∧ ∃ y : Nat, m = T.h - y ∧ y ≤ T.h ∧ Env.get e 0 = .int .i64 T.w ∧ Env.get e 1 = .int .i64 T.h ∧ Env.get e 16 = .ptr q 0 ∧ Env.get e 17 = .int .i64 y) := ⟨_, fun _ _ _ => Iff.rfl⟩
  refine loop_by I T.h ?_ ?_
  · exact (hI _ _ _).2 ⟨rfl, 0, rfl, by omega, (by first | (simp only [SX, SY, Opd.ev, resVal, resVals, ARes.val, reduceCtorEq, Nat.reduceEqDiff, ↓reduceIte, Int.reduceEq, Int.reduceLT, Int.reduceLE, Nat.reduceAdd, e0]; done) | exact e0 | (simp only [SX, SY, Opd.ev, resVal, resVals, ARes.val, reduceCtorEq, Nat.reduceEqDiff, ↓reduceIte, Int.reduceEq, Int.reduceLT, Int.reduceLE, Nat.reduceAdd, e0]; rfl)), (by first | (simp only [SX, SY, Opd.ev, resVal, resVals, ARes.val, reduceCtorEq, Nat.reduceEqDiff, ↓reduceIte, Int.reduceEq, Int.reduceLT, Int.reduceLE, Nat.reduceAdd, e1]; done) | exact e1 | (simp only [SX, SY, Opd.ev, resVal, resVals, ARes.val, reduceCtorEq, Nat.reduceEqDiff, ↓reduceIte, Int.reduceEq, Int.reduceLT, Int.reduceLE, Nat.reduceAdd, e1]; rfl)), (by first | (simp only [SX, SY, Opd.ev, resVal, resVals, ARes.val, reduceCtorEq, Nat.reduceEqDiff, ↓reduceIte, Int.reduceEq, Int.reduceLT, Int.reduceLE, Nat.reduceAdd, e16]; done) | exact e16 | (simp only [SX, SY, Opd.ev, resVal, resVals, ARes.val, reduceCtorEq, Nat.reduceEqDiff, ↓reduceIte, Int.reduceEq, Int.reduceLT, Int.reduceLE, Nat.reduceAdd, e16]; rfl)), (by first | (simp only [SX, SY, Opd.ev, resVal, resVals, ARes.val, reduceCtorEq, Nat.reduceEqDiff, ↓reduceIte, Int.reduceEq, Int.reduceLT, Int.reduceLE, Nat.reduceAdd, e17]; done) | exact e17 | (simp only [SX, SY, Opd.ev, resVal, resVals, ARes.val, reduceCtorEq, Nat.reduceEqDiff, ↓reduceIte, Int.reduceEq, Int.reduceLT, Int.reduceLE, Nat.reduceAdd, e17]; rfl))⟩
  · clear e0 e1 e16 e17
    intro m e H' hinv
    obtain ⟨hH, y, rfl, hy, e0, e1, e16, e17⟩ := (hI _ _ _).1 hinv
    rw [hH]
    by_cases d : (y : Int) < (T.h : Int)
    · have d1 := decide_eq_true d
      have l2 := g.load hm (o := 2) (v := v) rfl
      have hfl : T.rows.flatten.length = T.h * T.w := by rw [flat_len (n := T.w) fun l hl => (k.r l hl).1, k.n]
      have m0 : T.h * T.w ≤ 160000 := by have := Nat.mul_le_mul kh.2 kw.2; omega
      have m1 : (y + 1) * T.w ≤ T.h * T.w := Nat.mul_le_mul_right _ (by omega)
      have m2 : y * T.w ≤ (y + 1) * T.w := Nat.mul_le_mul_right _ (by omega)
      have w1 : IntKind.wrap .i64 ((y : Int) + 1) = ((y + 1 : Nat) : Int) := wrapNat (n := y + 1) (by omega)
      have w2 : IntKind.wrap .i64 ((y : Int) * (T.w : Int)) = ((y * T.w : Nat) : Int) := by rw [← Int.natCast_mul]; exact wrapNat (by omega)
      have w3 : IntKind.wrap .i64 (((y + 1 : Nat) : Int) * (T.w : Int)) = (((y + 1) * T.w : Nat) : Int) := by rw [← Int.natCast_mul]; exact wrapNat (by omega)
      obtain ⟨sl, rs⟩ := hv.slice (m := y * T.w) (n := (y + 1) * T.w) m2 (by omega)
      obtain ⟨r, hr⟩ : ∃ r, T.rows[y]? = some r := ⟨_, List.getElem?_eq_getElem (by rw [k.n]; omega)⟩
      rw [flat_row (fun l hl => (k.r l hl).1) hr] at rs
      obtain ⟨rl, rw_⟩ := k.r r (List.mem_of_getElem? hr)
      have wh := whole_ok rw_
      simp only [e0, e1, e16, e17, d1, l2, w1, w2, w3, sl, Option.map_some, SX, SY, Opd.ev, resVal, resVals, ARes.val, reduceCtorEq, Nat.reduceEqDiff, ↓reduceIte, Int.reduceEq, Int.reduceLT, Int.reduceLE, Nat.reduceAdd]
      refine (whole_spec tq.rw_ rs (by omega)).mono ?_
      rintro _ H' ⟨rfl, hH⟩
      rw [hH]; clear hH H'
      simp only [e0, e1, e16, e17, wh, w1, SX, SY, Opd.ev, resVal, resVals, ARes.val, reduceCtorEq, Nat.reduceEqDiff, ↓reduceIte, Int.reduceEq, Int.reduceLT, Int.reduceLE, Nat.reduceAdd]
      exact ⟨T.h - (y + 1), by omega, (hI _ _ _).2 ⟨rfl, y + 1, rfl, by omega, (by first | (simp only [SX, SY, Opd.ev, resVal, resVals, ARes.val, reduceCtorEq, Nat.reduceEqDiff, ↓reduceIte, Int.reduceEq, Int.reduceLT, Int.reduceLE, Nat.reduceAdd, e0]; done) | exact e0 | (simp only [SX, SY, Opd.ev, resVal, resVals, ARes.val, reduceCtorEq, Nat.reduceEqDiff, ↓reduceIte, Int.reduceEq, Int.reduceLT, Int.reduceLE, Nat.reduceAdd, e0]; rfl)), (by first | (simp only [SX, SY, Opd.ev, resVal, resVals, ARes.val, reduceCtorEq, Nat.reduceEqDiff, ↓reduceIte, Int.reduceEq, Int.reduceLT, Int.reduceLE, Nat.reduceAdd, e1]; done) | exact e1 | (simp only [SX, SY, Opd.ev, resVal, resVals, ARes.val, reduceCtorEq, Nat.reduceEqDiff, ↓reduceIte, Int.reduceEq, Int.reduceLT, Int.reduceLE, Nat.reduceAdd, e1]; rfl)), (by first | (simp only [SX, SY, Opd.ev, resVal, resVals, ARes.val, reduceCtorEq, Nat.reduceEqDiff, ↓reduceIte, Int.reduceEq, Int.reduceLT, Int.reduceLE, Nat.reduceAdd, e16]; done) | exact e16 | (simp only [SX, SY, Opd.ev, resVal, resVals, ARes.val, reduceCtorEq, Nat.reduceEqDiff, ↓reduceIte, Int.reduceEq, Int.reduceLT, Int.reduceLE, Nat.reduceAdd, e16]; rfl)), (by first | (simp only [SX, SY, Opd.ev, resVal, resVals, ARes.val, reduceCtorEq, Nat.reduceEqDiff, ↓reduceIte, Int.reduceEq, Int.reduceLT, Int.reduceLE, Nat.reduceAdd]; done) | (simp only [SX, SY, Opd.ev, resVal, resVals, ARes.val, reduceCtorEq, Nat.reduceEqDiff, ↓reduceIte, Int.reduceEq, Int.reduceLT, Int.reduceLE, Nat.reduceAdd]; rfl) | rfl)⟩⟩
    · have d1 := decide_eq_false d
      simp only [e0, e1, e16, e17, d1, SX, SY, Opd.ev, resVal, resVals, ARes.val, reduceCtorEq, Nat.reduceEqDiff, ↓reduceIte, Int.reduceEq, Int.reduceLT, Int.reduceLE, Nat.reduceAdd]
      exact hk _
set_option maxHeartbeats 16000000 in
theorem law6 (q6 : Q.fns 6 = some A6) (tb : Q.tabs = TT) (yes : Q.orc 10 [] = some (.bool true)) (ht : hasTabs H TT = true) (hf : Fr H) (w h : Int) (s : List UInt8) {v : AV} {cuts : List Int} (hv : IsSl (IsK .u8) H v cuts) (hG : ∀ x ∈ cuts, 0 ≤ x ∧ x ≤ 255) :
    FnTo Q 6 [.int .i64 w, .int .i64 h, .str s, v] H (fun r _ => r = .bool true) := by
  refine fn_wp (tq.at_.ho 6 rfl _) q6 (by simp [A6]) ?_
  simp only [A6, SX, SY, Opd.ev, resVal, resVals, ARes.val, reduceCtorEq, Nat.reduceEqDiff, ↓reduceIte, Int.reduceEq, Int.reduceLT, Int.reduceLE, Nat.reduceAdd]
  refine fn_orc yes (by rw [tb]; exact ht) ?_
  have lv := hv.len
  by_cases c1 : (5000 : Int) < s.length
  · have d1 := decide_eq_true c1
    simp only [d1, wantV_undef, SX, SY, Opd.ev, resVal, resVals, ARes.val, reduceCtorEq, Nat.reduceEqDiff, ↓reduceIte, Int.reduceEq, Int.reduceLT, Int.reduceLE, Nat.reduceAdd]
  have d1 := decide_eq_false c1
  by_cases c2 : (300 : Int) < cuts.length
  · have d2 := decide_eq_true c2
    simp only [d1, lv, d2, wantV_undef, SX, SY, Opd.ev, resVal, resVals, ARes.val, reduceCtorEq, Nat.reduceEqDiff, ↓reduceIte, Int.reduceEq, Int.reduceLT, Int.reduceLE, Nat.reduceAdd]
  have d2 := decide_eq_false c2
  simp only [d1, lv, d2, wantV_undef, SX, SY, Opd.ev, resVal, resVals, ARes.val, reduceCtorEq, Nat.reduceEqDiff, ↓reduceIte, Int.reduceEq, Int.reduceLT, Int.reduceLE, Nat.reduceAdd]
  refine (greatN_spec tq w h).mono ?_
  rintro _ H' ⟨rfl, hH⟩
  rw [hH]; clear hH H'
  obtain ⟨gb, hgb⟩ : ∃ gb, (mayB w h && decide (3000 < w * h)) = gb := ⟨_, rfl⟩
  rw [hgb]
  cases gb with
  | true => simp only [wantV_undef, SX, SY, Opd.ev, resVal, resVals, ARes.val, reduceCtorEq, Nat.reduceEqDiff, ↓reduceIte, Int.reduceEq, Int.reduceLT, Int.reduceLE, Nat.reduceAdd]
  | false =>
  have hT := tabd_of hf ht
  simp only [wantV_undef, SX, SY, Opd.ev, resVal, resVals, ARes.val, reduceCtorEq, Nat.reduceEqDiff, ↓reduceIte, Int.reduceEq, Int.reduceLT, Int.reduceLE, Nat.reduceAdd]
  refine (termNew_spec tq (Hp.nil H hf) w h).mono ?_
  rintro r H1 ⟨k1, hr⟩
  rcases hr with ⟨hm, rfl, g1⟩ | ⟨hm, b1, p1, cs1, rfl, tc1, g1⟩
  · simp only [ex0, ex1, SX, SY, Opd.ev, resVal, resVals, ARes.val, reduceCtorEq, Nat.reduceEqDiff, ↓reduceIte, Int.reduceEq, Int.reduceLT, Int.reduceLE, Nat.reduceAdd]
    refine (termNew_spec tq g1 w h).mono ?_
    rintro r H2 ⟨k2, hr⟩
    rcases hr with ⟨_, rfl, g2⟩ | ⟨hx, _⟩
    · simp only [ex0, ex1, wantV_undef, SX, SY, Opd.ev, resVal, resVals, ARes.val, reduceCtorEq, Nat.reduceEqDiff, ↓reduceIte, Int.reduceEq, Int.reduceLT, Int.reduceLE, Nat.reduceAdd]
      refine (may_spec tq w h).mono ?_
      rintro _ H' ⟨rfl, hH⟩
      simp only [hm, SX, SY, Opd.ev, resVal, resVals, ARes.val, reduceCtorEq, Nat.reduceEqDiff, ↓reduceIte, Int.reduceEq, Int.reduceLT, Int.reduceLE, Nat.reduceAdd]
    · rw [hm] at hx; cases hx
  obtain ⟨wn, hn, rfl, rfl, hw, hh⟩ := mayB_true hm
  simp only [Int.toNat_natCast] at tc1
  simp only [ex0, ex1, SX, SY, Opd.ev, resVal, resVals, ARes.val, reduceCtorEq, Nat.reduceEqDiff, ↓reduceIte, Int.reduceEq, Int.reduceLT, Int.reduceLE, Nat.reduceAdd]
  refine (termNew_spec tq g1 wn hn).mono ?_
  rintro r H2 ⟨k2, hr⟩
  rcases hr with ⟨hx, _⟩ | ⟨_, b2, p2, cs2, rfl, tc2, g2⟩
  · rw [hm] at hx; cases hx
  simp only [Int.toNat_natCast] at tc2
  have ok := TP.new_ok hw hh
  simp only [ex0, ex1, wantV_undef, SX, SY, Opd.ev, resVal, resVals, ARes.val, reduceCtorEq, Nat.reduceEqDiff, ↓reduceIte, Int.reduceEq, Int.reduceLT, Int.reduceLE, Nat.reduceAdd]
  have g2' : Hp H.next H2 (cs1 ++ cs2) := perm_c g2 fun a => by simp only [cnt_append, cnt_nil]; omega
  have tx0 : (TP.new wn hn).p.text.length = 0 := rfl
  refine (termFeed_spec tq ok tc1 g2' (hT.keep (k1.trans k2)) s (by omega) (by rw [tx0]; omega)).mono ?_
  rintro _ H3 ⟨k3, cs1', tc3, g3⟩
  simp only [SX, SY, Opd.ev, resVal, resVals, ARes.val, reduceCtorEq, Nat.reduceEqDiff, ↓reduceIte, Int.reduceEq, Int.reduceLT, Int.reduceLE, Nat.reduceAdd]
  have okA := ok.feed s
  obtain ⟨I, hI⟩ : ∃ I : Nat → Env → AHeap → Prop, ∀ m e H', I m e H' ↔ (Keep H.next H H' ∧ ∃ (k j : Nat) (cs : List Cel), m = cuts.length - k ∧ k ≤ cuts.length ∧ j ≤ s.length ∧ TerC b2 p2 ((TP.new wn hn).feed (s.take j)) cs ∧ Hp H.next H' (cs1' ++ cs) ∧ Env.get e 0 = .int .i64 wn ∧ Env.get e 1 = .int .i64 hn ∧ Env.get e 3 = v ∧ Env.get e 9 = .ptr b1 0 ∧ Env.get e 11 = .ptr b2 0 ∧ Env.get e 13 = .str (s.drop j) ∧ Env.get e 14 = .int .i64 k) := ⟨_, fun _ _ _ => Iff.rfl⟩
  refine loop_by I cuts.length ?_ ?_
  · exact (hI _ _ _).2 ⟨k1.trans (k2.trans k3), 0, 0, cs2, rfl, by omega, by omega, tc2, g3, (by first | (simp only [SX, SY, Opd.ev, resVal, resVals, ARes.val, reduceCtorEq, Nat.reduceEqDiff, ↓reduceIte, Int.reduceEq, Int.reduceLT, Int.reduceLE, Nat.reduceAdd]; done) | (simp only [SX, SY, Opd.ev, resVal, resVals, ARes.val, reduceCtorEq, Nat.reduceEqDiff, ↓reduceIte, Int.reduceEq, Int.reduceLT, Int.reduceLE, Nat.reduceAdd]; rfl) | rfl), (by first | (simp only [SX, SY, Opd.ev, resVal, resVals, ARes.val, reduceCtorEq, Nat.reduceEqDiff, ↓reduceIte, Int.reduceEq, Int.reduceLT, Int.reduceLE, Nat.reduceAdd]; done) | (simp only [SX, SY, Opd.ev, resVal, resVals, ARes.val, reduceCtorEq, Nat.reduceEqDiff, ↓reduceIte, Int.reduceEq, Int.reduceLT, Int.reduceLE, Nat.reduceAdd]; rfl) | rfl), (by first | (simp only [SX, SY, Opd.ev, resVal, resVals, ARes.val, reduceCtorEq, Nat.reduceEqDiff, ↓reduceIte, Int.reduceEq, Int.reduceLT, Int.reduceLE, Nat.reduceAdd]; done) | (simp only [SX, SY, Opd.ev, resVal, resVals, ARes.val, reduceCtorEq, Nat.reduceEqDiff, ↓reduceIte, Int.reduceEq, Int.reduceLT, Int.reduceLE, Nat.reduceAdd]; rfl) | rfl), (by first | (simp only [SX, SY, Opd.ev, resVal, resVals, ARes.val, reduceCtorEq, Nat.reduceEqDiff, ↓reduceIte, Int.reduceEq, Int.reduceLT, Int.reduceLE, Nat.reduceAdd]; done) | (simp only [SX, SY, Opd.ev, resVal, resVals, ARes.val, reduceCtorEq, Nat.reduceEqDiff, ↓reduceIte, Int.reduceEq, Int.reduceLT, Int.reduceLE, Nat.reduceAdd]; rfl) | rfl), (by first | (simp only [SX, SY, Opd.ev, resVal, resVals, ARes.val, reduceCtorEq, Nat.reduceEqDiff, ↓reduceIte, Int.reduceEq, Int.reduceLT, Int.reduceLE, Nat.reduceAdd]; done) | (simp only [SX, SY, Opd.ev, resVal, resVals, ARes.val, reduceCtorEq, Nat.reduceEqDiff, ↓reduceIte, Int.reduceEq, Int.reduceLT, Int.reduceLE, Nat.reduceAdd]; rfl) | rfl), (by first | (simp only [SX, SY, Opd.ev, resVal, resVals, ARes.val, reduceCtorEq, Nat.reduceEqDiff, ↓reduceIte, Int.reduceEq, Int.reduceLT, Int.reduceLE, Nat.reduceAdd]; done) | (simp only [SX, SY, Opd.ev, resVal, resVals, ARes.val, reduceCtorEq, Nat.reduceEqDiff, ↓reduceIte, Int.reduceEq, Int.reduceLT, Int.reduceLE, Nat.reduceAdd]; rfl) | rfl), (by first | (simp only [SX, SY, Opd.ev, resVal, resVals, ARes.val, reduceCtorEq, Nat.reduceEqDiff, ↓reduceIte, Int.reduceEq, Int.reduceLT, Int.reduceLE, Nat.reduceAdd]; done) | (simp only [SX, SY, Opd.ev, resVal, resVals, ARes.val, reduceCtorEq, Nat.reduceEqDiff, ↓reduceIte, Int.reduceEq, Int.reduceLT, Int.reduceLE, Nat.reduceAdd]; rfl) | rfl)⟩
  · intro m e H4 hinv
    obtain ⟨k4, k, j, cs, rfl, hk, hj, tc, g4, e0, e1, e3, e9, e11, e13, e14⟩ := (hI _ _ _).1 hinv
    have gr4 := g4.gr k4
    have hv4 := isU8_grow hv hf gr4
    have lv4 := hv4.len
    have okB := ok.feed (s.take j)
    have txB : ((TP.new wn hn).feed (s.take j)).p.text.length ≤ j := by
      have := feed_text PSt.new new_good (s.take j)
      have e0 : PSt.new.text.length = 0 := rfl
      rw [e0] at this
      have e2 : (s.take j).length ≤ j := by simp; omega
      show (PSt.new.feed (s.take j)).text.length ≤ j
      omega
    have g4' : Hp H.next H4 (cs ++ cs1') := perm_c g4 fun a => by simp only [cnt_append]; omega
    have hdl : ((s.drop j).length : Int) = s.length - j := by simp; omega
    by_cases d : (k : Int) < cuts.length
    · have dd := decide_eq_true d
      obtain ⟨x, hx⟩ : ∃ x, cuts[k]? = some x := ⟨_, List.getElem?_eq_getElem (by omega)⟩
      obtain ⟨x0, x1⟩ := hG x (List.mem_of_getElem? hx)
      have xi := hv4.at (i := (k : Int)) (by omega) (by omega) .i64
      obtain ⟨cx, lx, hcx⟩ := hv4.get (i := (k : Int)) (a := x) (by simpa using hx)
      cases hcx
      have wx : IntKind.wrap .i64 x = x := wrapI64 (by omega) (by omega)
      have wl : IntKind.wrap .i64 (((s.drop j).length : Int) + 1) = ((s.drop j).length : Int) + 1 := wrapI64 (by omega) (by omega)
      have rm := bin_rem .i64 x (((s.drop j).length : Int) + 1) (by omega)
      obtain ⟨n, hn'⟩ : ∃ n : Nat, x.tmod (((s.drop j).length : Int) + 1) = n := by
        have := Int.tmod_nonneg (((s.drop j).length : Int) + 1) x0
        exact ⟨(x.tmod (((s.drop j).length : Int) + 1)).toNat, by omega⟩
      have hnl : n ≤ (s.drop j).length := by
        have := Int.tmod_lt_of_pos x (show (0 : Int) < ((s.drop j).length : Int) + 1 by omega)
        omega
      rw [hn'] at rm
      have st := slStr_take hnl
      have sd := slStr_drop hnl
      have w1 : IntKind.wrap .i64 ((k : Int) + 1) = ((k + 1 : Nat) : Int) := wrapNat (n := k + 1) (by omega)
      simp only [e0, e1, e3, e9, e11, e13, e14, lv4, dd, xi, lx, lngV_str, wx, wl, rm, run_slStr, st, sd, Option.map_some, Option.map_none, SX, SY, Opd.ev, resVal, resVals, ARes.val, reduceCtorEq, Nat.reduceEqDiff, ↓reduceIte, Int.reduceEq, Int.reduceLT, Int.reduceLE, Nat.reduceAdd]
      refine (termFeed_spec tq okB tc g4' (hT.keep k4) ((s.drop j).take n) (by simp; omega) (by simp; omega)).mono ?_
      rintro _ H5 ⟨k5, cs', tc5, g5⟩
      have e5 : ((TP.new wn hn).feed (s.take j)).feed ((s.drop j).take n) = (TP.new wn hn).feed (s.take (j + n)) := by
        rw [← TP.feed_app, ← List.take_add]
      rw [e5] at tc5
      have g5' : Hp H.next H5 (cs1' ++ cs') := perm_c g5 fun a => by simp only [cnt_append]; omega
      simp only [e0, e1, e3, e9, e11, e13, e14, run_slStr, sd, w1, Option.map_some, Option.map_none, SX, SY, Opd.ev, resVal, resVals, ARes.val, reduceCtorEq, Nat.reduceEqDiff, ↓reduceIte, Int.reduceEq, Int.reduceLT, Int.reduceLE, Nat.reduceAdd]
      have hjn : j + n ≤ s.length := by omega
      refine ⟨cuts.length - (k + 1), by omega, (hI _ _ _).2 ⟨k4.trans k5, k + 1, j + n, cs', rfl, by omega, hjn, tc5, g5', (by first | (simp only [SX, SY, Opd.ev, resVal, resVals, ARes.val, reduceCtorEq, Nat.reduceEqDiff, ↓reduceIte, Int.reduceEq, Int.reduceLT, Int.reduceLE, Nat.reduceAdd, e0]; done) | exact e0 | (simp only [SX, SY, Opd.ev, resVal, resVals, ARes.val, reduceCtorEq, Nat.reduceEqDiff, ↓reduceIte, Int.reduceEq, Int.reduceLT, Int.reduceLE, Nat.reduceAdd, e0]; rfl)), (by first | (simp only [SX, SY, Opd.ev, resVal, resVals, ARes.val, reduceCtorEq, Nat.reduceEqDiff, ↓reduceIte, Int.reduceEq, Int.reduceLT, Int.reduceLE, Nat.reduceAdd, e1]; done) | exact e1 | (simp only [SX, SY, Opd.ev, resVal, resVals, ARes.val, reduceCtorEq, Nat.reduceEqDiff, ↓reduceIte, Int.reduceEq, Int.reduceLT, Int.reduceLE, Nat.reduceAdd, e1]; rfl)), (by first | (simp only [SX, SY, Opd.ev, resVal, resVals, ARes.val, reduceCtorEq, Nat.reduceEqDiff, ↓reduceIte, Int.reduceEq, Int.reduceLT, Int.reduceLE, Nat.reduceAdd, e3]; done) | exact e3 | (simp only [SX, SY, Opd.ev, resVal, resVals, ARes.val, reduceCtorEq, Nat.reduceEqDiff, ↓reduceIte, Int.reduceEq, Int.reduceLT, Int.reduceLE, Nat.reduceAdd, e3]; rfl)), (by first | (simp only [SX, SY, Opd.ev, resVal, resVals, ARes.val, reduceCtorEq, Nat.reduceEqDiff, ↓reduceIte, Int.reduceEq, Int.reduceLT, Int.reduceLE, Nat.reduceAdd, e9]; done) | exact e9 | (simp only [SX, SY, Opd.ev, resVal, resVals, ARes.val, reduceCtorEq, Nat.reduceEqDiff, ↓reduceIte, Int.reduceEq, Int.reduceLT, Int.reduceLE, Nat.reduceAdd, e9]; rfl)), (by first | (simp only [SX, SY, Opd.ev, resVal, resVals, ARes.val, reduceCtorEq, Nat.reduceEqDiff, ↓reduceIte, Int.reduceEq, Int.reduceLT, Int.reduceLE, Nat.reduceAdd, e11]; done) | exact e11 | (simp only [SX, SY, Opd.ev, resVal, resVals, ARes.val, reduceCtorEq, Nat.reduceEqDiff, ↓reduceIte, Int.reduceEq, Int.reduceLT, Int.reduceLE, Nat.reduceAdd, e11]; rfl)), ?_, (by first | (simp only [SX, SY, Opd.ev, resVal, resVals, ARes.val, reduceCtorEq, Nat.reduceEqDiff, ↓reduceIte, Int.reduceEq, Int.reduceLT, Int.reduceLE, Nat.reduceAdd]; done) | (simp only [SX, SY, Opd.ev, resVal, resVals, ARes.val, reduceCtorEq, Nat.reduceEqDiff, ↓reduceIte, Int.reduceEq, Int.reduceLT, Int.reduceLE, Nat.reduceAdd]; rfl) | rfl)⟩⟩
      simp only [List.drop_drop, SX, SY, Opd.ev, resVal, resVals, ARes.val, reduceCtorEq, Nat.reduceEqDiff, ↓reduceIte, Int.reduceEq, Int.reduceLT, Int.reduceLE, Nat.reduceAdd]
    · have dd := decide_eq_false d
      simp only [e0, e1, e3, e9, e11, e13, e14, lv4, dd, SX, SY, Opd.ev, resVal, resVals, ARes.val, reduceCtorEq, Nat.reduceEqDiff, ↓reduceIte, Int.reduceEq, Int.reduceLT, Int.reduceLE, Nat.reduceAdd]
      refine (termFeed_spec tq okB tc g4' (hT.keep k4) (s.drop j) (by omega) (by omega)).mono ?_
      rintro _ H5 ⟨k5, cs', tc5, g5⟩
      have e5 : ((TP.new wn hn).feed (s.take j)).feed (s.drop j) = (TP.new wn hn).feed s := by
        rw [← TP.feed_app, List.take_append_drop]
      rw [e5] at tc5
      obtain ⟨tcl3, pcl3, tm3, pc3, rfl⟩ := tc3
      obtain ⟨tcl4, pcl4, tm4, pc4, rfl⟩ := tc5
      obtain ⟨A, hA⟩ : ∃ A, (TP.new wn hn).feed s = A := ⟨_, rfl⟩
      have whA := feed_wh (TP.new wn hn) s
      rw [hA] at okA tm3 pc3 tm4 pc4 whA
      have whw : (wn : Int) = A.t.w := by rw [whA.1]; rfl
      have whh : (hn : Int) = A.t.h := by rw [whA.2]; rfl
      rw [whw] at e0
      rw [whh] at e1
      have kA := okA.t
      have g5' : Hp H.next H5 (tcl3 ++ (pcl3 ++ (tcl4 ++ pcl4))) := perm_c g5 fun a => by simp only [cnt_append]; omega
      simp only [e0, e1, e3, e9, e11, e13, e14, SX, SY, Opd.ev, resVal, resVals, ARes.val, reduceCtorEq, Nat.reduceEqDiff, ↓reduceIte, Int.reduceEq, Int.reduceLT, Int.reduceLE, Nat.reduceAdd]
      refine (matrix_spec tq kA tm3 g5').mono ?_
      rintro _ H6 ⟨k6, cb1, rfl, g6⟩
      obtain ⟨Z, hZ⟩ : ∃ Z : List AV, [AV.int .i64 0, .int .i64 0, .nils, .int .i64 0, .int .i64 0, .bool false] = Z := ⟨_, rfl⟩
      have hZl : Z.length = 6 := by rw [← hZ]; rfl
      obtain ⟨N, hN⟩ : ∃ N, A.t.rows.flatten.length = N := ⟨_, rfl⟩
      have hfl : N = A.t.h * A.t.w := by rw [← hN, flat_len (n := A.t.w) fun l hl => (kA.r l hl).1, kA.n]
      have hN6 : N ≤ 160000 := by rw [hfl]; have := Nat.mul_le_mul kA.h.2 kA.w.2; omega
      obtain ⟨mx, hmx⟩ : ∃ mx, (if A.t.hid = true then 0 else ((min A.t.x (A.t.w - 1) : Nat) : Int)) = mx := ⟨_, rfl⟩
      obtain ⟨my, hmy⟩ : ∃ my, (if A.t.hid = true then 0 else (A.t.y : Int)) = my := ⟨_, rfl⟩
      have kx := kA.x
      have ky := kA.y
      have kw := kA.w
      have kh := kA.h
      have bx : 0 ≤ mx ∧ mx < A.t.w := by rw [← hmx]; split <;> omega
      have by_ : 0 ≤ my ∧ my < A.t.h := by rw [← hmy]; split <;> omega
      rw [hmx, hmy, hN]
      obtain ⟨H7, s7, g7, k7⟩ := g6.make Z 6
      obtain ⟨q, hq⟩ : ∃ q, H6.next = q := ⟨_, rfl⟩
      rw [hq] at g7
      obtain ⟨H8, s8, g8, k8, _⟩ := g7.storeN (n := 6) (new := mat A.t.w A.t.h (.slc cb1 0 N N) mx my (!A.t.hid)) hZl rfl rfl
      have lq : ∀ {H' L}, Hp H.next H' L → (⟨q, 6, mat A.t.w A.t.h (.slc cb1 0 N N) mx my (!A.t.hid)⟩ : Cel) ∈ L → loadV H' (some 6) (.ptr q 0) = some (.agg (mat A.t.w A.t.h (.slc cb1 0 N N) mx my (!A.t.hid))) ∧ loadV H' Option.none (.ptr q 0) = some (.int .i64 A.t.w) ∧ loadV H' Option.none (.ptr q 1) = some (.int .i64 A.t.h) ∧ loadV H' Option.none (.ptr q 2) = some (.slc cb1 0 N N) ∧ loadV H' Option.none (.ptr q 3) = some (.int .i64 mx) ∧ loadV H' Option.none (.ptr q 4) = some (.int .i64 my) := fun {H'} {L} g hm => ⟨g.loadN hm rfl, g.load hm (o := 0) rfl, g.load hm (o := 1) rfl, g.load hm (o := 2) rfl, g.load hm (o := 3) rfl, g.load hm (o := 4) rfl⟩
      obtain ⟨a6, _⟩ := lq g8 (List.mem_cons_self ..)
      have g8' : Hp H.next H8 (tcl4 ++ (⟨q, 6, mat A.t.w A.t.h (.slc cb1 0 N N) mx my (!A.t.hid)⟩ :: ⟨cb1, 7, rowV A.t.rows.flatten⟩ :: (tcl3 ++ (pcl3 ++ pcl4)))) := perm_c g8 fun a => by simp only [cnt_append, cnt_cons]; omega
      simp only [e0, e1, e3, e9, e11, e13, e14, hZ, run_allocL, s7, hq, s8, a6, SX, SY, Opd.ev, resVal, resVals, ARes.val, reduceCtorEq, Nat.reduceEqDiff, ↓reduceIte, Int.reduceEq, Int.reduceLT, Int.reduceLE, Nat.reduceAdd]
      refine (matrix_spec tq kA tm4 g8').mono ?_
      rintro _ H9 ⟨k9, cb2, rfl, g9⟩
      rw [hmx, hmy, hN]
      obtain ⟨a96, a90, a91, a92, a93, a94⟩ := lq g9 (by simp)
      have same_m : AV.same (.agg (mat A.t.w A.t.h (.slc cb1 0 N N) mx my (!A.t.hid))) (.agg (mat A.t.w A.t.h (.slc cb1 0 N N) mx my (!A.t.hid))) = true := by
        cases A.t.hid <;> simp [AV.same, AV.sameL, AV.same1, mat]
      refine ⟨by simp only [echoOk, a96, same_m, Bool.and_self, SX, SY, Opd.ev, resVal, resVals, ARes.val, reduceCtorEq, Nat.reduceEqDiff, ↓reduceIte, Int.reduceEq, Int.reduceLT, Int.reduceLE, Nat.reduceAdd], ?_⟩
      have r1 := g9.rowS (b := cb1) (l := A.t.rows.flatten) (cap := A.t.rows.flatten.length) (by simp) (Nat.le_refl _)
      have r2 := g9.rowS (b := cb2) (l := A.t.rows.flatten) (cap := A.t.rows.flatten.length) (List.mem_cons_self ..) (Nat.le_refl _)
      rw [hN] at r1 r2
      simp only [e0, e1, e3, e9, e11, e13, e14, SX, SY, Opd.ev, resVal, resVals, ARes.val, reduceCtorEq, Nat.reduceEqDiff, ↓reduceIte, Int.reduceEq, Int.reduceLT, Int.reduceLE, Nat.reduceAdd]
      refine (same_spec tq g9.fr r1 r2 (by omega)).mono ?_
      rintro _ H10 ⟨rfl, gr10⟩
      have g10 := g9.of_gr gr10
      have tcA : TerC b1 p1 A (tcl3 ++ pcl3) := ⟨tcl3, pcl3, tm3, pc3, rfl⟩
      have tcB : TerC b2 p2 A (tcl4 ++ pcl4) := ⟨tcl4, pcl4, tm4, pc4, rfl⟩
      have gA : Hp H.next H10 ((tcl3 ++ pcl3) ++ (⟨cb2, 7, rowV A.t.rows.flatten⟩ :: (tcl4 ++ (⟨q, 6, mat A.t.w A.t.h (.slc cb1 0 N N) mx my (!A.t.hid)⟩ :: ⟨cb1, 7, rowV A.t.rows.flatten⟩ :: pcl4)))) := perm_c g10 fun a => by simp only [cnt_append, cnt_cons]; omega
      have gB : Hp H.next H10 ((tcl4 ++ pcl4) ++ (⟨cb2, 7, rowV A.t.rows.flatten⟩ :: (tcl3 ++ (⟨q, 6, mat A.t.w A.t.h (.slc cb1 0 N N) mx my (!A.t.hid)⟩ :: ⟨cb1, 7, rowV A.t.rows.flatten⟩ :: pcl3)))) := perm_c g10 fun a => by simp only [cnt_append, cnt_cons]; omega
      simp only [e0, e1, e3, e9, e11, e13, e14, wantV_undef, SX, SY, Opd.ev, resVal, resVals, ARes.val, reduceCtorEq, Nat.reduceEqDiff, ↓reduceIte, Int.reduceEq, Int.reduceLT, Int.reduceLE, Nat.reduceAdd]
      refine (termWaits_spec tq tcA gA).mono ?_
      rintro _ H' ⟨rfl, hH⟩
      rw [hH]; clear hH H'
      simp only [e0, e1, e3, e9, e11, e13, e14, wantV_undef, SX, SY, Opd.ev, resVal, resVals, ARes.val, reduceCtorEq, Nat.reduceEqDiff, ↓reduceIte, Int.reduceEq, Int.reduceLT, Int.reduceLE, Nat.reduceAdd]
      refine (termWaits_spec tq tcB gB).mono ?_
      rintro _ H' ⟨rfl, hH⟩
      rw [hH]; clear hH H'
      obtain ⟨wb, hwb⟩ : ∃ wb, decide (A.p.st ≠ 0 ∨ 0 < A.p.d.kept) = wb := ⟨_, rfl⟩
      rw [hwb]
      have bq : (true ^^ (wb == wb)) = false := by cases wb <;> rfl
      have mm : (⟨q, 6, mat A.t.w A.t.h (.slc cb1 0 N N) mx my (!A.t.hid)⟩ : Cel) ∈ (⟨cb2, 7, rowV A.t.rows.flatten⟩ : Cel) :: (tcl4 ++ (⟨q, 6, mat A.t.w A.t.h (.slc cb1 0 N N) mx my (!A.t.hid)⟩ :: ⟨cb1, 7, rowV A.t.rows.flatten⟩ :: (tcl3 ++ (pcl3 ++ pcl4)))) := by simp
      obtain ⟨_, f0, f1, f2, f3, f4⟩ := lq g10 mm
      have wm : IntKind.wrap .i64 ((A.t.w : Int) * (A.t.h : Int)) = (N : Int) := by rw [← Int.natCast_mul, Nat.mul_comm, ← hfl]; exact wrapNat (by omega)
      have x0 : decide (mx < 0) = false := decide_eq_false (by omega)
      have y0 : decide (my < 0) = false := decide_eq_false (by omega)
      have x1 : decide ((A.t.w : Int) ≤ mx) = false := decide_eq_false (by omega)
      have y1 : decide ((A.t.h : Int) ≤ my) = false := decide_eq_false (by omega)
      simp only [e0, e1, e3, e9, e11, e13, e14, bq, f0, f1, f2, f3, f4, wm, x0, y0, x1, y1, wantV_undef, SX, SY, Opd.ev, resVal, resVals, ARes.val, reduceCtorEq, Nat.reduceEqDiff, ↓reduceIte, Int.reduceEq, Int.reduceLT, Int.reduceLE, Nat.reduceAdd]
      refine wholes tq kA g10 mm (by have := r1.grow g9.fr gr10; exact this) (by first | (simp only [SX, SY, Opd.ev, resVal, resVals, ARes.val, reduceCtorEq, Nat.reduceEqDiff, ↓reduceIte, Int.reduceEq, Int.reduceLT, Int.reduceLE, Nat.reduceAdd, e0]; done) | exact e0 | (simp only [SX, SY, Opd.ev, resVal, resVals, ARes.val, reduceCtorEq, Nat.reduceEqDiff, ↓reduceIte, Int.reduceEq, Int.reduceLT, Int.reduceLE, Nat.reduceAdd, e0]; rfl)) (by first | (simp only [SX, SY, Opd.ev, resVal, resVals, ARes.val, reduceCtorEq, Nat.reduceEqDiff, ↓reduceIte, Int.reduceEq, Int.reduceLT, Int.reduceLE, Nat.reduceAdd, e1]; done) | exact e1 | (simp only [SX, SY, Opd.ev, resVal, resVals, ARes.val, reduceCtorEq, Nat.reduceEqDiff, ↓reduceIte, Int.reduceEq, Int.reduceLT, Int.reduceLE, Nat.reduceAdd, e1]; rfl)) (by first | (simp only [SX, SY, Opd.ev, resVal, resVals, ARes.val, reduceCtorEq, Nat.reduceEqDiff, ↓reduceIte, Int.reduceEq, Int.reduceLT, Int.reduceLE, Nat.reduceAdd]; done) | (simp only [SX, SY, Opd.ev, resVal, resVals, ARes.val, reduceCtorEq, Nat.reduceEqDiff, ↓reduceIte, Int.reduceEq, Int.reduceLT, Int.reduceLE, Nat.reduceAdd]; rfl) | rfl) (by first | (simp only [SX, SY, Opd.ev, resVal, resVals, ARes.val, reduceCtorEq, Nat.reduceEqDiff, ↓reduceIte, Int.reduceEq, Int.reduceLT, Int.reduceLE, Nat.reduceAdd]; done) | (simp only [SX, SY, Opd.ev, resVal, resVals, ARes.val, reduceCtorEq, Nat.reduceEqDiff, ↓reduceIte, Int.reduceEq, Int.reduceLT, Int.reduceLE, Nat.reduceAdd]; rfl) | rfl) fun e' => ?_
      simp only [SX, SY, Opd.ev, resVal, resVals, ARes.val, reduceCtorEq, Nat.reduceEqDiff, ↓reduceIte, Int.reduceEq, Int.reduceLT, Int.reduceLE, Nat.reduceAdd]
end
end Go.Proofs.YtfbcgjpblomckaaDoor.AM.EvN
