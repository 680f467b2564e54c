/-
  The law ParamsBack, walked on the abstract machine.
-/
import Derived.Test.YtcfjjeipdacbcaaDoorPbL
import Derived.Test.YtcfjjeipdacbcaaDoorItoaW
set_option linter.unusedVariables false
set_option linter.unusedSimpArgs false
namespace Go.Proofs.YtcfjjeipdacbcaaDoor.AM
open Go
/-- an own list of numbers, others beside -/
def OwnP (base : Nat) (H : AHeap) (v : AV) (l : List Int) (rest : List Cel) : Prop :=
  (l = [] ∧ v = .nils ∧ Hp base H rest) ∨ ∃ b, v = .slc b 0 l.length l.length ∧ Hp base H (⟨b, 1, ints l⟩ :: rest)
theorem OwnP.hp {base : Nat} {H : AHeap} {v : AV} {l : List Int} {rest : List Cel} (h : OwnP base H v l rest) : Hp base H rest := by
  rcases h with ⟨_, _, h⟩ | ⟨b, _, h⟩
  · exact h
  · exact h.drop
theorem OwnP.grow {base : Nat} {H H' : AHeap} {v : AV} {l : List Int} {rest : List Cel} (h : OwnP base H v l rest) (g : Gr H H') : OwnP base H' v l rest := by
  rcases h with ⟨h1, h2, h⟩ | ⟨b, h1, h⟩
  · exact .inl ⟨h1, h2, h.keep g.keep g.next g.fr⟩
  · exact .inr ⟨b, h1, h.keep g.keep g.next g.fr⟩
theorem OwnP.push {base : Nat} {H : AHeap} {v : AV} {l : List Int} {rest : List Cel} (h : OwnP base H v l rest) (hl : l.length ≤ 1000000) (x : Int) :
    ∃ H1 H2 w, H.alloc (.row ⟨[.int .i64 x], 0, false, true⟩) = H1 ∧ appendE H1 1 8 v (.slc H.next 0 1 1) = some (w, H2) ∧ OwnP base H2 w (l ++ [x]) rest ∧ Keep base H H2 := by
  obtain ⟨H1, s1, h1, k1⟩ := h.hp.make [.int .i64 x] 1
  rcases h with ⟨rfl, rfl, h⟩ | ⟨b, rfl, h⟩
  · obtain ⟨B, r1, c1⟩ := h1.rowOf (cs := [.int .i64 x]) (List.mem_cons_self ..)
    obtain ⟨H2, s2, h2, k2⟩ := h1.append0 (bytes := 8) (o2 := 0) (c2 := 1) (v := .int .i64 x) r1 (by rw [c1]; rfl) rfl (by omega) (by omega)
    exact ⟨H1, H2, _, s1, s2, .inr ⟨H1.next, rfl, h2.swap.drop⟩, k1.trans k2⟩
  · obtain ⟨H1', s1', h1', k1'⟩ := h.make [.int .i64 x] 1
    obtain rfl := s1.symm.trans s1'
    obtain ⟨B, r1, c1⟩ := h1'.rowOf (cs := [.int .i64 x]) (List.mem_cons_self ..)
    obtain ⟨H2, s2, h2, k2⟩ := (Hp.swap h1').append1 (bytes := 8) (o2 := 0) (c2 := 1) (v := .int .i64 x) (n := l.length) (by simp) r1 (by rw [c1]; rfl) rfl (by omega) (by omega)
    refine ⟨H1, H2, _, s1, s2, .inr ⟨H1.next, by simp, ?_⟩, k1.trans k2⟩
    have e : ints (l ++ [x]) = ints l ++ [.int .i64 x] := by simp
    rw [e]
    exact h2.swap.drop
/-- lists of small numbers, for reading -/
def IsUs (H : AHeap) (l : List Int) (c : AV) : Prop := IsS (IsK .u16) H c l
theorem IsUs.grow {H H' : AHeap} (hf : Fr H) (g : Gr H H') (x : List Int) (c : AV) (h : IsUs H x c) : IsUs H' x c := IsS.grow (R := IsK .u16) h (fun _ _ h => h) hf g
theorem DI_len {n : Nat} (h : n < 10000) : (DI n).length ≤ 4 := by
  by_cases c1 : n < 10
  · rw [DI1 c1]; simp
  by_cases c2 : n < 100
  · rw [DI2 c1 c2]; simp
  by_cases c3 : n < 1000
  · rw [DI3 (by omega) c3]; simp
  · rw [DI4 (by omega) h]; simp
theorem psK_len (l : List Int) : ∀ k, (psK l k).length ≤ 5 * k
  | 0 => by simp [psK]
  | k + 1 => by
    have h1 := psK_len l k
    have h2 : (DD (nv (l.getD k 0))).length ≤ 4 := DI_len (by have := nv_le (l.getD k 0); omega)
    unfold psK
    split <;> simp only [List.length_append, List.length_cons, List.length_nil] <;> omega
/-- the cells of an own list of lists -/
def RCp (v : AV) (M : List (Nat × List Int)) (rest : List Cel) : Prop := (M = [] ∧ v = .nils ∧ rest = []) ∨ ∃ b, M ≠ [] ∧ v = .slc b 0 M.length M.length ∧ rest = ⟨b, 1, heads M⟩ :: inner M
theorem LL.rc {base : Nat} {H : AHeap} {v : AV} {M : List (Nat × List Int)} (h : LL base H v M) : ∃ rest, RCp v M rest ∧ Hp base H rest := by
  rcases h with ⟨h1, h2, h⟩ | ⟨b, h1, h2, h⟩
  · exact ⟨[], .inl ⟨h1, h2, rfl⟩, h⟩
  · exact ⟨_, .inr ⟨b, h1, h2, rfl⟩, h⟩
theorem LL.pushR {base : Nat} {H : AHeap} {v : AV} {M : List (Nat × List Int)} {rest : List Cel} {ib m tb : Nat} {l : List Int} (hr : RCp v M rest) (h : Hp base H (⟨tb, 1, [.slc ib 0 m m]⟩ :: ⟨ib, 1, ints l⟩ :: rest)) (hm : l.length = m) (hs : M.length ≤ 100000) :
    ∃ w H', appendE H 1 24 v (.slc tb 0 1 1) = some (w, H') ∧ LL base H' w (M ++ [(ib, l)]) ∧ Keep base H H' := by
  refine LL.push ?_ hm hs
  rcases hr with ⟨h1, h2, rfl⟩ | ⟨b, h1, h2, rfl⟩
  · exact .inl ⟨h1, h2, h⟩
  · exact .inr ⟨b, h1, h2, h⟩
theorem nv_rem {x : Int} (h : 0 ≤ x) : binV .rem (.int .i64 x) (.int .i64 10000) = some (.int .i64 ((nv x : Nat) : Int)) := by
  obtain ⟨n, rfl⟩ : ∃ n : Nat, x = n := ⟨x.toNat, by omega⟩
  have e : binV .rem (.int .i64 (n : Int)) (.int .i64 10000) = some (.int .i64 ((n : Int).tmod 10000)) := by simp [binV, intBin]
  rw [e]; rfl
structure PbQ (Q : Prog) : Prop where
  it : ItQ Q
  q3 : Q.fns 3 = some A3
  q12 : Q.fns 12 = some A12
  q13 : Q.fns 13 = some A13
  q14 : Q.fns 14 = some A14
  q27 : Q.fns 27 = some A27
  q28 : Q.fns 28 = some A28
  q47 : Q.fns 47 = some A47
  ho : ∀ f, Nat.beq f 10 = false → ∀ a, Q.orc f a = Option.none
  yes : Q.orc 10 [] = some (.bool true)
  tb : Q.tabs = TP
set_option maxHeartbeats 4000000 in
theorem tl_wp {Q : Prog} (pq : PbQ Q) {base : Nat} {H : AHeap} {ov v wv a5 a7 : AV} {l : List Int} {rest : List Cel} {S : List UInt8} {n : Nat} {e : Env} {K : PostC} (hO : OwnP base H ov l rest) (hl : l.length ≤ 1000) (hn : n < 10000) (hS : S.length ≤ 10000) (hp : ∀ (i : Nat) (z : Int), zp10[i]? = some z → ∃ B, H.get 1 = some (.row B) ∧ B.live = true ∧ B.cells[i]? = some (.int .u64 z))
    (e0 : Env.get e 0 = v) (e3 : Env.get e 3 = .str S) (e4 : Env.get e 4 = wv) (e5 : Env.get e 5 = a5) (e6 : Env.get e 6 = ov) (e7 : Env.get e 7 = a7) (e8 : Env.get e 8 = .int .i64 n)
    (hk : ∀ e' H' w, OwnP base H' w (l ++ [(n : Int)]) rest → Keep base H H' → Env.get e' 0 = v → Env.get e' 3 = .str (S ++ DI n) → Env.get e' 4 = wv → Env.get e' 5 = a5 → Env.get e' 6 = w → Env.get e' 7 = a7 → K .normal e' H') : ACode.wp Q A3_tl K e H := by
  simp only [A3_tl, e3, e8, SX, Opd.ev, resVal, resVals, ARes.val, Bool.false_eq_true, Bool.not_false, Bool.not_true, List.getD_cons_succ, List.getD_cons_zero, List.map_cons, List.map_nil, Nat.add_zero, Nat.zero_add, Option.map_none, Option.map_some, Option.some.injEq, and_true, decide_false, decide_true, true_and, reduceCtorEq, Nat.reduceEqDiff, ↓reduceIte, Int.reduceEq, Int.reduceLT, Int.reduceLE, Nat.reduceAdd]
  refine (itoaW_spec pq.it hp hn hO.hp.fr).mono ?_
  rintro _ H1 ⟨rfl, g1⟩
  have dl := DI_len hn
  have a1 := bin_adds S (DI n) (by omega)
  obtain ⟨H2, H3, w, s2, s3, hO3, k3⟩ := (hO.grow g1).push (by omega) (n : Int)
  simp only [e3, e6, e8, a1, s2, s3, SX, Opd.ev, resVal, resVals, ARes.val, Bool.false_eq_true, Bool.not_false, Bool.not_true, List.getD_cons_succ, List.getD_cons_zero, List.map_cons, List.map_nil, Nat.add_zero, Nat.zero_add, Option.map_none, Option.map_some, Option.some.injEq, and_true, decide_false, decide_true, true_and, reduceCtorEq, Nat.reduceEqDiff, ↓reduceIte, Int.reduceEq, Int.reduceLT, Int.reduceLE, Nat.reduceAdd]
  have hb := hO.hp.bn
  refine hk _ H3 w hO3 ((g1.keep.le hb).trans k3) ?_ ?_ ?_ ?_ ?_ ?_ <;> simp only [e0, e3, e4, e5, e6, e7, SX, Opd.ev, resVal, resVals, ARes.val, Bool.false_eq_true, Bool.not_false, Bool.not_true, List.getD_cons_succ, List.getD_cons_zero, List.map_cons, List.map_nil, Nat.add_zero, Nat.zero_add, Option.map_none, Option.map_some, Option.some.injEq, and_true, decide_false, decide_true, true_and, reduceCtorEq, Nat.reduceEqDiff, ↓reduceIte, Int.reduceEq, Int.reduceLT, Int.reduceLE, Nat.reduceAdd]
set_option maxHeartbeats 8000000 in
theorem inn_wp {Q : Prog} (pq : PbQ Q) {H : AHeap} (hf : Fr H) (ht : hasTabs H TP = true) {v wv c : AV} {i : Nat} {l : List Int} {M : List (Nat × List Int)} {S : List UInt8} {e : Env} {H1 : AHeap} {K : PostC} (g : Gr H H1) (hLL : LL H.next H1 wv M) (hM : M.length ≤ 100) (hx : ∀ x ∈ l, 0 ≤ x ∧ x ≤ 65535) (h1 : 1 ≤ l.length) (h8 : l.length ≤ 8) (hS : S.length ≤ 5000)
    (xi : idxSV 1 v (.int .i64 (i : Int)) = some (atOf v i)) (lc : ∀ {H2}, Gr H H2 → loadV H2 none (atOf v i) = some c) (hcg : ∀ {H2}, Gr H H2 → IsS (IsK .u16) H2 c l)
    (e0 : Env.get e 0 = v) (e3 : Env.get e 3 = .str S) (e4 : Env.get e 4 = wv) (e5 : Env.get e 5 = .int .i64 i)
    (hk : ∀ e' H' w ib, Gr H H' → LL H.next H' w (M ++ [(ib, nvs l)]) → Env.get e' 0 = v → Env.get e' 3 = .str (S ++ psK l l.length) → Env.get e' 4 = w → Env.get e' 5 = .int .i64 i → K .normal e' H') : ACode.wp Q A3_inn K e H1 := by
  obtain ⟨rest, hRC, hrest⟩ := hLL.rc
  simp only [A3_inn, SX, Opd.ev, resVal, resVals, ARes.val, Bool.false_eq_true, Bool.not_false, Bool.not_true, List.getD_cons_succ, List.getD_cons_zero, List.map_cons, List.map_nil, Nat.add_zero, Nat.zero_add, Option.map_none, Option.map_some, Option.some.injEq, and_true, decide_false, decide_true, true_and, reduceCtorEq, Nat.reduceEqDiff, ↓reduceIte, Int.reduceEq, Int.reduceLT, Int.reduceLE, Nat.reduceAdd]
  obtain ⟨J, hJ⟩ : ∃ J : Nat → Env → AHeap → Prop, ∀ m e H2, J m e H2 ↔ (Gr H H2 ∧ ∃ (k : Nat) (ov : AV), m = l.length - k ∧ k ≤ l.length ∧ OwnP H.next H2 ov (nvs (l.take k)) rest ∧ Env.get e 0 = v ∧ Env.get e 3 = .str (S ++ psK l k) ∧ Env.get e 4 = wv ∧ Env.get e 5 = .int .i64 i ∧ Env.get e 6 = ov ∧ Env.get e 7 = .int .i64 k) := ⟨_, fun _ _ _ => Iff.rfl⟩
  refine loop_by J l.length ?_ ?_
  · refine (hJ _ _ _).2 ⟨g, 0, .nils, rfl, by omega, .inl ⟨rfl, rfl, hrest⟩, ?_⟩
    simp only [e0, e3, e4, e5, SX, Opd.ev, resVal, resVals, ARes.val, Bool.false_eq_true, Bool.not_false, Bool.not_true, List.getD_cons_succ, List.getD_cons_zero, List.map_cons, List.map_nil, Nat.add_zero, Nat.zero_add, Option.map_none, Option.map_some, Option.some.injEq, and_true, decide_false, decide_true, true_and, reduceCtorEq, Nat.reduceEqDiff, ↓reduceIte, Int.reduceEq, Int.reduceLT, Int.reduceLE, Nat.reduceAdd]
    exact ⟨by rw [psK, List.append_nil], rfl⟩
  · intro m e2 H2 hinv
    obtain ⟨g2, k, ov, rfl, hk8, hO, f0, f3, f4, f5, f6, f7⟩ := (hJ _ _ _).1 hinv
    have lcg := lc g2
    have hc := hcg g2
    have llg := hc.len
    by_cases d : (k : Int) < l.length
    · have d' : decide ((k : Int) < (l.length : Int)) = true := decide_eq_true d
      obtain ⟨x, hxk⟩ : ∃ x, l[k]? = some x := ⟨_, List.getElem?_eq_getElem (by omega)⟩
      obtain ⟨x0, x1⟩ := hx x (List.mem_of_getElem? hxk)
      have xk := hc.at (i := (k : Int)) (by omega) (by omega) .i64
      obtain ⟨cx, lx, hcx⟩ := hc.get (i := (k : Int)) (a := x) (by simpa using hxk)
      rw [show cx = .int .u16 x from hcx] at lx
      have wx : IntKind.wrap .i64 x = x := wrapI64 (by omega) (by omega)
      have rx := nv_rem x0
      have hnv := nv_le x
      have hgD : l.getD k 0 = x := by rw [List.getD_eq_getElem?_getD, hxk]; rfl
      have pl := psK_len l k
      have wk : IntKind.wrap .i64 ((k : Int) + 1) = ((k + 1 : Nat) : Int) := by rw [wrapI64 (by omega) (by omega)]; rfl
      have hl0 : (nvs (l.take k)).length ≤ 1000 := by simp; omega
      have hpw := pow_of (T := TP) (by simp [TP]) (g2.tabs hf ht)
      have fin : ∀ (s : List UInt8) (e3' : Env) (H3 : AHeap) (w : AV), s = S ++ psK l (k + 1) → OwnP H.next H3 w (nvs (l.take k) ++ [((nv x : Nat) : Int)]) rest → Keep H.next H2 H3 → Env.get e3' 0 = v → Env.get e3' 3 = .str s → Env.get e3' 4 = wv → Env.get e3' 5 = .int .i64 i → Env.get e3' 6 = w → Env.get e3' 7 = .int .i64 ((k + 1 : Nat) : Int) → ∃ m', m' < l.length - k ∧ J m' e3' H3 := by
        intro s e3' H3 w hs hO3 k3 t0 t3 t4 t5 t6 t7
        subst hs
        refine ⟨l.length - (k + 1), by omega, (hJ _ _ _).2 ⟨⟨fun b hb => by rw [k3 b hb, g2.keep b hb], hO3.hp.bn, hO3.hp.fr⟩, k + 1, w, rfl, by omega, ?_, t0, t3, t4, t5, t6, t7⟩⟩
        rw [nvs_take (by omega), hgD]; exact hO3
      by_cases k0 : 0 < k
      · have dk : decide ((0 : Int) < (k : Int)) = true := decide_eq_true (by omega)
        have ac := bin_adds (S ++ psK l k) [58] (by simp; omega)
        simp only [f0, f3, f4, f5, f6, f7, d', llg, lcg, xi, xk, lx, wx, rx, dk, ac, SX, Opd.ev, resVal, resVals, ARes.val, Bool.false_eq_true, Bool.not_false, Bool.not_true, List.getD_cons_succ, List.getD_cons_zero, List.map_cons, List.map_nil, Nat.add_zero, Nat.zero_add, Option.map_none, Option.map_some, Option.some.injEq, and_true, decide_false, decide_true, true_and, reduceCtorEq, Nat.reduceEqDiff, ↓reduceIte, Int.reduceEq, Int.reduceLT, Int.reduceLE, Nat.reduceAdd]
        refine tl_wp pq (v := v) (wv := wv) (a5 := .int .i64 i) (a7 := .int .i64 k) (ov := ov) (S := S ++ psK l k ++ [58]) (n := nv x) hO hl0 (by omega) (by simp; omega) hpw ?_ ?_ ?_ ?_ ?_ ?_ ?_ ?_
        rotate_right
        · intro e' H3 w hO3 k3 t0 t3 t4 t5 t6 t7
          simp only [t0, t3, t4, t5, t6, t7, wk, SX, Opd.ev, resVal, resVals, ARes.val, Bool.false_eq_true, Bool.not_false, Bool.not_true, List.getD_cons_succ, List.getD_cons_zero, List.map_cons, List.map_nil, Nat.add_zero, Nat.zero_add, Option.map_none, Option.map_some, Option.some.injEq, and_true, decide_false, decide_true, true_and, reduceCtorEq, Nat.reduceEqDiff, ↓reduceIte, Int.reduceEq, Int.reduceLT, Int.reduceLE, Nat.reduceAdd]
          refine fin (S ++ psK l k ++ [58] ++ DI (nv x)) _ H3 w ?_ hO3 k3 ?_ ?_ ?_ ?_ ?_ ?_
          · rw [psK, if_pos k0, hgD]; simp
          all_goals simp only [t0, t3, t4, t5, t6, t7, SX, Opd.ev, resVal, resVals, ARes.val, Bool.false_eq_true, Bool.not_false, Bool.not_true, List.getD_cons_succ, List.getD_cons_zero, List.map_cons, List.map_nil, Nat.add_zero, Nat.zero_add, Option.map_none, Option.map_some, Option.some.injEq, and_true, decide_false, decide_true, true_and, reduceCtorEq, Nat.reduceEqDiff, ↓reduceIte, Int.reduceEq, Int.reduceLT, Int.reduceLE, Nat.reduceAdd]
        all_goals simp only [f0, f3, f4, f5, f6, f7, SX, Opd.ev, resVal, resVals, ARes.val, Bool.false_eq_true, Bool.not_false, Bool.not_true, List.getD_cons_succ, List.getD_cons_zero, List.map_cons, List.map_nil, Nat.add_zero, Nat.zero_add, Option.map_none, Option.map_some, Option.some.injEq, and_true, decide_false, decide_true, true_and, reduceCtorEq, Nat.reduceEqDiff, ↓reduceIte, Int.reduceEq, Int.reduceLT, Int.reduceLE, Nat.reduceAdd]
      · obtain rfl : k = 0 := by omega
        have dk : decide ((0 : Int) < ((0 : Nat) : Int)) = false := rfl
        simp only [f0, f3, f4, f5, f6, f7, d', llg, lcg, xi, xk, lx, wx, rx, dk, SX, Opd.ev, resVal, resVals, ARes.val, Bool.false_eq_true, Bool.not_false, Bool.not_true, List.getD_cons_succ, List.getD_cons_zero, List.map_cons, List.map_nil, Nat.add_zero, Nat.zero_add, Option.map_none, Option.map_some, Option.some.injEq, and_true, decide_false, decide_true, true_and, reduceCtorEq, Nat.reduceEqDiff, ↓reduceIte, Int.reduceEq, Int.reduceLT, Int.reduceLE, Nat.reduceAdd]
        refine tl_wp pq (v := v) (wv := wv) (a5 := .int .i64 i) (a7 := .int .i64 ((0 : Nat) : Int)) (ov := ov) (S := S ++ psK l 0) (n := nv x) hO hl0 (by omega) (by simp; omega) hpw ?_ ?_ ?_ ?_ ?_ ?_ ?_ ?_
        rotate_right
        · intro e' H3 w hO3 k3 t0 t3 t4 t5 t6 t7
          simp only [t0, t3, t4, t5, t6, t7, wk, SX, Opd.ev, resVal, resVals, ARes.val, Bool.false_eq_true, Bool.not_false, Bool.not_true, List.getD_cons_succ, List.getD_cons_zero, List.map_cons, List.map_nil, Nat.add_zero, Nat.zero_add, Option.map_none, Option.map_some, Option.some.injEq, and_true, decide_false, decide_true, true_and, reduceCtorEq, Nat.reduceEqDiff, ↓reduceIte, Int.reduceEq, Int.reduceLT, Int.reduceLE, Nat.reduceAdd]
          refine fin (S ++ psK l 0 ++ DI (nv x)) _ H3 w ?_ hO3 k3 ?_ ?_ ?_ ?_ ?_ ?_
          · show _ = S ++ (psK l 0 ++ ((if 0 < 0 then [58] else []) ++ DD (nv (l.getD 0 0))))
            rw [hgD]; simp [psK]
          all_goals simp only [t0, t3, t4, t5, t6, t7, SX, Opd.ev, resVal, resVals, ARes.val, Bool.false_eq_true, Bool.not_false, Bool.not_true, List.getD_cons_succ, List.getD_cons_zero, List.map_cons, List.map_nil, Nat.add_zero, Nat.zero_add, Option.map_none, Option.map_some, Option.some.injEq, and_true, decide_false, decide_true, true_and, reduceCtorEq, Nat.reduceEqDiff, ↓reduceIte, Int.reduceEq, Int.reduceLT, Int.reduceLE, Nat.reduceAdd]
        all_goals simp only [f0, f3, f4, f5, f6, f7, SX, Opd.ev, resVal, resVals, ARes.val, Bool.false_eq_true, Bool.not_false, Bool.not_true, List.getD_cons_succ, List.getD_cons_zero, List.map_cons, List.map_nil, Nat.add_zero, Nat.zero_add, Option.map_none, Option.map_some, Option.some.injEq, and_true, decide_false, decide_true, true_and, reduceCtorEq, Nat.reduceEqDiff, ↓reduceIte, Int.reduceEq, Int.reduceLT, Int.reduceLE, Nat.reduceAdd]
    · have d' : decide ((k : Int) < (l.length : Int)) = false := decide_eq_false d
      obtain rfl : k = l.length := by omega
      rw [List.take_length] at hO
      rcases hO with ⟨h0, _⟩ | ⟨ib, rfl, hO⟩
      · have h00 : l = [] := by simpa using h0
        subst h00; simp at h1
      have hm : (nvs l).length = l.length := by simp
      rw [hm] at f6
      obtain ⟨H3, s3, h3, k3⟩ := hO.make [.slc ib 0 l.length l.length] 1
      obtain ⟨w, H4, s4, hL4, k4⟩ := LL.pushR hRC h3 hm (by omega)
      simp only [f0, f3, f4, f5, f6, f7, d', llg, lcg, xi, s3, s4, SX, Opd.ev, resVal, resVals, ARes.val, Bool.false_eq_true, Bool.not_false, Bool.not_true, List.getD_cons_succ, List.getD_cons_zero, List.map_cons, List.map_nil, Nat.add_zero, Nat.zero_add, Option.map_none, Option.map_some, Option.some.injEq, and_true, decide_false, decide_true, true_and, reduceCtorEq, Nat.reduceEqDiff, ↓reduceIte, Int.reduceEq, Int.reduceLT, Int.reduceLE, Nat.reduceAdd]
      refine hk _ H4 w ib ⟨fun b hb => by rw [k4 b hb, k3 b hb, g2.keep b hb], hL4.hp.bn, hL4.hp.fr⟩ hL4 ?_ ?_ ?_ ?_
      all_goals simp only [f0, f3, f4, f5, f6, f7, SX, Opd.ev, resVal, resVals, ARes.val, Bool.false_eq_true, Bool.not_false, Bool.not_true, List.getD_cons_succ, List.getD_cons_zero, List.map_cons, List.map_nil, Nat.add_zero, Nat.zero_add, Option.map_none, Option.map_some, Option.some.injEq, and_true, decide_false, decide_true, true_and, reduceCtorEq, Nat.reduceEqDiff, ↓reduceIte, Int.reduceEq, Int.reduceLT, Int.reduceLE, Nat.reduceAdd]
set_option maxHeartbeats 16000000 in
theorem lawPB {Q : Prog} (pq : PbQ Q) {H : AHeap} (hf : Fr H) (ht : hasTabs H TP = true) {v : AV} {L : List (List Int)} (hv : IsS IsUs H v L) (hx : ∀ l ∈ L, ∀ x ∈ l, 0 ≤ x ∧ x ≤ 65535) : FnTo Q 3 [v] H (fun r _ => r = .bool true) := by
  refine fn_wp (pq.ho 3 rfl _) pq.q3 (by simp [A3]) ?_
  have lv : ∀ {H'}, Gr H H' → lngV H' 1 v = some (.int .i64 L.length) := fun {H'} g => (hv.grow (fun x c h => IsUs.grow hf g x c h) hf g).len
  have lv0 := lv (Gr.refl hf)
  simp only [A3, SX, Opd.ev, resVal, resVals, ARes.val, Bool.false_eq_true, Bool.not_false, Bool.not_true, List.getD_cons_succ, List.getD_cons_zero, List.map_cons, List.map_nil, Nat.add_zero, Nat.zero_add, Option.map_none, Option.map_some, Option.some.injEq, and_true, decide_false, decide_true, true_and, reduceCtorEq, Nat.reduceEqDiff, ↓reduceIte, Int.reduceEq, Int.reduceLT, Int.reduceLE, Nat.reduceAdd]
  refine fn_orc pq.yes (by rw [pq.tb]; exact ht) ?_
  by_cases c16 : L.length ≤ 16
  rotate_left
  · have d16 : decide ((16 : Int) < (L.length : Int)) = true := decide_eq_true (by omega)
    simp only [lv0, d16, SX, Opd.ev, resVal, resVals, ARes.val, Bool.false_eq_true, Bool.not_false, Bool.not_true, List.getD_cons_succ, List.getD_cons_zero, List.map_cons, List.map_nil, Nat.add_zero, Nat.zero_add, Option.map_none, Option.map_some, Option.some.injEq, and_true, decide_false, decide_true, true_and, reduceCtorEq, Nat.reduceEqDiff, ↓reduceIte, Int.reduceEq, Int.reduceLT, Int.reduceLE, Nat.reduceAdd]
  have d16 : decide ((16 : Int) < (L.length : Int)) = false := decide_eq_false (by omega)
  simp only [lv0, d16, SX, Opd.ev, resVal, resVals, ARes.val, Bool.false_eq_true, Bool.not_false, Bool.not_true, List.getD_cons_succ, List.getD_cons_zero, List.map_cons, List.map_nil, Nat.add_zero, Nat.zero_add, Option.map_none, Option.map_some, Option.some.injEq, and_true, decide_false, decide_true, true_and, reduceCtorEq, Nat.reduceEqDiff, ↓reduceIte, Int.reduceEq, Int.reduceLT, Int.reduceLE, Nat.reduceAdd]
  obtain ⟨I, hI⟩ : ∃ I : Nat → Env → AHeap → Prop, ∀ m e H', I m e H' ↔ (Gr H H' ∧ ∃ (i : Nat) (wv : AV) (M : List (Nat × List Int)), m = L.length - i ∧ i ≤ L.length ∧ LL H.next H' wv M ∧ M.map (·.2) = (L.take i).map nvs ∧ (∀ l ∈ L.take i, 1 ≤ l.length ∧ l.length ≤ 8) ∧ (lsK L i).length ≤ 100 * i ∧ Env.get e 0 = v ∧ Env.get e 3 = .str (lsK L i) ∧ Env.get e 4 = wv ∧ Env.get e 5 = .int .i64 i) := ⟨_, fun _ _ _ => Iff.rfl⟩
  refine loop_by I L.length ?_ ?_
  · refine (hI _ _ _).2 ⟨Gr.refl hf, 0, .nils, [], rfl, by omega, .inl ⟨rfl, rfl, Hp.nil H hf⟩, rfl, fun l h => by simp at h, by simp [lsK], ?_⟩
    simp only [SX, Opd.ev, resVal, resVals, ARes.val, Bool.false_eq_true, Bool.not_false, Bool.not_true, List.getD_cons_succ, List.getD_cons_zero, List.map_cons, List.map_nil, Nat.add_zero, Nat.zero_add, Option.map_none, Option.map_some, Option.some.injEq, and_true, decide_false, decide_true, true_and, reduceCtorEq, Nat.reduceEqDiff, ↓reduceIte, Int.reduceEq, Int.reduceLT, Int.reduceLE, Nat.reduceAdd]
    exact ⟨rfl, rfl⟩
  · intro m e H' hinv
    obtain ⟨g, i, wv, M, rfl, hi, hLL, hM, hall, hsl, e0, e3, e4, e5⟩ := (hI _ _ _).1 hinv
    have lvg := lv g
    by_cases d : (i : Int) < L.length
    · have d' : decide ((i : Int) < (L.length : Int)) = true := decide_eq_true d
      obtain ⟨l, hli⟩ : ∃ l, L[i]? = some l := ⟨_, List.getElem?_eq_getElem (by omega)⟩
      have hlm : l ∈ L := List.mem_of_getElem? hli
      have hlD : L.getD i [] = l := by rw [List.getD_eq_getElem?_getD, hli]; rfl
      have hv1 : ∀ {H2}, Gr H H2 → IsS IsUs H2 v L := fun {H2} g2 => hv.grow (fun x c h => IsUs.grow hf g2 x c h) hf g2
      have xi := hv.at (i := (i : Int)) (by omega) (by omega) .i64
      obtain ⟨c, lc0, hc0⟩ := hv.get (i := (i : Int)) (a := l) (by simpa using hli)
      have lc : ∀ {H2}, Gr H H2 → loadV H2 none (atOf v i) = some c := fun {H2} g2 => by
        rcases hv with ⟨rfl, rfl⟩ | ⟨b, o, cap, B, rfl, hB, hlv, _⟩
        · simp at hli
        · simp only [loadV, ROp.run, Opd.ev, atOf, AHeap.row, hB, hlv, if_true] at lc0
          simp only [loadV, ROp.run, Opd.ev, atOf, AHeap.row, g2.get hf hB, hlv, if_true]
          exact lc0
      have lcg := lc g
      have hcg : ∀ {H2}, Gr H H2 → IsS (IsK .u16) H2 c l := fun {H2} g2 => IsUs.grow hf g2 l c hc0
      have ll : ∀ {H2}, Gr H H2 → lngV H2 1 c = some (.int .i64 l.length) := fun {H2} g2 => (hcg g2).len
      have llg := ll g
      by_cases c1 : l.length < 1
      · have d1 : decide ((l.length : Int) < 1) = true := decide_eq_true (by omega)
        simp only [e0, e3, e4, e5, lvg, d', xi, lcg, llg, d1, wantU, SX, Opd.ev, resVal, resVals, ARes.val, Bool.false_eq_true, Bool.not_false, Bool.not_true, List.getD_cons_succ, List.getD_cons_zero, List.map_cons, List.map_nil, Nat.add_zero, Nat.zero_add, Option.map_none, Option.map_some, Option.some.injEq, and_true, decide_false, decide_true, true_and, reduceCtorEq, Nat.reduceEqDiff, ↓reduceIte, Int.reduceEq, Int.reduceLT, Int.reduceLE, Nat.reduceAdd]
      have d1 : decide ((l.length : Int) < 1) = false := decide_eq_false (by omega)
      by_cases c8 : 8 < l.length
      · have d8 : decide ((8 : Int) < (l.length : Int)) = true := decide_eq_true (by omega)
        simp only [e0, e3, e4, e5, lvg, d', xi, lcg, llg, d1, d8, wantU, SX, Opd.ev, resVal, resVals, ARes.val, Bool.false_eq_true, Bool.not_false, Bool.not_true, List.getD_cons_succ, List.getD_cons_zero, List.map_cons, List.map_nil, Nat.add_zero, Nat.zero_add, Option.map_none, Option.map_some, Option.some.injEq, and_true, decide_false, decide_true, true_and, reduceCtorEq, Nat.reduceEqDiff, ↓reduceIte, Int.reduceEq, Int.reduceLT, Int.reduceLE, Nat.reduceAdd]
      have d8 : decide ((8 : Int) < (l.length : Int)) = false := decide_eq_false (by omega)
      have a0 := bin_adds (lsK L i) [59] (by simp; omega)
      have wi : IntKind.wrap .i64 ((i : Int) + 1) = ((i + 1 : Nat) : Int) := by rw [wrapI64 (by omega) (by omega)]; rfl
      have hMl : M.length ≤ 100 := by have := congrArg List.length hM; simp at this; omega
      have pl := psK_len l l.length
      have fin : ∀ (s : List UInt8) (e' : Env) (H3 : AHeap) (w : AV) (ib : Nat), s = lsK L (i + 1) → Gr H H3 → LL H.next H3 w (M ++ [(ib, nvs l)]) → Env.get e' 0 = v → Env.get e' 3 = .str s → Env.get e' 4 = w → Env.get e' 5 = .int .i64 ((i + 1 : Nat) : Int) → ∃ m', m' < L.length - i ∧ I m' e' H3 := by
        intro s e' H3 w ib hs g3 hL3 t0 t3 t4 t5
        subst hs
        refine ⟨L.length - (i + 1), by omega, (hI _ _ _).2 ⟨g3, i + 1, w, M ++ [(ib, nvs l)], rfl, by omega, hL3, ?_, ?_, ?_, t0, t3, t4, t5⟩⟩
        · rw [List.take_add_one, hli]; simp [hM]
        · intro q hq
          rw [List.take_add_one, hli] at hq
          simp only [Option.toList_some, List.mem_append, List.mem_singleton] at hq
          rcases hq with hq | rfl
          · exact hall q hq
          · omega
        · rw [lsK, hlD]; split <;> simp only [List.length_append, List.length_cons, List.length_nil] <;> omega
      by_cases i0 : 0 < i
      · have di : decide ((0 : Int) < (i : Int)) = true := decide_eq_true (by omega)
        simp only [e0, e3, e4, e5, lvg, d', xi, lcg, llg, d1, d8, di, a0, wantU, SX, Opd.ev, resVal, resVals, ARes.val, Bool.false_eq_true, Bool.not_false, Bool.not_true, List.getD_cons_succ, List.getD_cons_zero, List.map_cons, List.map_nil, Nat.add_zero, Nat.zero_add, Option.map_none, Option.map_some, Option.some.injEq, and_true, decide_false, decide_true, true_and, reduceCtorEq, Nat.reduceEqDiff, ↓reduceIte, Int.reduceEq, Int.reduceLT, Int.reduceLE, Nat.reduceAdd]
        refine inn_wp pq hf ht (v := v) (wv := wv) (c := c) (i := i) (l := l) (M := M) (S := lsK L i ++ [59]) g hLL hMl (hx l hlm) (by omega) (by omega) (by simp; omega) xi lc hcg ?_ ?_ ?_ ?_ ?_
        rotate_right
        · intro e' H3 w ib g3 hL3 t0 t3 t4 t5
          simp only [t0, t3, t4, t5, wi, SX, Opd.ev, resVal, resVals, ARes.val, Bool.false_eq_true, Bool.not_false, Bool.not_true, List.getD_cons_succ, List.getD_cons_zero, List.map_cons, List.map_nil, Nat.add_zero, Nat.zero_add, Option.map_none, Option.map_some, Option.some.injEq, and_true, decide_false, decide_true, true_and, reduceCtorEq, Nat.reduceEqDiff, ↓reduceIte, Int.reduceEq, Int.reduceLT, Int.reduceLE, Nat.reduceAdd]
          refine fin (lsK L i ++ [59] ++ psK l l.length) _ H3 w ib ?_ g3 hL3 ?_ ?_ ?_ ?_
          · rw [lsK, hlD, if_pos i0]; simp
          all_goals simp only [t0, t3, t4, t5, SX, Opd.ev, resVal, resVals, ARes.val, Bool.false_eq_true, Bool.not_false, Bool.not_true, List.getD_cons_succ, List.getD_cons_zero, List.map_cons, List.map_nil, Nat.add_zero, Nat.zero_add, Option.map_none, Option.map_some, Option.some.injEq, and_true, decide_false, decide_true, true_and, reduceCtorEq, Nat.reduceEqDiff, ↓reduceIte, Int.reduceEq, Int.reduceLT, Int.reduceLE, Nat.reduceAdd]
        all_goals simp only [e0, e3, e4, e5, SX, Opd.ev, resVal, resVals, ARes.val, Bool.false_eq_true, Bool.not_false, Bool.not_true, List.getD_cons_succ, List.getD_cons_zero, List.map_cons, List.map_nil, Nat.add_zero, Nat.zero_add, Option.map_none, Option.map_some, Option.some.injEq, and_true, decide_false, decide_true, true_and, reduceCtorEq, Nat.reduceEqDiff, ↓reduceIte, Int.reduceEq, Int.reduceLT, Int.reduceLE, Nat.reduceAdd]
      · obtain rfl : i = 0 := by omega
        have di : decide ((0 : Int) < ((0 : Nat) : Int)) = false := rfl
        simp only [e0, e3, e4, e5, lvg, d', xi, lcg, llg, d1, d8, di, wantU, SX, Opd.ev, resVal, resVals, ARes.val, Bool.false_eq_true, Bool.not_false, Bool.not_true, List.getD_cons_succ, List.getD_cons_zero, List.map_cons, List.map_nil, Nat.add_zero, Nat.zero_add, Option.map_none, Option.map_some, Option.some.injEq, and_true, decide_false, decide_true, true_and, reduceCtorEq, Nat.reduceEqDiff, ↓reduceIte, Int.reduceEq, Int.reduceLT, Int.reduceLE, Nat.reduceAdd]
        refine inn_wp pq hf ht (v := v) (wv := wv) (c := c) (i := 0) (l := l) (M := M) (S := lsK L 0) g hLL hMl (hx l hlm) (by omega) (by omega) (by simp [lsK]) xi lc hcg ?_ ?_ ?_ ?_ ?_
        rotate_right
        · intro e' H3 w ib g3 hL3 t0 t3 t4 t5
          simp only [t0, t3, t4, t5, wi, SX, Opd.ev, resVal, resVals, ARes.val, Bool.false_eq_true, Bool.not_false, Bool.not_true, List.getD_cons_succ, List.getD_cons_zero, List.map_cons, List.map_nil, Nat.add_zero, Nat.zero_add, Option.map_none, Option.map_some, Option.some.injEq, and_true, decide_false, decide_true, true_and, reduceCtorEq, Nat.reduceEqDiff, ↓reduceIte, Int.reduceEq, Int.reduceLT, Int.reduceLE, Nat.reduceAdd]
          refine fin (lsK L 0 ++ psK l l.length) _ H3 w ib ?_ g3 hL3 ?_ ?_ ?_ ?_
          · show _ = lsK L 0 ++ ((if 0 < 0 then [59] else []) ++ psK (L.getD 0 []) (L.getD 0 []).length)
            rw [hlD]; simp [lsK]
          all_goals simp only [t0, t3, t4, t5, SX, Opd.ev, resVal, resVals, ARes.val, Bool.false_eq_true, Bool.not_false, Bool.not_true, List.getD_cons_succ, List.getD_cons_zero, List.map_cons, List.map_nil, Nat.add_zero, Nat.zero_add, Option.map_none, Option.map_some, Option.some.injEq, and_true, decide_false, decide_true, true_and, reduceCtorEq, Nat.reduceEqDiff, ↓reduceIte, Int.reduceEq, Int.reduceLT, Int.reduceLE, Nat.reduceAdd]
        all_goals simp only [e0, e3, e4, e5, SX, Opd.ev, resVal, resVals, ARes.val, Bool.false_eq_true, Bool.not_false, Bool.not_true, List.getD_cons_succ, List.getD_cons_zero, List.map_cons, List.map_nil, Nat.add_zero, Nat.zero_add, Option.map_none, Option.map_some, Option.some.injEq, and_true, decide_false, decide_true, true_and, reduceCtorEq, Nat.reduceEqDiff, ↓reduceIte, Int.reduceEq, Int.reduceLT, Int.reduceLE, Nat.reduceAdd]
    · have d' : decide ((i : Int) < (L.length : Int)) = false := decide_eq_false d
      obtain rfl : i = L.length := by omega
      have fr := g.fr
      simp only [e0, e3, e4, e5, lvg, d', SX, Opd.ev, resVal, resVals, ARes.val, Bool.false_eq_true, Bool.not_false, Bool.not_true, List.getD_cons_succ, List.getD_cons_zero, List.map_cons, List.map_nil, Nat.add_zero, Nat.zero_add, Option.map_none, Option.map_some, Option.some.injEq, and_true, decide_false, decide_true, true_and, reduceCtorEq, Nat.reduceEqDiff, ↓reduceIte, Int.reduceEq, Int.reduceLT, Int.reduceLE, Nat.reduceAdd]
      rw [List.take_length] at hM hall
      have hmax : 10000 ≤ maxLen := by decide
      refine (list_spec pq.q13 (pq.ho 13 rfl) pq.q27 (pq.ho 27 rfl) pq.q47 (pq.ho 47 rfl) fr (t := lsK L L.length) (by omega)).mono ?_
      rintro r H1 ⟨k1, p, rfl, hp1⟩
      have g1 : (PS.none.feed (lsK L L.length)).Good := feed_good none_good
      have gl := good_len g1
      obtain ⟨n1, f1⟩ := hp1.fr
      simp only [e4, SX, Opd.ev, resVal, resVals, ARes.val, Bool.false_eq_true, Bool.not_false, Bool.not_true, List.getD_cons_succ, List.getD_cons_zero, List.map_cons, List.map_nil, Nat.add_zero, Nat.zero_add, Option.map_none, Option.map_some, Option.some.injEq, and_true, decide_false, decide_true, true_and, reduceCtorEq, Nat.reduceEqDiff, ↓reduceIte, Int.reduceEq, Int.reduceLT, Int.reduceLE, Nat.reduceAdd]
      refine (all_spec pq.q14 (pq.ho 14 rfl) pq.q28 (pq.ho 28 rfl) g1 hp1).mono ?_
      rintro ra H2 ⟨k2, M2, l2, em⟩
      have iw := ((hLL.keep k1 n1 f1).keep k2 l2.hp.bn l2.hp.fr).isSl
      have ia := l2.isSl
      have hb := back_law L c16 hall
      rw [em] at ia
      rw [hM, ← hb] at iw
      simp only [e4, SX, Opd.ev, resVal, resVals, ARes.val, Bool.false_eq_true, Bool.not_false, Bool.not_true, List.getD_cons_succ, List.getD_cons_zero, List.map_cons, List.map_nil, Nat.add_zero, Nat.zero_add, Option.map_none, Option.map_some, Option.some.injEq, and_true, decide_false, decide_true, true_and, reduceCtorEq, Nat.reduceEqDiff, ↓reduceIte, Int.reduceEq, Int.reduceLT, Int.reduceLE, Nat.reduceAdd]
      refine (same_spec pq.q12 (pq.ho 12 rfl) ia iw gl.1 gl.2).mono ?_
      rintro rc H4 ⟨rfl, rfl⟩
      simp only [SX, Opd.ev, resVal, resVals, ARes.val, Bool.false_eq_true, Bool.not_false, Bool.not_true, List.getD_cons_succ, List.getD_cons_zero, List.map_cons, List.map_nil, Nat.add_zero, Nat.zero_add, Option.map_none, Option.map_some, Option.some.injEq, and_true, decide_false, decide_true, true_and, reduceCtorEq, Nat.reduceEqDiff, ↓reduceIte, Int.reduceEq, Int.reduceLT, Int.reduceLE, Nat.reduceAdd]
end Go.Proofs.YtcfjjeipdacbcaaDoor.AM
