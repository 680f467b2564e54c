/-
  What a frame is told beyond; how many cells are unlike; walked on the abstract machine.
-/
import Derived.Test.YtkfnjjloefanjaaDoorPnA
set_option linter.unusedVariables false
set_option linter.unusedSimpArgs false
namespace Go.Proofs.YtkfnjjloefanjaaDoor.AM
open Go
section
variable {Q : Prog} (nq : PnQ Q) {H : AHeap}
include nq
set_option maxHeartbeats 8000000 in
theorem base_spec (ht : hasTabs H TT = true) (hf : Fr H) {w h x y : Int} {s : Bool} {v : AV} {l : List Ce} {w' h' x' y' : Int} {s' : Bool} {v' : AV} (h1 : RowS H v l) (o2 : v'.one = true) (sz : sizeP w' h' = true) :
    FnTo Q 33 [.agg (mat w h v x y s), .agg (mat w' h' v' x' y' s')] H (fun r H' => Gr H H' ∧ if rightM w h x y l = true ∧ w = w' ∧ h = h' then r = .tup [.agg (mat w h v x y s), .bool false] else ∃ u m, r = .tup [.agg (mat w' h' u 0 0 false), .bool true] ∧ RowS H' u m ∧ m.length = w'.toNat * h'.toNat) := by
  refine fn_wp (nq.pq.ho 33 rfl _) nq.q33 (by simp [A33]) ?_
  obtain ⟨H1, s1, g1, k1⟩ := (Hp.nil H hf).make (mat w h v x y s) 6
  obtain ⟨H2, s2, g2, k2⟩ := g1.make (mat w' h' v' x' y' s') 6
  obtain ⟨H3, s3, g3, k3⟩ := g2.make [.int .i64 0, .int .i64 0, .nils, .int .i64 0, .int .i64 0, .bool false] 6
  obtain ⟨Z, hZ⟩ : ∃ Z : List AV, [AV.int .i64 0, .int .i64 0, .nils, .int .i64 0, .int .i64 0, .bool false] = Z := ⟨_, rfl⟩
  obtain ⟨p, hp⟩ : ∃ p, H.next = p := ⟨_, rfl⟩
  obtain ⟨q, hq⟩ : ∃ q, H1.next = q := ⟨_, rfl⟩
  obtain ⟨t, hT⟩ : ∃ t, H2.next = t := ⟨_, rfl⟩
  have kk := k1.trans (k2.trans k3)
  have gg := g3.gr kk
  rw [hp, hq, hT] at g3
  rw [hZ] at g3
  have a6 := g3.loadN (b := p) (k := 6) (cs := mat w h v x y s) (by simp) (n := 6) rfl
  simp only [A33, boxV_agg (mat_one h1.one), boxV_agg (mat_one o2), s1, s2, s3, run_allocL, hp, hq, hT, a6, SX, Opd.ev, resVal, resVals, ARes.val, Bool.false_eq_true, Bool.not_false, Bool.not_true, List.getD_cons_succ, List.getD_cons_zero, List.map_cons, List.map_nil, Nat.add_zero, Nat.zero_add, Option.map_none, Option.map_some, Option.some.injEq, and_true, decide_false, decide_true, true_and, reduceCtorEq, Nat.reduceEqDiff, ↓reduceIte, Int.reduceEq, Int.reduceLT, Int.reduceLE, Nat.reduceAdd]
  refine (Right_spec nq.pq (gg.tabs hf ht) g3.fr (h1.grow hf gg)).mono ?_
  rintro _ H4 ⟨rfl, gr4⟩
  have g4 := g3.of_gr gr4
  have hb0 : p ≤ H3.next := by rw [← hp]; exact gg.next
  rw [hp] at kk
  have k4 : Keep p H H4 := kk.trans (gr4.keep.le hb0)
  have toG : ∀ {H' : AHeap} {L : List Cel}, Hp p H' L → Keep p H H' → Gr H H' := by rw [← hp]; exact fun a b => a.gr b
  have a0 := g4.load (b := p) (k := 6) (cs := mat w h v x y s) (by simp) (o := 0) rfl
  have a1 := g4.load (b := p) (k := 6) (cs := mat w h v x y s) (by simp) (o := 1) rfl
  have a6 := g4.loadN (b := p) (k := 6) (cs := mat w h v x y s) (by simp) (n := 6) rfl
  have b0 := g4.load (b := q) (k := 6) (cs := mat w' h' v' x' y' s') (by simp) (o := 0) rfl
  have b1 := g4.load (b := q) (k := 6) (cs := mat w' h' v' x' y' s') (by simp) (o := 1) rfl
  have other : ¬ (rightM w h x y l = true ∧ w = w' ∧ h = h') → FnTo Q 7 [.int .i64 w', .int .i64 h'] H4 (fun r H' => ∃ u m H5, r = .agg (mat w' h' u 0 0 false) ∧ storeE H' 6 (.ptr t 0) r = some (.undef, H5) ∧ loadV H5 (some 6) (.ptr t 0) = some r ∧ Gr H H5 ∧ RowS H5 u m ∧ m.length = w'.toNat * h'.toNat) := fun _ => by
    refine (Blank_spec nq.pq g4.fr w' h').mono ?_
    rintro r H' ⟨k5, hr⟩
    rcases hr with ⟨hr, _⟩ | ⟨_, b, rfl, g5⟩
    · rw [hr] at sz; cases sz
    · have g6 := g4.joinG (g5.gr k5) g5
      have g7 : Hp p H' (⟨t, 6, Z⟩ :: ⟨b, 7, rowV (List.replicate (w'.toNat * h'.toNat) blankC)⟩ :: [⟨q, 6, mat w' h' v' x' y' s'⟩, ⟨p, 6, mat w h v x y s⟩]) := g6.perm (List.Perm.swap _ _ _)
      obtain ⟨H5, s5, g8, k8, _⟩ := g7.storeN (b := t) (n := 6) (new := mat w' h' (.slc b 0 (w'.toNat * h'.toNat) (w'.toNat * h'.toNat)) 0 0 false) (by rw [← hZ]; rfl) rfl (mat_one rfl)
      have l8 := g8.loadN (b := t) (List.mem_cons_self ..) (n := 6) rfl
      have rs := g8.rowS (b := b) (l := List.replicate (w'.toNat * h'.toNat) blankC) (cap := w'.toNat * h'.toNat) (by simp) (by simp)
      rw [List.length_replicate] at rs
      exact ⟨_, _, H5, rfl, s5, l8, toG g8 (k4.trans ((k5.le (Nat.le_trans hb0 gr4.next)).trans k8)), rs, by simp⟩
  cases hr : rightM w h x y l with
  | false =>
    simp only [b0, b1, wantV_undef, SX, Opd.ev, resVal, resVals, ARes.val, Bool.false_eq_true, Bool.not_false, Bool.not_true, List.getD_cons_succ, List.getD_cons_zero, List.map_cons, List.map_nil, Nat.add_zero, Nat.zero_add, Option.map_none, Option.map_some, Option.some.injEq, and_true, decide_false, decide_true, true_and, reduceCtorEq, Nat.reduceEqDiff, ↓reduceIte, Int.reduceEq, Int.reduceLT, Int.reduceLE, Nat.reduceAdd]
    refine (other (by rw [hr]; simp)).mono ?_
    rintro _ H' ⟨u, m, H5, rfl, s5, l5, g5, rs, hm⟩
    simp only [s5, l5, SX, Opd.ev, resVal, resVals, ARes.val, Bool.false_eq_true, Bool.not_false, Bool.not_true, List.getD_cons_succ, List.getD_cons_zero, List.map_cons, List.map_nil, Nat.add_zero, Nat.zero_add, Option.map_none, Option.map_some, Option.some.injEq, and_true, decide_false, decide_true, true_and, reduceCtorEq, Nat.reduceEqDiff, ↓reduceIte, Int.reduceEq, Int.reduceLT, Int.reduceLE, Nat.reduceAdd]
    exact ⟨g5, by rw [if_neg (by simp)]; exact ⟨u, m, rfl, rs, hm⟩⟩
  | true =>
    by_cases c1 : w = w'
    case neg =>
      simp only [a0, b0, b1, c1, wantV_undef, SX, Opd.ev, resVal, resVals, ARes.val, Bool.false_eq_true, Bool.not_false, Bool.not_true, List.getD_cons_succ, List.getD_cons_zero, List.map_cons, List.map_nil, Nat.add_zero, Nat.zero_add, Option.map_none, Option.map_some, Option.some.injEq, and_true, decide_false, decide_true, true_and, reduceCtorEq, Nat.reduceEqDiff, ↓reduceIte, Int.reduceEq, Int.reduceLT, Int.reduceLE, Nat.reduceAdd]
      refine (other (fun hh => c1 hh.2.1)).mono ?_
      rintro _ H' ⟨u, m, H5, rfl, s5, l5, g5, rs, hm⟩
      simp only [s5, l5, SX, Opd.ev, resVal, resVals, ARes.val, Bool.false_eq_true, Bool.not_false, Bool.not_true, List.getD_cons_succ, List.getD_cons_zero, List.map_cons, List.map_nil, Nat.add_zero, Nat.zero_add, Option.map_none, Option.map_some, Option.some.injEq, and_true, decide_false, decide_true, true_and, reduceCtorEq, Nat.reduceEqDiff, ↓reduceIte, Int.reduceEq, Int.reduceLT, Int.reduceLE, Nat.reduceAdd]
      exact ⟨g5, by rw [if_neg (by simp [c1])]; exact ⟨u, m, rfl, rs, hm⟩⟩
    by_cases c2 : h = h'
    case neg =>
      simp only [a0, b0, a1, b1, c1, c2, wantV_undef, SX, Opd.ev, resVal, resVals, ARes.val, Bool.false_eq_true, Bool.not_false, Bool.not_true, List.getD_cons_succ, List.getD_cons_zero, List.map_cons, List.map_nil, Nat.add_zero, Nat.zero_add, Option.map_none, Option.map_some, Option.some.injEq, and_true, decide_false, decide_true, true_and, reduceCtorEq, Nat.reduceEqDiff, ↓reduceIte, Int.reduceEq, Int.reduceLT, Int.reduceLE, Nat.reduceAdd]
      refine (other (fun hh => c2 hh.2.2)).mono ?_
      rintro _ H' ⟨u, m, H5, rfl, s5, l5, g5, rs, hm⟩
      simp only [s5, l5, SX, Opd.ev, resVal, resVals, ARes.val, Bool.false_eq_true, Bool.not_false, Bool.not_true, List.getD_cons_succ, List.getD_cons_zero, List.map_cons, List.map_nil, Nat.add_zero, Nat.zero_add, Option.map_none, Option.map_some, Option.some.injEq, and_true, decide_false, decide_true, true_and, reduceCtorEq, Nat.reduceEqDiff, ↓reduceIte, Int.reduceEq, Int.reduceLT, Int.reduceLE, Nat.reduceAdd]
      exact ⟨g5, u, m, rfl, rs, hm⟩
    obtain ⟨H5, s5, g5, k5, _⟩ := g4.storeN (b := t) (n := 6) (new := mat w h v x y s) (by rw [← hZ]; rfl) rfl (mat_one h1.one)
    have l5 := g5.loadN (b := t) (List.mem_cons_self ..) (n := 6) rfl
    subst c1 c2
    simp only [a0, b0, a1, b1, wantV_undef, SX, Opd.ev, resVal, resVals, ARes.val, Bool.false_eq_true, Bool.not_false, Bool.not_true, List.getD_cons_succ, List.getD_cons_zero, List.map_cons, List.map_nil, Nat.add_zero, Nat.zero_add, Option.map_none, Option.map_some, Option.some.injEq, and_true, decide_false, decide_true, true_and, reduceCtorEq, Nat.reduceEqDiff, ↓reduceIte, Int.reduceEq, Int.reduceLT, Int.reduceLE, Nat.reduceAdd]
    simp only [a6, s5, l5, SX, Opd.ev, resVal, resVals, ARes.val, Bool.false_eq_true, Bool.not_false, Bool.not_true, List.getD_cons_succ, List.getD_cons_zero, List.map_cons, List.map_nil, Nat.add_zero, Nat.zero_add, Option.map_none, Option.map_some, Option.some.injEq, and_true, decide_false, decide_true, true_and, reduceCtorEq, Nat.reduceEqDiff, ↓reduceIte, Int.reduceEq, Int.reduceLT, Int.reduceLE, Nat.reduceAdd]
    exact toG g5 (k4.trans k5)
set_option maxHeartbeats 8000000 in
theorem unlikeBad_spec (ht : hasTabs H TT = true) (hf : Fr H) {w h x y : Int} {s : Bool} {v : AV} {w' h' x' y' : Int} {s' : Bool} {v' : AV} {l' : List Ce} (o1 : v.one = true) (h2 : RowS H v' l') (bad : rightM w' h' x' y' l' = false) :
    FnTo Q 14 [.agg (mat w h v x y s), .agg (mat w' h' v' x' y' s')] H (fun r H' => r = .int .i64 0 ∧ Gr H H') := by
  refine fn_wp (nq.pq.ho 14 rfl _) nq.q14 (by simp [A14]) ?_
  obtain ⟨H1, s1, g1, k1⟩ := (Hp.nil H hf).make (mat w h v x y s) 6
  obtain ⟨H2, s2, g2, k2⟩ := g1.make (mat w' h' v' x' y' s') 6
  obtain ⟨q, hq⟩ : ∃ q, H1.next = q := ⟨_, rfl⟩
  have gg := g2.gr (k1.trans k2)
  rw [hq] at g2
  have b6 := g2.loadN (b := q) (k := 6) (cs := mat w' h' v' x' y' s') (by simp) (n := 6) rfl
  simp only [A14, boxV_agg (mat_one o1), boxV_agg (mat_one h2.one), s1, s2, hq, b6, SX, Opd.ev, resVal, resVals, ARes.val, Bool.false_eq_true, Bool.not_false, Bool.not_true, List.getD_cons_succ, List.getD_cons_zero, List.map_cons, List.map_nil, Nat.add_zero, Nat.zero_add, Option.map_none, Option.map_some, Option.some.injEq, and_true, decide_false, decide_true, true_and, reduceCtorEq, Nat.reduceEqDiff, ↓reduceIte, Int.reduceEq, Int.reduceLT, Int.reduceLE, Nat.reduceAdd]
  refine (Right_spec nq.pq (gg.tabs hf ht) g2.fr (h2.grow hf gg)).mono ?_
  rintro _ H4 ⟨rfl, gr4⟩
  simp only [bad, SX, Opd.ev, resVal, resVals, ARes.val, Bool.false_eq_true, Bool.not_false, Bool.not_true, List.getD_cons_succ, List.getD_cons_zero, List.map_cons, List.map_nil, Nat.add_zero, Nat.zero_add, Option.map_none, Option.map_some, Option.some.injEq, and_true, decide_false, decide_true, true_and, reduceCtorEq, Nat.reduceEqDiff, ↓reduceIte, Int.reduceEq, Int.reduceLT, Int.reduceLE, Nat.reduceAdd]
  exact gg.trans gr4
set_option maxHeartbeats 8000000 in
theorem unlikeSelf_spec (ht : hasTabs H TT = true) (hf : Fr H) {w h x y : Int} {s : Bool} {v : AV} {l : List Ce} (h1 : RowS H v l) (hl : l.length ≤ 1000000) (sz : sizeP w h = true) (ok : rightM w h x y l = true) :
    FnTo Q 14 [.agg (mat w h v x y s), .agg (mat w h v x y s)] H (fun r H' => r = .int .i64 0 ∧ Gr H H') := by
  refine fn_wp (nq.pq.ho 14 rfl _) nq.q14 (by simp [A14]) ?_
  obtain ⟨H1, s1, g1, k1⟩ := (Hp.nil H hf).make (mat w h v x y s) 6
  obtain ⟨H2, s2, g2, k2⟩ := g1.make (mat w h v x y s) 6
  obtain ⟨p, hp⟩ : ∃ p, H.next = p := ⟨_, rfl⟩
  obtain ⟨q, hq⟩ : ∃ q, H1.next = q := ⟨_, rfl⟩
  have gg := g2.gr (k1.trans k2)
  have kk := k1.trans k2
  have hb0 : p ≤ H2.next := by rw [← hp]; exact gg.next
  rw [hp, hq] at g2
  rw [hp] at kk
  have b6 := g2.loadN (b := q) (k := 6) (cs := mat w h v x y s) (by simp) (n := 6) rfl
  simp only [A14, boxV_agg (mat_one h1.one), s1, s2, hp, hq, b6, SX, Opd.ev, resVal, resVals, ARes.val, Bool.false_eq_true, Bool.not_false, Bool.not_true, List.getD_cons_succ, List.getD_cons_zero, List.map_cons, List.map_nil, Nat.add_zero, Nat.zero_add, Option.map_none, Option.map_some, Option.some.injEq, and_true, decide_false, decide_true, true_and, reduceCtorEq, Nat.reduceEqDiff, ↓reduceIte, Int.reduceEq, Int.reduceLT, Int.reduceLE, Nat.reduceAdd]
  refine (Right_spec nq.pq (gg.tabs hf ht) g2.fr (h1.grow hf gg)).mono ?_
  rintro _ H3 ⟨rfl, gr3⟩
  have g3 := g2.of_gr gr3
  have gg3 := gg.trans gr3
  have a6 := g3.loadN (b := p) (k := 6) (cs := mat w h v x y s) (by simp) (n := 6) rfl
  have b6 := g3.loadN (b := q) (k := 6) (cs := mat w h v x y s) (by simp) (n := 6) rfl
  simp only [ok, a6, b6, SX, Opd.ev, resVal, resVals, ARes.val, Bool.false_eq_true, Bool.not_false, Bool.not_true, List.getD_cons_succ, List.getD_cons_zero, List.map_cons, List.map_nil, Nat.add_zero, Nat.zero_add, Option.map_none, Option.map_some, Option.some.injEq, and_true, decide_false, decide_true, true_and, reduceCtorEq, Nat.reduceEqDiff, ↓reduceIte, Int.reduceEq, Int.reduceLT, Int.reduceLE, Nat.reduceAdd]
  refine (base_spec nq (gg3.tabs hf ht) g3.fr (h1.grow hf gg3) h1.one sz).mono ?_
  rintro r H4 ⟨gr4, hr⟩
  rw [if_pos ⟨ok, rfl, rfl⟩] at hr
  subst hr
  have g4 := g3.of_gr gr4
  have gg4 := gg3.trans gr4
  have k4 : Keep p H H4 := (kk.trans (gr3.keep.le hb0)).trans (gr4.keep.le (Nat.le_trans hb0 gr3.next))
  obtain ⟨H5, s5, g5, k5, _⟩ := (g4.perm (List.Perm.swap _ _ _)).storeN (b := p) (n := 6) (new := mat w h v x y s) rfl rfl (mat_one h1.one)
  have toG : ∀ {H' : AHeap} {L : List Cel}, Hp p H' L → Keep p H H' → Gr H H' := by rw [← hp]; exact fun a b => a.gr b
  have gg5 := toG g5 (k4.trans k5)
  have b2 := g5.load (b := q) (k := 6) (cs := mat w h v x y s) (by simp) (o := 2) rfl
  have ln := (h1.grow hf gg5).len H5
  have x0 : extractV 0 (.tup [.agg (mat w h v x y s), .bool false]) = some (.agg (mat w h v x y s)) := rfl
  have x1 : extractV 1 (.tup [.agg (mat w h v x y s), .bool false]) = some (.bool false) := rfl
  simp only [x0, x1, s5, b2, ln, SX, Opd.ev, resVal, resVals, ARes.val, Bool.false_eq_true, Bool.not_false, Bool.not_true, List.getD_cons_succ, List.getD_cons_zero, List.map_cons, List.map_nil, Nat.add_zero, Nat.zero_add, Option.map_none, Option.map_some, Option.some.injEq, and_true, decide_false, decide_true, true_and, reduceCtorEq, Nat.reduceEqDiff, ↓reduceIte, Int.reduceEq, Int.reduceLT, Int.reduceLE, Nat.reduceAdd]
  obtain ⟨I, hI⟩ : ∃ I : Nat → Env → AHeap → Prop, ∀ k e H', I k e H' ↔ (Gr H H' ∧ Hp p H' [⟨p, 6, mat w h v x y s⟩, ⟨q, 6, mat w h v x y s⟩] ∧ ∃ i : Nat, k = l.length - i ∧ i ≤ l.length ∧ Env.get e 2 = .ptr p 0 ∧ Env.get e 5 = .int .i64 0 ∧ Env.get e 18 = v ∧ Env.get e 19 = .int .i64 l.length ∧ Env.get e 20 = .int .i64 i) := ⟨_, fun _ _ _ => Iff.rfl⟩
  refine loop_by I l.length ?_ ?_
  · exact (hI _ _ _).2 ⟨gg5, g5, 0, rfl, by omega, (by first | (simp only [SX, Opd.ev, resVal, resVals, ARes.val, Bool.false_eq_true, Bool.not_false, Bool.not_true, List.getD_cons_succ, List.getD_cons_zero, List.map_cons, List.map_nil, Nat.add_zero, Nat.zero_add, Option.map_none, Option.map_some, Option.some.injEq, and_true, decide_false, decide_true, true_and, reduceCtorEq, Nat.reduceEqDiff, ↓reduceIte, Int.reduceEq, Int.reduceLT, Int.reduceLE, Nat.reduceAdd]; done) | (simp only [SX, Opd.ev, resVal, resVals, ARes.val, Bool.false_eq_true, Bool.not_false, Bool.not_true, List.getD_cons_succ, List.getD_cons_zero, List.map_cons, List.map_nil, Nat.add_zero, Nat.zero_add, Option.map_none, Option.map_some, Option.some.injEq, and_true, decide_false, decide_true, true_and, reduceCtorEq, Nat.reduceEqDiff, ↓reduceIte, Int.reduceEq, Int.reduceLT, Int.reduceLE, Nat.reduceAdd]; rfl) | rfl), (by first | (simp only [SX, Opd.ev, resVal, resVals, ARes.val, Bool.false_eq_true, Bool.not_false, Bool.not_true, List.getD_cons_succ, List.getD_cons_zero, List.map_cons, List.map_nil, Nat.add_zero, Nat.zero_add, Option.map_none, Option.map_some, Option.some.injEq, and_true, decide_false, decide_true, true_and, reduceCtorEq, Nat.reduceEqDiff, ↓reduceIte, Int.reduceEq, Int.reduceLT, Int.reduceLE, Nat.reduceAdd]; done) | (simp only [SX, Opd.ev, resVal, resVals, ARes.val, Bool.false_eq_true, Bool.not_false, Bool.not_true, List.getD_cons_succ, List.getD_cons_zero, List.map_cons, List.map_nil, Nat.add_zero, Nat.zero_add, Option.map_none, Option.map_some, Option.some.injEq, and_true, decide_false, decide_true, true_and, reduceCtorEq, Nat.reduceEqDiff, ↓reduceIte, Int.reduceEq, Int.reduceLT, Int.reduceLE, Nat.reduceAdd]; rfl) | rfl), (by first | (simp only [SX, Opd.ev, resVal, resVals, ARes.val, Bool.false_eq_true, Bool.not_false, Bool.not_true, List.getD_cons_succ, List.getD_cons_zero, List.map_cons, List.map_nil, Nat.add_zero, Nat.zero_add, Option.map_none, Option.map_some, Option.some.injEq, and_true, decide_false, decide_true, true_and, reduceCtorEq, Nat.reduceEqDiff, ↓reduceIte, Int.reduceEq, Int.reduceLT, Int.reduceLE, Nat.reduceAdd]; done) | (simp only [SX, Opd.ev, resVal, resVals, ARes.val, Bool.false_eq_true, Bool.not_false, Bool.not_true, List.getD_cons_succ, List.getD_cons_zero, List.map_cons, List.map_nil, Nat.add_zero, Nat.zero_add, Option.map_none, Option.map_some, Option.some.injEq, and_true, decide_false, decide_true, true_and, reduceCtorEq, Nat.reduceEqDiff, ↓reduceIte, Int.reduceEq, Int.reduceLT, Int.reduceLE, Nat.reduceAdd]; rfl) | rfl), (by first | (simp only [SX, Opd.ev, resVal, resVals, ARes.val, Bool.false_eq_true, Bool.not_false, Bool.not_true, List.getD_cons_succ, List.getD_cons_zero, List.map_cons, List.map_nil, Nat.add_zero, Nat.zero_add, Option.map_none, Option.map_some, Option.some.injEq, and_true, decide_false, decide_true, true_and, reduceCtorEq, Nat.reduceEqDiff, ↓reduceIte, Int.reduceEq, Int.reduceLT, Int.reduceLE, Nat.reduceAdd]; done) | (simp only [SX, Opd.ev, resVal, resVals, ARes.val, Bool.false_eq_true, Bool.not_false, Bool.not_true, List.getD_cons_succ, List.getD_cons_zero, List.map_cons, List.map_nil, Nat.add_zero, Nat.zero_add, Option.map_none, Option.map_some, Option.some.injEq, and_true, decide_false, decide_true, true_and, reduceCtorEq, Nat.reduceEqDiff, ↓reduceIte, Int.reduceEq, Int.reduceLT, Int.reduceLE, Nat.reduceAdd]; rfl) | rfl), (by first | (simp only [SX, Opd.ev, resVal, resVals, ARes.val, Bool.false_eq_true, Bool.not_false, Bool.not_true, List.getD_cons_succ, List.getD_cons_zero, List.map_cons, List.map_nil, Nat.add_zero, Nat.zero_add, Option.map_none, Option.map_some, Option.some.injEq, and_true, decide_false, decide_true, true_and, reduceCtorEq, Nat.reduceEqDiff, ↓reduceIte, Int.reduceEq, Int.reduceLT, Int.reduceLE, Nat.reduceAdd]; done) | (simp only [SX, Opd.ev, resVal, resVals, ARes.val, Bool.false_eq_true, Bool.not_false, Bool.not_true, List.getD_cons_succ, List.getD_cons_zero, List.map_cons, List.map_nil, Nat.add_zero, Nat.zero_add, Option.map_none, Option.map_some, Option.some.injEq, and_true, decide_false, decide_true, true_and, reduceCtorEq, Nat.reduceEqDiff, ↓reduceIte, Int.reduceEq, Int.reduceLT, Int.reduceLE, Nat.reduceAdd]; rfl) | rfl)⟩
  · intro k e H6 hinv
    obtain ⟨gg6, g6, i, rfl, hi, e2, e5, e18, e19, e20⟩ := (hI _ _ _).1 hinv
    by_cases d : (i : Int) < l.length
    · obtain ⟨c, hc⟩ : ∃ c, l[i]? = some c := ⟨_, List.getElem?_eq_getElem (by omega)⟩
      obtain ⟨b, o, ix, l7, _⟩ := (h1.grow hf gg6).cell hc .i64
      obtain ⟨H7, s7, g7, k7⟩ := g6.make [.int .i32 0, .int .u8 0, .int .u16 0, .int .u8 0, .int .u32 0, .int .u8 0, .int .u32 0] 7
      obtain ⟨u, hu⟩ : ∃ u, H6.next = u := ⟨_, rfl⟩
      rw [hu] at g7
      obtain ⟨H8, s8, g8, k8, _⟩ := g7.storeN (b := u) (n := 7) (new := c.cs) rfl rfl rfl
      have gg8 := toG g8.drop ?_
      · have l8 := g8.loadN (b := u) (List.mem_cons_self ..) (n := 7) rfl
        have a2 := g8.load (b := p) (k := 6) (cs := mat w h v x y s) (by simp) (o := 2) rfl
        obtain ⟨b', o', ix', l7', _⟩ := (h1.grow hf gg8).cell hc .i64
        rw [ix] at ix'
        cases ix'
        have w1 : IntKind.wrap .i64 ((i : Int) + 1) = ((i + 1 : Nat) : Int) := wrapNat (n := i + 1) (by omega)
        have sq := seq7d c c
        rw [decide_eq_true rfl] at sq
        simp only [e2, e5, e18, e19, e20, d, ix, l7, run_allocL, s7, hu, s8, l8, a2, l7', run_seq, sq, w1, SX, Opd.ev, resVal, resVals, ARes.val, Bool.false_eq_true, Bool.not_false, Bool.not_true, List.getD_cons_succ, List.getD_cons_zero, List.map_cons, List.map_nil, Nat.add_zero, Nat.zero_add, Option.map_none, Option.map_some, Option.some.injEq, and_true, decide_false, decide_true, true_and, reduceCtorEq, Nat.reduceEqDiff, ↓reduceIte, Int.reduceEq, Int.reduceLT, Int.reduceLE, Nat.reduceAdd]
        exact ⟨l.length - (i + 1), by omega, (hI _ _ _).2 ⟨gg8, g8.drop, i + 1, rfl, by omega, (by first | (simp only [SX, Opd.ev, resVal, resVals, ARes.val, Bool.false_eq_true, Bool.not_false, Bool.not_true, List.getD_cons_succ, List.getD_cons_zero, List.map_cons, List.map_nil, Nat.add_zero, Nat.zero_add, Option.map_none, Option.map_some, Option.some.injEq, and_true, decide_false, decide_true, true_and, reduceCtorEq, Nat.reduceEqDiff, ↓reduceIte, Int.reduceEq, Int.reduceLT, Int.reduceLE, Nat.reduceAdd, e2]; done) | exact e2 | (simp only [SX, Opd.ev, resVal, resVals, ARes.val, Bool.false_eq_true, Bool.not_false, Bool.not_true, List.getD_cons_succ, List.getD_cons_zero, List.map_cons, List.map_nil, Nat.add_zero, Nat.zero_add, Option.map_none, Option.map_some, Option.some.injEq, and_true, decide_false, decide_true, true_and, reduceCtorEq, Nat.reduceEqDiff, ↓reduceIte, Int.reduceEq, Int.reduceLT, Int.reduceLE, Nat.reduceAdd, e2]; rfl)), (by first | (simp only [SX, Opd.ev, resVal, resVals, ARes.val, Bool.false_eq_true, Bool.not_false, Bool.not_true, List.getD_cons_succ, List.getD_cons_zero, List.map_cons, List.map_nil, Nat.add_zero, Nat.zero_add, Option.map_none, Option.map_some, Option.some.injEq, and_true, decide_false, decide_true, true_and, reduceCtorEq, Nat.reduceEqDiff, ↓reduceIte, Int.reduceEq, Int.reduceLT, Int.reduceLE, Nat.reduceAdd, e5]; done) | exact e5 | (simp only [SX, Opd.ev, resVal, resVals, ARes.val, Bool.false_eq_true, Bool.not_false, Bool.not_true, List.getD_cons_succ, List.getD_cons_zero, List.map_cons, List.map_nil, Nat.add_zero, Nat.zero_add, Option.map_none, Option.map_some, Option.some.injEq, and_true, decide_false, decide_true, true_and, reduceCtorEq, Nat.reduceEqDiff, ↓reduceIte, Int.reduceEq, Int.reduceLT, Int.reduceLE, Nat.reduceAdd, e5]; rfl)), (by first | (simp only [SX, Opd.ev, resVal, resVals, ARes.val, Bool.false_eq_true, Bool.not_false, Bool.not_true, List.getD_cons_succ, List.getD_cons_zero, List.map_cons, List.map_nil, Nat.add_zero, Nat.zero_add, Option.map_none, Option.map_some, Option.some.injEq, and_true, decide_false, decide_true, true_and, reduceCtorEq, Nat.reduceEqDiff, ↓reduceIte, Int.reduceEq, Int.reduceLT, Int.reduceLE, Nat.reduceAdd, e18]; done) | exact e18 | (simp only [SX, Opd.ev, resVal, resVals, ARes.val, Bool.false_eq_true, Bool.not_false, Bool.not_true, List.getD_cons_succ, List.getD_cons_zero, List.map_cons, List.map_nil, Nat.add_zero, Nat.zero_add, Option.map_none, Option.map_some, Option.some.injEq, and_true, decide_false, decide_true, true_and, reduceCtorEq, Nat.reduceEqDiff, ↓reduceIte, Int.reduceEq, Int.reduceLT, Int.reduceLE, Nat.reduceAdd, e18]; rfl)), (by first | (simp only [SX, Opd.ev, resVal, resVals, ARes.val, Bool.false_eq_true, Bool.not_false, Bool.not_true, List.getD_cons_succ, List.getD_cons_zero, List.map_cons, List.map_nil, Nat.add_zero, Nat.zero_add, Option.map_none, Option.map_some, Option.some.injEq, and_true, decide_false, decide_true, true_and, reduceCtorEq, Nat.reduceEqDiff, ↓reduceIte, Int.reduceEq, Int.reduceLT, Int.reduceLE, Nat.reduceAdd, e19]; done) | exact e19 | (simp only [SX, Opd.ev, resVal, resVals, ARes.val, Bool.false_eq_true, Bool.not_false, Bool.not_true, List.getD_cons_succ, List.getD_cons_zero, List.map_cons, List.map_nil, Nat.add_zero, Nat.zero_add, Option.map_none, Option.map_some, Option.some.injEq, and_true, decide_false, decide_true, true_and, reduceCtorEq, Nat.reduceEqDiff, ↓reduceIte, Int.reduceEq, Int.reduceLT, Int.reduceLE, Nat.reduceAdd, e19]; rfl)), (by first | (simp only [SX, Opd.ev, resVal, resVals, ARes.val, Bool.false_eq_true, Bool.not_false, Bool.not_true, List.getD_cons_succ, List.getD_cons_zero, List.map_cons, List.map_nil, Nat.add_zero, Nat.zero_add, Option.map_none, Option.map_some, Option.some.injEq, and_true, decide_false, decide_true, true_and, reduceCtorEq, Nat.reduceEqDiff, ↓reduceIte, Int.reduceEq, Int.reduceLT, Int.reduceLE, Nat.reduceAdd]; done) | (simp only [SX, Opd.ev, resVal, resVals, ARes.val, Bool.false_eq_true, Bool.not_false, Bool.not_true, List.getD_cons_succ, List.getD_cons_zero, List.map_cons, List.map_nil, Nat.add_zero, Nat.zero_add, Option.map_none, Option.map_some, Option.some.injEq, and_true, decide_false, decide_true, true_and, reduceCtorEq, Nat.reduceEqDiff, ↓reduceIte, Int.reduceEq, Int.reduceLT, Int.reduceLE, Nat.reduceAdd]; rfl) | rfl)⟩⟩
      · exact (show Keep p H H6 by rw [← hp]; exact gg6.keep).trans (k7.trans k8)
    · simp only [e2, e5, e18, e19, e20, d, SX, Opd.ev, resVal, resVals, ARes.val, Bool.false_eq_true, Bool.not_false, Bool.not_true, List.getD_cons_succ, List.getD_cons_zero, List.map_cons, List.map_nil, Nat.add_zero, Nat.zero_add, Option.map_none, Option.map_some, Option.some.injEq, and_true, decide_false, decide_true, true_and, reduceCtorEq, Nat.reduceEqDiff, ↓reduceIte, Int.reduceEq, Int.reduceLT, Int.reduceLE, Nat.reduceAdd]
      exact gg6
end
end Go.Proofs.YtkfnjjloefanjaaDoor.AM
