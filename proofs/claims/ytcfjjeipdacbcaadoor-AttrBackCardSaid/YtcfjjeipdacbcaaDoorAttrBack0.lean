/-
  The law AttrBack, walked on the abstract machine.
-/
import Derived.Test.YtcfjjeipdacbcaaDoorAbL
set_option linter.unusedVariables false
set_option linter.unusedSimpArgs false
namespace Go.Proofs.YtcfjjeipdacbcaaDoor.AM.EvN
open Go
theorem PRv.isL {base : Nat} {H : AHeap} {v : AV} {L : List (List Int)} {cl l : List Cel} (h : PRv v L cl) (hp : Hp base H l) (hsub : ∀ x ∈ cl, x ∈ l) : IsL H v L := by
  rcases h with ⟨rfl, rfl, _⟩ | ⟨b, M, hne, rfl, rfl, rfl⟩
  · exact .inl ⟨rfl, rfl⟩
  · refine Eq.mp (by rw [List.length_map]) (hp.isS (R := IsIs) (b := b) (cs := heads M) (xs := M.map (·.2)) (cap := M.length) (hsub _ (List.mem_cons_self ..)) (by simp) fun i x hx => ?_ : IsS IsIs H (.slc b 0 (M.map (·.2)).length M.length) (M.map (·.2)))
    obtain ⟨y, hy, rfl⟩ : ∃ y, M[i]? = some y ∧ y.2 = x := by
      rw [List.getElem?_map] at hx
      cases hM : M[i]? with
      | none => rw [hM] at hx; simp at hx
      | some y => rw [hM] at hx; exact ⟨y, rfl, by simpa using hx⟩
    refine ⟨.slc y.1 0 y.2.length y.2.length, by simp [heads, hy], ?_⟩
    exact hp.isS (R := IsI) (b := y.1) (cs := ints y.2) (xs := y.2) (hsub _ (List.mem_cons_of_mem _ (List.mem_map.2 ⟨y, List.mem_of_getElem? hy, rfl⟩))) (Nat.le_refl _) fun j z hz => ⟨.int .i64 z, by rw [List.getElem?_map, hz]; rfl, rfl⟩
theorem PRv.same {v : AV} {L : List (List Int)} {cl : List Cel} (h : PRv v L cl) : AV.same v v = true := by
  rcases h with ⟨_, rfl, _⟩ | ⟨b, M, _, _, rfl, _⟩
  · rfl
  · simp [AV.same, AV.same1]
section
variable {Q : Prog} (eq : EvQ Q) {H : AHeap}
include eq
set_option maxHeartbeats 8000000 in
theorem params_spec (q23 : Q.fns 23 = some A23) (q42 : Q.fns 42 = some A42) (hf : Fr H) {s : List UInt8} {ps : PS} {L : List (List Int)} (hs : s.length ≤ 10000) (hfed : PSt.new.feed s = ⟨DSt.zero, 0, ps, [], false, 0, [], false, [⟨4, 0, 109, [], L, []⟩]⟩) :
    FnTo Q 23 [.str s] H (fun r H' => ∃ v, r = .tup [v, .bool true] ∧ IsL H' v L ∧ Gr H H') := by
  refine fn_wp (eq.ho 23 rfl _) q23 (by simp [A23]) ?_
  simp only [A23, SX, Opd.ev, resVal, resVals, ARes.val, Bool.false_eq_true, Bool.not_false, Bool.not_true, List.getD_cons_succ, List.getD_cons_zero, List.map_cons, List.map_nil, Nat.add_zero, Nat.zero_add, Option.map_none, Option.map_some, Option.some.injEq, and_true, decide_false, decide_true, true_and, reduceCtorEq, Nat.reduceEqDiff, ↓reduceIte, Int.reduceEq, Int.reduceLT, Int.reduceLE, Nat.reduceAdd]
  refine (new_spec eq q42 (Hp.nil H hf)).mono ?_
  rintro _ H1 ⟨p, rfl, par1, k1⟩
  simp only [SX, Opd.ev, resVal, resVals, ARes.val, Bool.false_eq_true, Bool.not_false, Bool.not_true, List.getD_cons_succ, List.getD_cons_zero, List.map_cons, List.map_nil, Nat.add_zero, Nat.zero_add, Option.map_none, Option.map_some, Option.some.injEq, and_true, decide_false, decide_true, true_and, reduceCtorEq, Nat.reduceEqDiff, ↓reduceIte, Int.reduceEq, Int.reduceLT, Int.reduceLE, Nat.reduceAdd]
  refine (feed_spec eq new_good par1 (by simp [PSt.new]; omega) (by simp [PSt.new]; omega)).mono ?_
  rintro _ H2 ⟨par2, k2⟩
  rw [hfed] at par2
  simp only [SX, Opd.ev, resVal, resVals, ARes.val, Bool.false_eq_true, Bool.not_false, Bool.not_true, List.getD_cons_succ, List.getD_cons_zero, List.map_cons, List.map_nil, Nat.add_zero, Nat.zero_add, Option.map_none, Option.map_some, Option.some.injEq, and_true, decide_false, decide_true, true_and, reduceCtorEq, Nat.reduceEqDiff, ↓reduceIte, Int.reduceEq, Int.reduceLT, Int.reduceLE, Nat.reduceAdd]
  refine (next_spec eq par2).mono ?_
  rintro _ H3 ⟨k3, ⟨h0, _⟩ | ⟨a, rest, ht, hpr, rfl, par3⟩⟩
  · cases h0
  injection ht with ht1 ht2
  subst ht2
  have ek : a.1.k = 4 := (congrArg PEv.k ht1).symm
  have ef : a.1.f = 109 := (congrArg PEv.f ht1).symm
  have em : a.1.m = [] := (congrArg PEv.m ht1).symm
  have eL : a.1.L = L := (congrArg PEv.L ht1).symm
  obtain ⟨H4, s4, par4, k4⟩ := par3.make zeroE 6
  obtain ⟨r4, hp4, back4⟩ := par4.open
  obtain ⟨H5, s5, hp5, k5, n5⟩ := Hp.storeN (l := (a.2 ++ []) ++ r4) hp4 (n := 6) (new := a.1.cs) rfl rfl (by
    simp only [Ev.cs, List.all_cons, List.all_nil, hpr.one]; rfl)
  have s5 : storeE H4 6 (.ptr H3.next 0) a.1.val = some (.undef, H5) := s5
  have par5 : Par H.next H5 p _ (⟨H3.next, 6, a.1.cs⟩ :: (a.2 ++ [])) := back4 H5 (⟨H3.next, 6, a.1.cs⟩ :: (a.2 ++ [])) hp5
  have hz : [AV.int .i64 0, .int .i32 0, .int .u8 0, .str [], .nils, .str []] = zeroE := rfl
  simp only [ex0, ex1, hz, run_allocL, s4, s5, SX, Opd.ev, resVal, resVals, ARes.val, Bool.false_eq_true, Bool.not_false, Bool.not_true, List.getD_cons_succ, List.getD_cons_zero, List.map_cons, List.map_nil, Nat.add_zero, Nat.zero_add, Option.map_none, Option.map_some, Option.some.injEq, and_true, decide_false, decide_true, true_and, reduceCtorEq, Nat.reduceEqDiff, ↓reduceIte, Int.reduceEq, Int.reduceLT, Int.reduceLE, Nat.reduceAdd]
  refine (next_spec eq par5).mono ?_
  rintro _ H6 ⟨k6, ⟨_, rfl, par6⟩ | ⟨a', rest', ht', _⟩⟩
  rotate_left
  · cases ht'
  obtain ⟨H7, s7, par7, k7⟩ := par6.make zeroE 6
  obtain ⟨r7, hp7, back7⟩ := par7.open
  obtain ⟨H8, s8, hp8, k8, n8⟩ := Hp.storeN (l := (⟨H3.next, 6, a.1.cs⟩ :: (a.2 ++ [])) ++ r7) hp7 (n := 6) (new := zeroE) rfl rfl rfl
  have par8 : Par H.next H8 p _ (⟨H6.next, 6, zeroE⟩ :: ⟨H3.next, 6, a.1.cs⟩ :: (a.2 ++ [])) := back7 H8 (⟨H6.next, 6, zeroE⟩ :: ⟨H3.next, 6, a.1.cs⟩ :: (a.2 ++ [])) hp8
  have hm : (⟨H3.next, 6, a.1.cs⟩ : Cel) ∈ (⟨H6.next, 6, zeroE⟩ :: ⟨H3.next, 6, a.1.cs⟩ :: (a.2 ++ []) : List Cel) := List.mem_cons_of_mem _ (List.mem_cons_self ..)
  have hp8' := par8.hp
  have l0 : loadV H8 none (.ptr H3.next 0) = some (.int .i64 4) := by rw [← ek]; exact hp8'.load hm (o := 0) rfl
  have l2 : loadV H8 none (.ptr H3.next 2) = some (.int .u8 109) := by rw [← ef]; exact hp8'.load hm (o := 2) rfl
  have l3 : loadV H8 none (.ptr H3.next 3) = some (.str []) := by rw [← em]; exact hp8'.load hm (o := 3) rfl
  have l4 : loadV H8 none (.ptr H3.next 4) = some a.1.v := hp8'.load hm (o := 4) rfl
  have es : binV .eql (.str []) (.str []) = some (.bool true) := rfl
  simp only [ex0, ex1, hz, run_allocL, s7, s8, l0, l2, l3, l4, es, wantV_undef, SX, Opd.ev, resVal, resVals, ARes.val, Bool.false_eq_true, Bool.not_false, Bool.not_true, List.getD_cons_succ, List.getD_cons_zero, List.map_cons, List.map_nil, Nat.add_zero, Nat.zero_add, Option.map_none, Option.map_some, Option.some.injEq, and_true, decide_false, decide_true, true_and, reduceCtorEq, Nat.reduceEqDiff, ↓reduceIte, Int.reduceEq, Int.reduceLT, Int.reduceLE, Nat.reduceAdd]
  refine (waits_spec eq par8).mono ?_
  rintro _ H9 ⟨rfl, hx⟩
  subst hx
  have hw : decide ((0 : Int) ≠ 0 ∨ (0 : Int) < DSt.zero.kept) = false := by decide
  refine ⟨by simp only [echoOk, l4, hpr.same, Bool.and_self, wantV_undef, SX, Opd.ev, resVal, resVals, ARes.val, Bool.false_eq_true, Bool.not_false, Bool.not_true, List.getD_cons_succ, List.getD_cons_zero, List.map_cons, List.map_nil, Nat.add_zero, Nat.zero_add, Option.map_none, Option.map_some, Option.some.injEq, and_true, decide_false, decide_true, true_and, reduceCtorEq, Nat.reduceEqDiff, ↓reduceIte, Int.reduceEq, Int.reduceLT, Int.reduceLE, Nat.reduceAdd], ?_⟩
  simp only [hw, wantV_undef, SX, Opd.ev, resVal, resVals, ARes.val, Bool.false_eq_true, Bool.not_false, Bool.not_true, List.getD_cons_succ, List.getD_cons_zero, List.map_cons, List.map_nil, Nat.add_zero, Nat.zero_add, Option.map_none, Option.map_some, Option.some.injEq, and_true, decide_false, decide_true, true_and, reduceCtorEq, Nat.reduceEqDiff, ↓reduceIte, Int.reduceEq, Int.reduceLT, Int.reduceLE, Nat.reduceAdd]
  refine ⟨_, rfl, ?_, hp8'.gr (((((((k1.trans k2).trans k3).trans k4).trans k5).trans k6).trans k7).trans k8)⟩
  rw [← eL]
  exact hpr.isL hp8' fun x hx => List.mem_cons_of_mem _ (List.mem_cons_of_mem _ (by simpa using hx))
end
theorem bin_eqlN {a b : List UInt8} (h : a = b) : binV .eql (.str a) (.str b) = some (.bool true) := by subst h; simp [binV, strBin]
theorem LB_len (b : At) : (LB b).length ≤ 11 := by
  have h1 := gL_len b.fl 8
  have h2 := colL_len 38 b.fk b.fn
  have h3 := colL_len 48 b.bk b.bn
  unfold LB
  simp only [List.length_append]; omega
theorem gL_one (fl : Int) : ∀ i, ∀ p ∈ gL fl i, p.length ≤ 1
  | 0, p, h => by simp [gL] at h; subst h; simp
  | i + 1, p, h => by
    unfold gL at h
    split at h
    · rcases List.mem_append.1 h with h | h
      · exact gL_one fl i p h
      · simp only [List.mem_singleton] at h; subst h; simp
    · exact gL_one fl i p h
theorem colL_part (c : Nat) (k n : Int) : ∀ p ∈ colL c k n, p.length ≤ 6 := by
  intro p h
  unfold colL at h
  split at h
  · simp only [List.mem_singleton] at h; subst h; simp
  · split at h
    · simp only [List.mem_singleton] at h; subst h; simp
    · simp at h
theorem LB_part (b : At) : ∀ p ∈ LB b, p.length ≤ 6 := by
  intro p h
  unfold LB at h
  rcases List.mem_append.1 h with h | h
  · have := gL_one _ _ p h; omega
  · rcases List.mem_append.1 h with h | h
    · exact colL_part _ _ _ p h
    · exact colL_part _ _ _ p h
set_option maxHeartbeats 8000000 in
theorem law9 {Q : Prog} (eq : EvQ Q) (bq : BtQ Q) (q9 : Q.fns 9 = some A9) (q23 : Q.fns 23 = some A23) (q42 : Q.fns 42 = some A42) (yes : Q.orc 16 [] = some (.bool true)) {H : AHeap} (ht : hasTabs H TT = true) {a b o : At} (hb0 : 0 ≤ b.fl) (hb1 : 0 ≤ b.fn) (hb2 : 0 ≤ b.bn) (hf : Fr H) : FnTo Q 9 [a.val, b.val, o.val] H (fun r _ => r = .bool true) := by
  refine fn_wp (bq.at_.ho 9 rfl _) q9 (by simp [A9]) ?_
  obtain ⟨H1, s1, h1, k1⟩ := (Hp.nil H hf).make a.cs 5
  obtain ⟨H2, s2, h2, k2⟩ := h1.make b.cs 5
  obtain ⟨H3, s3, h3, k3⟩ := h2.make o.cs 5
  have g3 : Gr H H3 := h3.gr ((k1.trans k2).trans k3)
  have ht3 := g3.tabs hf ht
  have la : ∀ {H'}, Gr H3 H' → loadV H' (some 5) (.ptr H.next 0) = some a.val := fun {H'} g => (h3.keep g.keep g.next g.fr).loadN (k := 5) (List.mem_of_getElem? (i := 2) rfl) rfl
  have lb : ∀ {H'}, Gr H3 H' → loadV H' (some 5) (.ptr H1.next 0) = some b.val := fun {H'} g => (h3.keep g.keep g.next g.fr).loadN (k := 5) (List.mem_of_getElem? (i := 1) rfl) rfl
  have lo : ∀ {H'}, Gr H3 H' → loadV H' (some 5) (.ptr H2.next 0) = some o.val := fun {H'} g => (h3.keep g.keep g.next g.fr).loadN (k := 5) (List.mem_of_getElem? (i := 0) rfl) rfl
  simp only [A9, box_at, run_box, run_allocL, s1, s2, s3, SX, Opd.ev, resVal, resVals, ARes.val, Bool.false_eq_true, Bool.not_false, Bool.not_true, List.getD_cons_succ, List.getD_cons_zero, List.map_cons, List.map_nil, Nat.add_zero, Nat.zero_add, Option.map_none, Option.map_some, Option.some.injEq, and_true, decide_false, decide_true, true_and, reduceCtorEq, Nat.reduceEqDiff, ↓reduceIte, Int.reduceEq, Int.reduceLT, Int.reduceLE, Nat.reduceAdd]
  refine fn_orc yes (by rw [bq.tb]; exact ht3) ?_
  have la0 := la (Gr.refl g3.fr)
  have lb0 := lb (Gr.refl g3.fr)
  simp only [la0, lb0, SX, Opd.ev, resVal, resVals, ARes.val, Bool.false_eq_true, Bool.not_false, Bool.not_true, List.getD_cons_succ, List.getD_cons_zero, List.map_cons, List.map_nil, Nat.add_zero, Nat.zero_add, Option.map_none, Option.map_some, Option.some.injEq, and_true, decide_false, decide_true, true_and, reduceCtorEq, Nat.reduceEqDiff, ↓reduceIte, Int.reduceEq, Int.reduceLT, Int.reduceLE, Nat.reduceAdd]
  refine (between_spec bq (a := a) (b := b) hb1 hb2 g3.fr ht3).mono ?_
  rintro _ H4 ⟨rfl, g4⟩
  have la4 := la g4
  have lb4 := lb g4
  by_cases hab : a = b
  · have sq := seq_at a
    have eb : betP a b (sA b.fl 8) = [] := by unfold betP; rw [if_pos (.inl hab)]
    rw [eb]
    rw [← hab] at lb4
    have es : binV .eql (.str []) (.str []) = some (.bool true) := rfl
    simp only [la4, lb4, sq, es, wantV_undef, resVal, resVals, ARes.val, SX, Opd.ev, resVal, resVals, ARes.val, Bool.false_eq_true, Bool.not_false, Bool.not_true, List.getD_cons_succ, List.getD_cons_zero, List.map_cons, List.map_nil, Nat.add_zero, Nat.zero_add, Option.map_none, Option.map_some, Option.some.injEq, and_true, decide_false, decide_true, true_and, reduceCtorEq, Nat.reduceEqDiff, ↓reduceIte, Int.reduceEq, Int.reduceLT, Int.reduceLE, Nat.reduceAdd]
  have sq := seq_ne hab
  simp only [la4, lb4, sq, wantV_undef, SX, Opd.ev, resVal, resVals, ARes.val, Bool.false_eq_true, Bool.not_false, Bool.not_true, List.getD_cons_succ, List.getD_cons_zero, List.map_cons, List.map_nil, Nat.add_zero, Nat.zero_add, Option.map_none, Option.map_some, Option.some.injEq, and_true, decide_false, decide_true, true_and, reduceCtorEq, Nat.reduceEqDiff, ↓reduceIte, Int.reduceEq, Int.reduceLT, Int.reduceLE, Nat.reduceAdd]
  refine (right_spec bq.at_ b g4.fr).mono ?_
  rintro _ H5 ⟨rfl, g5⟩
  cases hr : rightP b with
  | false =>
    have eb : betP a b (sA b.fl 8) = [] := by unfold betP; rw [if_pos (.inr hr)]
    rw [eb]
    have es : binV .eql (.str []) (.str []) = some (.bool true) := rfl
    simp only [es, wantV_undef, resVal, resVals, ARes.val, SX, Opd.ev, resVal, resVals, ARes.val, Bool.false_eq_true, Bool.not_false, Bool.not_true, List.getD_cons_succ, List.getD_cons_zero, List.map_cons, List.map_nil, Nat.add_zero, Nat.zero_add, Option.map_none, Option.map_some, Option.some.injEq, and_true, decide_false, decide_true, true_and, reduceCtorEq, Nat.reduceEqDiff, ↓reduceIte, Int.reduceEq, Int.reduceLT, Int.reduceLE, Nat.reduceAdd]
  | true =>
    have hr' := hr
    simp only [rightP, Bool.and_eq_true, decide_eq_true_eq] at hr'
    obtain ⟨r1, r2, r3⟩ := hr'
    have eb := bet_body hab hr
    have hfd := fed (body_in b)
    rw [feed_body hb1 hb2 r2 r3, ← eb] at hfd
    have hlen : (betP a b (sA b.fl 8)).length ≤ 10000 := by
      have q1 := saysP_len (c := 38) (.inl rfl) hb1 r2
      have q2 := saysP_len (c := 48) (.inr rfl) hb2 r3
      have q3 := sA_len b.fl 8
      unfold betP
      split
      · simp
      · simp only [List.length_append, List.length_cons, List.length_nil]; omega
    have hg45 := g4.trans g5
    have ht5 := hg45.tabs g3.fr ht3
    simp only [wantV_undef, SX, Opd.ev, resVal, resVals, ARes.val, Bool.false_eq_true, Bool.not_false, Bool.not_true, List.getD_cons_succ, List.getD_cons_zero, List.map_cons, List.map_nil, Nat.add_zero, Nat.zero_add, Option.map_none, Option.map_some, Option.some.injEq, and_true, decide_false, decide_true, true_and, reduceCtorEq, Nat.reduceEqDiff, ↓reduceIte, Int.reduceEq, Int.reduceLT, Int.reduceLE, Nat.reduceAdd]
    refine (params_spec eq q23 q42 hg45.fr hlen hfd).mono ?_
    rintro _ H6 ⟨v, rfl, hv, g6⟩
    have g36 := hg45.trans g6
    have hLl := LB_len b
    have hLp := LB_part b
    have la6 := la g36
    have lb6 := lb g36
    have ap := fun (x : At) => apply_back (x := x) hr hb0 hb1 hb2
    simp only [ex0, ex1, la6, lb6, wantV_undef, SX, Opd.ev, resVal, resVals, ARes.val, Bool.false_eq_true, Bool.not_false, Bool.not_true, List.getD_cons_succ, List.getD_cons_zero, List.map_cons, List.map_nil, Nat.add_zero, Nat.zero_add, Option.map_none, Option.map_some, Option.some.injEq, and_true, decide_false, decide_true, true_and, reduceCtorEq, Nat.reduceEqDiff, ↓reduceIte, Int.reduceEq, Int.reduceLT, Int.reduceLE, Nat.reduceAdd]
    refine (apply_spec bq.at_ (a := a) (L := LB b) hv (by omega) (fun p hp => by have := hLp p hp; omega) g6.fr (g6.tabs hg45.fr ht5)).mono ?_
    rintro _ H7 ⟨rfl, g7⟩
    have g37 := g36.trans g7
    have lb7 := lb g37
    have lo7 := lo g37
    rw [ap a]
    refine ⟨by simp only [echoOk, lb6, lb7, same_at, Bool.and_self, wantV_undef, SX, Opd.ev, resVal, resVals, ARes.val, Bool.false_eq_true, Bool.not_false, Bool.not_true, List.getD_cons_succ, List.getD_cons_zero, List.map_cons, List.map_nil, Nat.add_zero, Nat.zero_add, Option.map_none, Option.map_some, Option.some.injEq, and_true, decide_false, decide_true, true_and, reduceCtorEq, Nat.reduceEqDiff, ↓reduceIte, Int.reduceEq, Int.reduceLT, Int.reduceLE, Nat.reduceAdd], ?_⟩
    have sb := seq_at b
    simp only [lb6, lb7, lo7, sb, wantV_undef, SX, Opd.ev, resVal, resVals, ARes.val, Bool.false_eq_true, Bool.not_false, Bool.not_true, List.getD_cons_succ, List.getD_cons_zero, List.map_cons, List.map_nil, Nat.add_zero, Nat.zero_add, Option.map_none, Option.map_some, Option.some.injEq, and_true, decide_false, decide_true, true_and, reduceCtorEq, Nat.reduceEqDiff, ↓reduceIte, Int.reduceEq, Int.reduceLT, Int.reduceLE, Nat.reduceAdd]
    refine (apply_spec bq.at_ (a := o) (L := LB b) (hv.grow g6.fr g7) (by omega) (fun p hp => by have := hLp p hp; omega) g7.fr ((g6.trans g7).tabs hg45.fr ht5)).mono ?_
    rintro _ H8 ⟨rfl, g8⟩
    have lb8 := lb (g37.trans g8)
    rw [ap o]
    refine ⟨by simp only [echoOk, lb7, lb8, same_at, Bool.and_self, wantV_undef, SX, Opd.ev, resVal, resVals, ARes.val, Bool.false_eq_true, Bool.not_false, Bool.not_true, List.getD_cons_succ, List.getD_cons_zero, List.map_cons, List.map_nil, Nat.add_zero, Nat.zero_add, Option.map_none, Option.map_some, Option.some.injEq, and_true, decide_false, decide_true, true_and, reduceCtorEq, Nat.reduceEqDiff, ↓reduceIte, Int.reduceEq, Int.reduceLT, Int.reduceLE, Nat.reduceAdd], ?_⟩
    simp only [lb7, lb8, sb, wantV_undef, resVal, resVals, ARes.val, SX, Opd.ev, resVal, resVals, ARes.val, Bool.false_eq_true, Bool.not_false, Bool.not_true, List.getD_cons_succ, List.getD_cons_zero, List.map_cons, List.map_nil, Nat.add_zero, Nat.zero_add, Option.map_none, Option.map_some, Option.some.injEq, and_true, decide_false, decide_true, true_and, reduceCtorEq, Nat.reduceEqDiff, ↓reduceIte, Int.reduceEq, Int.reduceLT, Int.reduceLE, Nat.reduceAdd]
end Go.Proofs.YtcfjjeipdacbcaaDoor.AM.EvN
