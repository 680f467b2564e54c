/-
  The law ScriptAhead, walked.
-/
import Derived.Test.YtdkpmlhbofgfdaaDoorScriptKnown0
set_option linter.unusedVariables false
set_option linter.unusedSimpArgs false
namespace Go.Proofs.YtdkpmlhbofgfdaaDoor.AM
open Go
theorem seq3n (l : List AV) (h : cellsEq [1, 1, 1] l l = some true) (hl : l.length = 3) : seqV [1, 1, 1] true (.agg l) (.agg l) = some (.bool false) := by
  simp only [seqV, ROp.run, Opd.ev, hl, List.length_cons, List.length_nil, and_self, if_true, h]; rfl
theorem cl_eq {l k : Nat} {s : List UInt8} {r : List AV} (h : r ∈ clL l k s) : cellsEq [1, 1, 1] r r = some true := by
  obtain ⟨i, _, rfl⟩ := List.mem_map.1 h
  simp [clP, cellsEq]
theorem seq9n (a : ActP) : seqV [1, 1, 1, 1, 1, 1, 1, 1, 2] true (.agg a.cs) (.agg a.cs) = some (.bool false) := seq9 a.cs (cells9 a) rfl true
theorem Hp.appendB {base : Nat} {H : AHeap} {l : List Cel} {b n : Nat} {s u : List UInt8} {w : AV} (h : Hp base H (⟨b, 1, ofBytes s⟩ :: l)) (hn : s.length = n) (hw : BysA H w u) (hl : n + u.length ≤ 100000) :
    ∃ H' b', appendE H 1 1 (.slc b 0 n n) w = some (.slc b' 0 (n + u.length) (n + u.length), H') ∧ Hp base H' (⟨b', 1, ofBytes (s ++ u)⟩ :: l) ∧ Keep base H H' := by
  have hsrc := hw.src
  by_cases h0 : u.length = 0
  · have : u = [] := List.eq_nil_of_length_eq_zero h0
    subst this
    refine ⟨H, b, ?_, by simpa using h, Keep.refl _ _⟩
    have ho : (ofBytes ([] : List UInt8)).all AV.one = true := rfl
    simp only [appendE, EOp.run, Opd.ev, hsrc, appendA, List.length_nil, Nat.add_zero]
    rw [if_neg (by simp [ofBytes]), if_pos (Nat.le_refl _)]
    rfl
  · obtain ⟨H', s1, g1, k1⟩ := Hp.appendK (o := 0) (pre := []) (xs := ofBytes s) (n := n) (m := u.length) (bytes := 1) (by simpa using h) rfl (by simp [ofBytes, hn]) (by omega) hsrc (by omega) (ones_bytes u) (by omega) (by omega)
    exact ⟨H', H.next, s1, by simpa [ofBytes] using g1, k1⟩
section
variable {Q : Prog} (sq : ScQ Q) {H : AHeap}
include sq
set_option maxHeartbeats 16000000 in
theorem law4 (q4 : Q.fns 4 = some A4) (yes : Q.orc 6 [] = some (.bool true)) {v w : AV} {s u : List UInt8} (hv : BysA H v s) (hw : BysA H w u) (hf : Fr H) (h0 : 0 < H.next) (ht : hasTabs H Q.tabs = true) : FnTo Q 4 [v, w] H (fun r _ => r = .bool true) := by
  refine fn_wp (sq.ho 4 rfl _) q4 (by simp [A4]) ?_
  have lv := hv.len H
  have lw := hw.len H
  simp only [A4, SX, reduceCtorEq, Nat.reduceEqDiff, ↓reduceIte, Int.reduceEq, Int.reduceLT, Int.reduceLE, Nat.reduceAdd]
  refine fn_orc yes ht ?_
  by_cases c1 : (s.length : Int) < 40
  · simp only [A4_rest, lv, lw, c1, wantV_undef, SX, reduceCtorEq, Nat.reduceEqDiff, ↓reduceIte, Int.reduceEq, Int.reduceLT, Int.reduceLE, Nat.reduceAdd]
  by_cases c2 : (3000 : Int) < (s.length : Int)
  · simp only [A4_rest, lv, lw, c1, c2, wantV_undef, SX, reduceCtorEq, Nat.reduceEqDiff, ↓reduceIte, Int.reduceEq, Int.reduceLT, Int.reduceLE, Nat.reduceAdd]
  by_cases c3 : (300 : Int) < (u.length : Int)
  · simp only [A4_rest, lv, lw, c1, c2, c3, SX, reduceCtorEq, Nat.reduceEqDiff, ↓reduceIte, Int.reduceEq, Int.reduceLT, Int.reduceLE, Nat.reduceAdd]
  have hne := cfg_rest s (by omega)
  have hc := cfg_app s u hne
  simp only [A4_rest, lv, lw, c1, c2, c3, SX, reduceCtorEq, Nat.reduceEqDiff, ↓reduceIte, Int.reduceEq, Int.reduceLT, Int.reduceLE, Nat.reduceAdd]
  refine (read_spec sq hv (by omega) hf h0 ht).mono ?_
  rintro _ H1 ⟨tv, cv, sv, av, rfl, tab, cl, sk, ac, gr1⟩
  have hn1 := gr1.next
  have ht1 := gr1.tabs hf ht
  obtain ⟨H2, s2, g2, k2⟩ := (Hp.nil H1 gr1.fr).make [.nils, .nils, .nils, .int .i64 0, .nils] 5
  have on1 : ([tv, cv, sv, .int .i64 ((cfgP s).back : Int), av] : List AV).all AV.one = true := by simp only [List.all_cons, tab.one, cl.one, sk.one, ac.one, List.all_nil]; rfl
  obtain ⟨H3, s3, g3, k3, n3⟩ := g2.storeN (n := 5) (new := [tv, cv, sv, .int .i64 ((cfgP s).back : Int), av]) rfl rfl on1
  obtain ⟨H4, s4, g4, k4⟩ := g3.make (ofBytes []) 1
  have gr14 := g4.gr ((k2.trans k3).trans k4)
  have hv4 := (hv.grow hf gr1).grow gr1.fr gr14
  have hw4 := (hw.grow hf gr1).grow gr1.fr gr14
  obtain ⟨H5, b5, s5, g5, k5⟩ := g4.appendB (s := []) (n := 0) rfl hv4 (by omega)
  rw [List.nil_append] at g5
  rw [Nat.zero_add] at s5
  have gr15 := g5.gr (((k2.trans k3).trans k4).trans k5)
  have hw5 := (hw.grow hf gr1).grow gr1.fr gr15
  obtain ⟨H6, b6, s6, g6, k6⟩ := g5.appendB (n := s.length) rfl hw5 (by omega)
  have k16 := (((k2.trans k3).trans k4).trans k5).trans k6
  have gr16 := g6.gr k16
  have ht6 := gr16.tabs gr1.fr ht1
  have hn6 := gr16.next
  have e0 : ofBytes [] = ([] : List AV) := rfl
  rw [e0] at s4
  simp only [run_allocL, val_ptr, s2, wp_store, s3, run_bslice0, s4, val_slc, wp_append, s5, s6, SX, reduceCtorEq, Nat.reduceEqDiff, ↓reduceIte, Int.reduceEq, Int.reduceLT, Int.reduceLE, Nat.reduceAdd]
  have hb6 : BysA H6 (.slc b6 0 (s.length + u.length) (s.length + u.length)) (s ++ u) := by
    have := g6.bysA (s := s ++ u) (cap := s.length + u.length) (List.mem_cons_self ..) (by simp)
    rwa [List.length_append] at this
  refine (read_spec sq hb6 (by rw [List.length_append]; omega) g6.fr (by omega) ht6).mono ?_
  rintro _ H7 ⟨tv2, cv2, sv2, av2, rfl, tab2, cl2, sk2, ac2, gr7⟩
  rw [hc] at tab2 cl2 sk2 ⊢
  have g7 := g6.keep gr7.keep gr7.next gr7.fr
  obtain ⟨H8, s8, g8, k8⟩ := g7.make [.nils, .nils, .nils, .int .i64 0, .nils] 5
  obtain ⟨b2, hb2⟩ : ∃ b2, H7.next = b2 := ⟨_, rfl⟩
  have on2 : ([tv2, cv2, sv2, .int .i64 ((cfgP s).back : Int), av2] : List AV).all AV.one = true := by simp only [List.all_cons, tab2.one, cl2.one, sk2.one, ac2.one, List.all_nil]; rfl
  rw [hb2] at g8
  obtain ⟨H9, s9, g9, k9, n9⟩ := g8.storeN (n := 5) (new := [tv2, cv2, sv2, .int .i64 ((cfgP s).back : Int), av2]) rfl rfl on2
  have gr79 : Gr H7 H9 := by
    obtain ⟨Ha, sa, ga, ka⟩ := (Hp.nil H7 gr7.fr).make [.nils, .nils, .nils, .int .i64 0, .nils] 5
    rw [s8] at sa; subst sa
    obtain ⟨Hb, sb, gb, kb, _⟩ := ga.storeN (n := 5) (new := [tv2, cv2, sv2, .int .i64 ((cfgP s).back : Int), av2]) rfl rfl on2
    rw [hb2, s9] at sb
    obtain rfl : H9 = Hb := (Prod.mk.inj (Option.some.inj sb)).2
    exact gb.gr (ka.trans kb)
  have gr19 := (gr16.trans gr7).trans gr79
  have cl9 := cl.of (H' := H9) fun x _ hx => gr19.keep x hx
  have ac9 := ac.of (H' := H9) fun x _ hx => gr19.keep x hx
  have cl29 := cl2.of (H' := H9) fun x _ hx => gr79.keep x hx
  have ac29 := ac2.of (H' := H9) fun x _ hx => gr79.keep x hx
  have m1 : (⟨H1.next, 5, [tv, cv, sv, .int .i64 ((cfgP s).back : Int), av]⟩ : Cel) ∈ [(⟨b2, 5, [tv2, cv2, sv2, .int .i64 ((cfgP s).back : Int), av2]⟩ : Cel), ⟨b6, 1, ofBytes (s ++ u)⟩, ⟨H1.next, 5, [tv, cv, sv, .int .i64 ((cfgP s).back : Int), av]⟩] := by simp
  have x0 := g9.load m1 (o := 0) (v := tv) rfl
  have x1 := g9.load m1 (o := 1) (v := cv) rfl
  have x2 := g9.load m1 (o := 2) (v := sv) rfl
  have x3 := g9.load m1 (o := 3) (v := .int .i64 ((cfgP s).back : Int)) rfl
  have x4 := g9.load m1 (o := 4) (v := av) rfl
  have y0 := g9.load (List.mem_cons_self ..) (o := 0) (v := tv2) rfl
  have y1 := g9.load (List.mem_cons_self ..) (o := 1) (v := cv2) rfl
  have y2 := g9.load (List.mem_cons_self ..) (o := 2) (v := sv2) rfl
  have y3 := g9.load (List.mem_cons_self ..) (o := 3) (v := .int .i64 ((cfgP s).back : Int)) rfl
  have y4 := g9.load (List.mem_cons_self ..) (o := 4) (v := av2) rfl
  have tn : (⟨(cfgP s).r, (cfgP s).t, (cfgP s).cl, (cfgP s).sk, (cfgP s).back, (cfgP s).rest ++ u⟩ : CfgP).n = (cfgP s).n := rfl
  rw [tn] at tab2
  have hA : actsP (s ++ u) = actsL (cfgP s).n (cfgP s).cl.length 200 ((cfgP s).rest ++ u) := by unfold actsP; rw [hc]; rfl
  obtain ⟨al, ae⟩ := actsL_app (cfgP s).n (cfgP s).cl.length u 200 (cfgP s).rest
  rw [← hA] at al ae
  have al' : (actsP s).length ≤ (actsP (s ++ u)).length := al
  have ae' : ∀ i, i + 1 < (actsP s).length → (actsP (s ++ u))[i]? = (actsP s)[i]? := ae
  have t0 := tab.len H9
  have t1 := cl.len H9
  have t2 := sk.len H9
  have t4 := ac.len H9
  have r0 := tab2.len H9
  have r1 := cl2.len H9
  have r2 := sk2.len H9
  have r4 := ac2.len H9
  simp only at r1 r2
  rw [List.length_map] at t4 r4
  have d4 : ¬ (((actsP (s ++ u)).length : Int) < ((actsP s).length : Int)) := by omega
  have a200 : (actsP s).length ≤ 200 := by
    have : ∀ (n L C : Nat) (s : List UInt8), (actsL L C n s).length ≤ n := by
      intro n
      induction n with
      | zero => intro L C s; simp [actsL]
      | succ n ih =>
        intro L C s
        unfold actsL
        split
        · simp
        · have := ih L C (actP L C s).2
          simp only [List.length_cons]; omega
    exact this 200 _ _ _
  obtain ⟨_, _, _, cb4⟩ := cfg_b s
  simp only [run_allocL, val_ptr, s8, hb2, wp_store, s9, A4_cmp, x0, x1, x2, x3, x4, y0, y1, y2, y3, y4, t0, t1, t2, t4, r0, r1, r2, r4, d4, SX, reduceCtorEq, Nat.reduceEqDiff, ↓reduceIte, Int.reduceEq, Int.reduceLT, Int.reduceLE, Nat.reduceAdd]
  obtain ⟨I, hI⟩ : ∃ I : Nat → Env → AHeap → Prop, ∀ m e H', I m e H' ↔ (∃ i, m = (cfgP s).cl.length - i ∧ i ≤ (cfgP s).cl.length ∧ H' = H9 ∧ Env.get e 5 = .ptr H1.next 0 ∧ Env.get e 6 = .ptr b2 0 ∧ Env.get e 7 = .int .i64 (i : Int)) := ⟨_, fun _ _ _ => Iff.rfl⟩
  refine loop_by I (cfgP s).cl.length ?_ ?_
  · exact (hI _ _ _).2 ⟨0, rfl, by omega, rfl, (by first | (simp only [SG, reduceCtorEq, Nat.reduceEqDiff, ↓reduceIte] <;> rfl) | rfl), (by first | (simp only [SG, reduceCtorEq, Nat.reduceEqDiff, ↓reduceIte] <;> rfl) | rfl), (by first | (simp only [SG, reduceCtorEq, Nat.reduceEqDiff, ↓reduceIte] <;> rfl) | rfl)⟩
  · intro m' e H10 hinv
    obtain ⟨i, rfl, hi, rfl, e5, e6, e7⟩ := (hI _ _ _).1 hinv
    by_cases d : (i : Int) < ((cfgP s).cl.length : Int)
    · obtain ⟨r, hr⟩ : ∃ r, (cfgP s).cl[i]? = some r := ⟨_, List.getElem?_eq_getElem (by omega)⟩
      have hrm := List.mem_of_getElem? hr
      obtain ⟨bc, ci, cld, _⟩ := cl9.at hr .i64
      obtain ⟨bd, di, dld, _⟩ := cl29.at hr .i64
      have hr3 : r.length = 3 := cl9.1 r hrm
      have sq3 := seq3n r (cl_eq (l := (cfgP s).n) (k := 1 + hd s.tail.tail % 4) (s := s.tail.tail.tail) hrm) hr3
      have w1 : IntKind.wrap .i64 ((i : Int) + 1) = ((i + 1 : Nat) : Int) := wrapNat (n := i + 1) (by omega)
      simp only [A4_l1, e5, e6, e7, x1, t1, d, y1, ci, cld, di, dld, run_seq, sq3, w1, SX, reduceCtorEq, Nat.reduceEqDiff, ↓reduceIte, Int.reduceEq, Int.reduceLT, Int.reduceLE, Nat.reduceAdd]
      exact ⟨(cfgP s).cl.length - (i + 1), by omega, (hI _ _ _).2 ⟨i + 1, rfl, by omega, rfl, (by simp only [SG, reduceCtorEq, Nat.reduceEqDiff, ↓reduceIte, e5] <;> rfl), (by simp only [SG, reduceCtorEq, Nat.reduceEqDiff, ↓reduceIte, e6] <;> rfl), (by first | (simp only [SG, reduceCtorEq, Nat.reduceEqDiff, ↓reduceIte] <;> rfl) | rfl)⟩⟩
    · simp only [A4_l1, A4_r2, e5, e6, e7, x1, t1, d, SX, reduceCtorEq, Nat.reduceEqDiff, ↓reduceIte, Int.reduceEq, Int.reduceLT, Int.reduceLE, Nat.reduceAdd]
      obtain ⟨J, hJ⟩ : ∃ J : Nat → Env → AHeap → Prop, ∀ m e H', J m e H' ↔ (∃ i, m = (actsP s).length - i ∧ i ≤ (actsP s).length ∧ H' = H10 ∧ Env.get e 5 = .ptr H1.next 0 ∧ Env.get e 6 = .ptr b2 0 ∧ Env.get e 8 = .int .i64 (i : Int)) := ⟨_, fun _ _ _ => Iff.rfl⟩
      refine loop_by J (actsP s).length ?_ ?_
      · exact (hJ _ _ _).2 ⟨0, rfl, by omega, rfl, (by simp only [SG, reduceCtorEq, Nat.reduceEqDiff, ↓reduceIte, e5] <;> rfl), (by simp only [SG, reduceCtorEq, Nat.reduceEqDiff, ↓reduceIte, e6] <;> rfl), (by first | (simp only [SG, reduceCtorEq, Nat.reduceEqDiff, ↓reduceIte] <;> rfl) | rfl)⟩
      · intro m'' e' H11 hinv'
        obtain ⟨j, rfl, hj, rfl, f5, f6, f8⟩ := (hJ _ _ _).1 hinv'
        have w1 : IntKind.wrap .i64 ((j : Int) + 1) = ((j + 1 : Nat) : Int) := wrapNat (n := j + 1) (by omega)
        by_cases dj : ((j + 1 : Nat) : Int) < ((actsP s).length : Int)
        · obtain ⟨a, ha⟩ : ∃ a, (actsP s)[j]? = some a := ⟨_, List.getElem?_eq_getElem (by omega)⟩
          have ha2 : (actsP (s ++ u))[j]? = some a := by rw [ae' j (by omega)]; exact ha
          have h1 : ((actsP s).map ActP.cs)[j]? = some a.cs := by rw [List.getElem?_map, ha]; rfl
          have h2 : ((actsP (s ++ u)).map ActP.cs)[j]? = some a.cs := by rw [List.getElem?_map, ha2]; rfl
          obtain ⟨bc, ci, cld, _⟩ := ac9.at h1 .i64
          obtain ⟨bd, di, dld, _⟩ := ac29.at h2 .i64
          have sq9 := seq9n a
          simp only [f5, f6, f8, w1, x4, t4, dj, y4, ci, cld, di, dld, run_seq, sq9, SX, reduceCtorEq, Nat.reduceEqDiff, ↓reduceIte, Int.reduceEq, Int.reduceLT, Int.reduceLE, Nat.reduceAdd]
          exact ⟨(actsP s).length - (j + 1), by omega, (hJ _ _ _).2 ⟨j + 1, rfl, by omega, rfl, (by simp only [SG, reduceCtorEq, Nat.reduceEqDiff, ↓reduceIte, f5] <;> rfl), (by simp only [SG, reduceCtorEq, Nat.reduceEqDiff, ↓reduceIte, f6] <;> rfl), (by first | (simp only [SG, reduceCtorEq, Nat.reduceEqDiff, ↓reduceIte] <;> rfl) | rfl)⟩⟩
        · simp only [f5, f6, f8, w1, x4, t4, dj, SX, reduceCtorEq, Nat.reduceEqDiff, ↓reduceIte, Int.reduceEq, Int.reduceLT, Int.reduceLE, Nat.reduceAdd]
end
end Go.Proofs.YtdkpmlhbofgfdaaDoor.AM
