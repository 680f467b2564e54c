/-
  The law ScriptReads, walked: the program's script and the document's are alike.
-/
import Derived.Test.YtdkpmlhbofgfdaaGreatDoorSdE
set_option linter.unusedVariables false
set_option linter.unusedSimpArgs false
namespace Go.Proofs.YtdkpmlhbofgfdaaGreatDoor.AM
open Go
theorem TabO.at {lo hi r n : Nat} {H : AHeap} {v : AV} (h : TabO lo hi H v r n) {a : Nat} (ha : a < n) : ∃ p ba, idxSV 1 v (.int .i64 (a : Int)) = some p ∧ loadV H none p = some (.slc ba 0 n n) ∧ ∀ j, j < n → loadV H none (.ptr ba j) = some (.bool (tabB r a j)) := by
  obtain ⟨b, es, ty, tv, rfl, h2, h3, h4, h5, h6⟩ := h
  obtain ⟨ba, es', ty', q1, q2, q3, q4⟩ := h6 a ha
  have hrow : H.row b = some ⟨tv, es, false, true, ty⟩ := by simp only [AHeap.row, h4, if_true]
  have hrow2 : H.row ba = some ⟨tabR r n a, es', false, true, ty'⟩ := by simp only [AHeap.row, q4, if_true]
  refine ⟨.ptr b (a * 1), ba, idxSV_k ha, ?_, fun j hj => ?_⟩
  · simp only [loadV, ROp.run, Opd.ev, hrow, Nat.mul_one]; rw [q1]
  · simp only [loadV, ROp.run, Opd.ev, hrow2]; simp [tabR, hj]
theorem seq3n' (l : List AV) (h : cellsEq [1, 1, 1] l l = some true) (hl : l.length = 3) : seqV [1, 1, 1] true (.agg l) (.agg l) = some (.bool false) := by
  simp only [seqV, ROp.run, Opd.ev, hl, List.length_cons, List.length_nil, and_self, if_true, h]; rfl
theorem seq2n (l : List AV) (h : cellsEq [1, 1] l l = some true) (hl : l.length = 2) : seqV [1, 1] true (.agg l) (.agg l) = some (.bool false) := by
  simp only [seqV, ROp.run, Opd.ev, hl, List.length_cons, List.length_nil, and_self, if_true, h]; rfl
theorem cl_eq' {l k : Nat} {s : List UInt8} {r : List AV} (h : r ∈ clL l k s) : cellsEq [1, 1, 1] r r = some true := by
  obtain ⟨i, _, rfl⟩ := List.mem_map.1 h
  simp [clP, cellsEq]
theorem sk_eq {l k : Nat} {s : List UInt8} {r : List AV} (h : r ∈ skL l k s) : cellsEq [1, 1] r r = some true := by
  obtain ⟨i, _, rfl⟩ := List.mem_map.1 h
  simp [skP, cellsEq]
theorem cells9' (a : ActP) : cellsEq [1, 1, 1, 1, 1, 1, 1, 1, 2] a.cs a.cs = some true := by
  simp [ActP.cs, cellsEq]
theorem seq9n' (a : ActP) : seqV [1, 1, 1, 1, 1, 1, 1, 1, 2] true (.agg a.cs) (.agg a.cs) = some (.bool false) := by
  have hl : a.cs.length = 9 := rfl
  simp only [seqV, ROp.run, Opd.ev, hl, List.length_cons, List.length_nil, and_self, if_true, cells9' a]; rfl
theorem beq_self' (b : Bool) : beqV true (.bool b) (.bool b) = some (.bool false) := by cases b <;> rfl
theorem acts200 (s : List UInt8) : (actsP s).length ≤ 200 := by
  have : ∀ (n L C : Nat) (s : List UInt8), (actsL L C n s).length ≤ n := by
    intro n
    induction n with
    | zero => intro L C s; simp [actsL]
    | succ n ih =>
      intro L C s
      unfold actsL
      split
      · simp
      · have := ih L C (actP L C s).2
        simp only [List.length_cons]; omega
  exact this 200 _ _ _
section
variable {Q : Prog} (dq : SdQ Q) {H : AHeap}
include dq
set_option maxHeartbeats 16000000 in
theorem same2_spec {s : List UInt8} {tv cv sv av tv2 cv2 sv2 av2 wv2 : AV} {lo lo2 : Nat} (hf : Fr H)
    (t1 : TabO lo H.next H tv (cfgP s).r (cfgP s).n) (c1 : RowsO 3 lo H.next H cv (cfgP s).cl) (s1 : RowsO 2 lo H.next H sv (cfgP s).sk) (a1 : RowsO 9 lo H.next H av ((actsP s).map ActP.cs))
    (t2 : TabO lo2 H.next H tv2 (cfgP s).r (cfgP s).n) (c2 : RowsO 3 lo2 H.next H cv2 (cfgP s).cl) (s2 : RowsO 2 lo2 H.next H sv2 (cfgP s).sk) (a2 : RowsO 9 lo2 H.next H av2 ((actsP s).map ActP.cs)) (w2 : wv2.one = true) (h200 : (actsP s).length ≤ 200) :
    FnTo Q 5 [.agg [tv, cv, sv, .int .i64 ((cfgP s).back : Int), av], .agg [tv2, cv2, sv2, .int .i64 ((cfgP s).back : Int), av2, wv2]] H (fun r _ => r = .bool true) := by
  refine fn_wp (dq.sq.ho 5 rfl _) dq.d5 (by simp [A5]) ?_
  obtain ⟨_, n12, _, c4⟩ := cfg_b s
  have on1 : ([tv, cv, sv, .int .i64 ((cfgP s).back : Int), av] : List AV).all AV.one = true := by simp only [List.all_cons, t1.one, c1.one, s1.one, a1.one, List.all_nil]; rfl
  have on2 : ([tv2, cv2, sv2, .int .i64 ((cfgP s).back : Int), av2, wv2] : List AV).all AV.one = true := by simp only [List.all_cons, t2.one, c2.one, s2.one, a2.one, w2, List.all_nil]; rfl
  have on3 : ([tv, cv, sv, .int .i64 ((cfgP s).back : Int)] : List AV).all AV.one = true := by simp only [List.all_cons, t1.one, c1.one, s1.one, List.all_nil]; rfl
  obtain ⟨H1, x1, g1, k1⟩ := (Hp.nil H hf).make [tv, cv, sv, .int .i64 ((cfgP s).back : Int), av] 5
  obtain ⟨H2, x2, g2, k2⟩ := g1.make [tv2, cv2, sv2, .int .i64 ((cfgP s).back : Int), av2, wv2] 6
  obtain ⟨b3, hb3⟩ : ∃ b3, H1.next = b3 := ⟨_, rfl⟩
  rw [hb3] at g2
  have m2 : (⟨H.next, 5, [tv, cv, sv, .int .i64 ((cfgP s).back : Int), av]⟩ : Cel) ∈ [(⟨b3, 6, [tv2, cv2, sv2, .int .i64 ((cfgP s).back : Int), av2, wv2]⟩ : Cel), ⟨H.next, 5, [tv, cv, sv, .int .i64 ((cfgP s).back : Int), av]⟩] := by simp
  have l4 := g2.loadO (b := H.next) (k := 5) (o := 0) (n := 4) (a := []) (x := [tv, cv, sv, .int .i64 ((cfgP s).back : Int)]) (c := [av]) m2 rfl rfl
  obtain ⟨H3, x3, g3, k3⟩ := g2.make [.nils, .nils, .nils, .int .i64 0] 4
  obtain ⟨b5, hb5⟩ : ∃ b5, H2.next = b5 := ⟨_, rfl⟩
  rw [hb5] at g3
  obtain ⟨H4, x4, g4, k4, n4⟩ := g3.storeN (n := 4) (new := [tv, cv, sv, .int .i64 ((cfgP s).back : Int)]) rfl rfl on3
  have gr := g4.gr (((k1.trans k2).trans k3).trans k4)
  have T1 := t1.of (H' := H4) fun x _ hx => gr.keep x hx
  have C1 := c1.of (H' := H4) fun x _ hx => gr.keep x hx
  have S1 := s1.of (H' := H4) fun x _ hx => gr.keep x hx
  have A1 := a1.of (H' := H4) fun x _ hx => gr.keep x hx
  have T2 := t2.of (H' := H4) fun x _ hx => gr.keep x hx
  have C2 := c2.of (H' := H4) fun x _ hx => gr.keep x hx
  have S2 := s2.of (H' := H4) fun x _ hx => gr.keep x hx
  have A2 := a2.of (H' := H4) fun x _ hx => gr.keep x hx
  have mA : (⟨H.next, 5, [tv, cv, sv, .int .i64 ((cfgP s).back : Int), av]⟩ : Cel) ∈ [(⟨b5, 4, [tv, cv, sv, .int .i64 ((cfgP s).back : Int)]⟩ : Cel), ⟨b3, 6, [tv2, cv2, sv2, .int .i64 ((cfgP s).back : Int), av2, wv2]⟩, ⟨H.next, 5, [tv, cv, sv, .int .i64 ((cfgP s).back : Int), av]⟩] := by simp
  have mB : (⟨b3, 6, [tv2, cv2, sv2, .int .i64 ((cfgP s).back : Int), av2, wv2]⟩ : Cel) ∈ [(⟨b5, 4, [tv, cv, sv, .int .i64 ((cfgP s).back : Int)]⟩ : Cel), ⟨b3, 6, [tv2, cv2, sv2, .int .i64 ((cfgP s).back : Int), av2, wv2]⟩, ⟨H.next, 5, [tv, cv, sv, .int .i64 ((cfgP s).back : Int), av]⟩] := by simp
  have p0 := g4.load (List.mem_cons_self ..) (o := 0) (v := tv) rfl
  have p1 := g4.load (List.mem_cons_self ..) (o := 1) (v := cv) rfl
  have p2 := g4.load (List.mem_cons_self ..) (o := 2) (v := sv) rfl
  have p3 := g4.load (List.mem_cons_self ..) (o := 3) (v := .int .i64 ((cfgP s).back : Int)) rfl
  have p4 := g4.load mA (o := 4) (v := av) rfl
  have q0 := g4.load mB (o := 0) (v := tv2) rfl
  have q1 := g4.load mB (o := 1) (v := cv2) rfl
  have q2 := g4.load mB (o := 2) (v := sv2) rfl
  have q3 := g4.load mB (o := 3) (v := .int .i64 ((cfgP s).back : Int)) rfl
  have q4 := g4.load mB (o := 4) (v := av2) rfl
  have u0 := T1.len H4
  have u1 := C1.len H4
  have u2 := S1.len H4
  have u4 := A1.len H4
  have v0 := T2.len H4
  have v1 := C2.len H4
  have v2 := S2.len H4
  have v4 := A2.len H4
  have bx1 := boxV_agg on1
  have bx2 := boxV_agg on2
  have lskl : (cfgP s).sk.length ≤ 2 := by
    simp only [cfgP, skL_len]
    have := Nat.mod_lt (hd (s.tail.tail.tail.drop (3 * (1 + hd s.tail.tail % 4)))) (show 0 < 3 by omega)
    omega
  obtain ⟨n, hn⟩ : ∃ n, (cfgP s).n = n := ⟨_, rfl⟩
  rw [hn] at u0 v0 T1 T2 n12
  rw [List.length_map] at u4 v4
  simp only [A5, run_box, bx1, bx2, val_ptr, x1, hb3, x2, l4, run_allocL, x3, hb5, wp_store, x4, p0, p1, p2, p3, p4, q0, q1, q2, q3, q4, u0, u1, u2, u4, v0, v1, v2, v4, SX, reduceCtorEq, Nat.reduceEqDiff, ↓reduceIte, Int.reduceEq, Int.reduceLT, Int.reduceLE, Nat.reduceAdd]
  obtain ⟨I, hI⟩ : ∃ I : Nat → Env → AHeap → Prop, ∀ m e H', I m e H' ↔ (∃ i, m = n - i ∧ i ≤ n ∧ H' = H4 ∧ Env.get e 2 = .ptr H.next 0 ∧ Env.get e 3 = .ptr b3 0 ∧ Env.get e 5 = .ptr b5 0 ∧ Env.get e 6 = .int .i64 (i : Int)) := ⟨_, fun _ _ _ => Iff.rfl⟩
  refine loop_by I n ?_ ?_
  · exact (hI _ _ _).2 ⟨0, rfl, by omega, rfl, (by first | (simp only [SG, reduceCtorEq, Nat.reduceEqDiff, ↓reduceIte] <;> rfl) | rfl), (by first | (simp only [SG, reduceCtorEq, Nat.reduceEqDiff, ↓reduceIte] <;> rfl) | rfl), (by first | (simp only [SG, reduceCtorEq, Nat.reduceEqDiff, ↓reduceIte] <;> rfl) | rfl), (by first | (simp only [SG, reduceCtorEq, Nat.reduceEqDiff, ↓reduceIte] <;> rfl) | rfl)⟩
  intro m' e H5 hinv
  obtain ⟨i, rfl, hi, rfl, e2, e3, e5, e6⟩ := (hI _ _ _).1 hinv
  by_cases d : (i : Int) < (n : Int)
  · obtain ⟨pp, ba, i1, i2, i3⟩ := T1.at (a := i) (by omega)
    obtain ⟨pq, bb, j1, j2, j3⟩ := T2.at (a := i) (by omega)
    have w1 : IntKind.wrap .i64 ((i : Int) + 1) = ((i + 1 : Nat) : Int) := wrapNat (n := i + 1) (by omega)
    have lb1 : lngV H5 1 (.slc ba 0 n n) = some (.int .i64 (n : Int)) := rfl
    have lb2 : lngV H5 1 (.slc bb 0 n n) = some (.int .i64 (n : Int)) := rfl
    simp only [A5_l1, e2, e3, e5, e6, p0, u0, d, i1, i2, q0, j1, j2, lb1, lb2, SX, reduceCtorEq, Nat.reduceEqDiff, ↓reduceIte, Int.reduceEq, Int.reduceLT, Int.reduceLE, Nat.reduceAdd]
    obtain ⟨J, hJ⟩ : ∃ J : Nat → Env → AHeap → Prop, ∀ m e H', J m e H' ↔ (∃ j, m = n - j ∧ j ≤ n ∧ H' = H5 ∧ Env.get e 2 = .ptr H.next 0 ∧ Env.get e 3 = .ptr b3 0 ∧ Env.get e 5 = .ptr b5 0 ∧ Env.get e 6 = .int .i64 (i : Int) ∧ Env.get e 7 = .int .i64 (j : Int)) := ⟨_, fun _ _ _ => Iff.rfl⟩
    refine loop_by J n ?_ ?_
    · exact (hJ _ _ _).2 ⟨0, rfl, by omega, rfl, (by simp only [SG, reduceCtorEq, Nat.reduceEqDiff, ↓reduceIte, e2] <;> rfl), (by simp only [SG, reduceCtorEq, Nat.reduceEqDiff, ↓reduceIte, e3] <;> rfl), (by simp only [SG, reduceCtorEq, Nat.reduceEqDiff, ↓reduceIte, e5] <;> rfl), (by simp only [SG, reduceCtorEq, Nat.reduceEqDiff, ↓reduceIte, e6] <;> rfl), (by first | (simp only [SG, reduceCtorEq, Nat.reduceEqDiff, ↓reduceIte] <;> rfl) | rfl)⟩
    intro m'' e' H6 hinv'
    obtain ⟨j, rfl, hj, rfl, f2, f3, f5, f6, f7⟩ := (hJ _ _ _).1 hinv'
    by_cases dj : (j : Int) < (n : Int)
    · have iy := idxSV_k (b := ba) (n := n) (cap := n) (k := 1) (kd := .i64) (i := j) (by omega)
      have jy := idxSV_k (b := bb) (n := n) (cap := n) (k := 1) (kd := .i64) (i := j) (by omega)
      rw [Nat.mul_one] at iy jy
      have ly := i3 j (by omega)
      have my := j3 j (by omega)
      have bs' := beq_self' (tabB (cfgP s).r i j)
      have w2 : IntKind.wrap .i64 ((j : Int) + 1) = ((j + 1 : Nat) : Int) := wrapNat (n := j + 1) (by omega)
      simp only [A5_l2, f2, f3, f5, f6, f7, p0, i1, i2, lb1, dj, q0, j1, j2, iy, jy, ly, my, run_beq, bs', w2, SX, reduceCtorEq, Nat.reduceEqDiff, ↓reduceIte, Int.reduceEq, Int.reduceLT, Int.reduceLE, Nat.reduceAdd]
      exact ⟨n - (j + 1), by omega, (hJ _ _ _).2 ⟨j + 1, rfl, by omega, rfl, (by simp only [SG, reduceCtorEq, Nat.reduceEqDiff, ↓reduceIte, f2] <;> rfl), (by simp only [SG, reduceCtorEq, Nat.reduceEqDiff, ↓reduceIte, f3] <;> rfl), (by simp only [SG, reduceCtorEq, Nat.reduceEqDiff, ↓reduceIte, f5] <;> rfl), (by simp only [SG, reduceCtorEq, Nat.reduceEqDiff, ↓reduceIte, f6] <;> rfl), (by first | (simp only [SG, reduceCtorEq, Nat.reduceEqDiff, ↓reduceIte] <;> rfl) | rfl)⟩⟩
    · simp only [A5_l2, f2, f3, f5, f6, f7, p0, i1, i2, lb1, dj, w1, SX, reduceCtorEq, Nat.reduceEqDiff, ↓reduceIte, Int.reduceEq, Int.reduceLT, Int.reduceLE, Nat.reduceAdd]
      exact ⟨n - (i + 1), by omega, (hI _ _ _).2 ⟨i + 1, rfl, by omega, rfl, (by simp only [SG, reduceCtorEq, Nat.reduceEqDiff, ↓reduceIte, f2] <;> rfl), (by simp only [SG, reduceCtorEq, Nat.reduceEqDiff, ↓reduceIte, f3] <;> rfl), (by simp only [SG, reduceCtorEq, Nat.reduceEqDiff, ↓reduceIte, f5] <;> rfl), (by first | (simp only [SG, reduceCtorEq, Nat.reduceEqDiff, ↓reduceIte] <;> rfl) | rfl)⟩⟩
  simp only [A5_l1, A5_r2, e2, e3, e5, e6, p0, u0, d, SX, reduceCtorEq, Nat.reduceEqDiff, ↓reduceIte, Int.reduceEq, Int.reduceLT, Int.reduceLE, Nat.reduceAdd]
  obtain ⟨I2, hI2⟩ : ∃ I : Nat → Env → AHeap → Prop, ∀ m e H', I m e H' ↔ (∃ i, m = (cfgP s).cl.length - i ∧ i ≤ (cfgP s).cl.length ∧ H' = H5 ∧ Env.get e 2 = .ptr H.next 0 ∧ Env.get e 3 = .ptr b3 0 ∧ Env.get e 5 = .ptr b5 0 ∧ Env.get e 8 = .int .i64 (i : Int)) := ⟨_, fun _ _ _ => Iff.rfl⟩
  refine loop_by I2 (cfgP s).cl.length ?_ ?_
  · exact (hI2 _ _ _).2 ⟨0, rfl, by omega, rfl, (by simp only [SG, reduceCtorEq, Nat.reduceEqDiff, ↓reduceIte, e2] <;> rfl), (by simp only [SG, reduceCtorEq, Nat.reduceEqDiff, ↓reduceIte, e3] <;> rfl), (by simp only [SG, reduceCtorEq, Nat.reduceEqDiff, ↓reduceIte, e5] <;> rfl), (by first | (simp only [SG, reduceCtorEq, Nat.reduceEqDiff, ↓reduceIte] <;> rfl) | rfl)⟩
  intro m2' y H6 hinv2
  obtain ⟨i2, rfl, hi2, rfl, y2, y3, y5, y8⟩ := (hI2 _ _ _).1 hinv2
  by_cases d2 : (i2 : Int) < ((cfgP s).cl.length : Int)
  · obtain ⟨r, hr⟩ : ∃ r, (cfgP s).cl[i2]? = some r := ⟨_, List.getElem?_eq_getElem (by omega)⟩
    have hrm := List.mem_of_getElem? hr
    obtain ⟨bc, ci, cld, _⟩ := C1.at hr .i64
    obtain ⟨bd, di, dld, _⟩ := C2.at hr .i64
    have sq3 := seq3n' r (cl_eq' (l := (cfgP s).n) (k := 1 + hd s.tail.tail % 4) (s := s.tail.tail.tail) hrm) (C1.1 r hrm)
    have w1 : IntKind.wrap .i64 ((i2 : Int) + 1) = ((i2 + 1 : Nat) : Int) := wrapNat (n := i2 + 1) (by omega)
    simp only [A5_l3, y2, y3, y5, y8, p1, u1, d2, q1, ci, cld, di, dld, run_seq, sq3, w1, SX, reduceCtorEq, Nat.reduceEqDiff, ↓reduceIte, Int.reduceEq, Int.reduceLT, Int.reduceLE, Nat.reduceAdd]
    exact ⟨(cfgP s).cl.length - (i2 + 1), by omega, (hI2 _ _ _).2 ⟨i2 + 1, rfl, by omega, rfl, (by simp only [SG, reduceCtorEq, Nat.reduceEqDiff, ↓reduceIte, y2] <;> rfl), (by simp only [SG, reduceCtorEq, Nat.reduceEqDiff, ↓reduceIte, y3] <;> rfl), (by simp only [SG, reduceCtorEq, Nat.reduceEqDiff, ↓reduceIte, y5] <;> rfl), (by first | (simp only [SG, reduceCtorEq, Nat.reduceEqDiff, ↓reduceIte] <;> rfl) | rfl)⟩⟩
  simp only [A5_l3, A5_r3, y2, y3, y5, y8, p1, u1, d2, SX, reduceCtorEq, Nat.reduceEqDiff, ↓reduceIte, Int.reduceEq, Int.reduceLT, Int.reduceLE, Nat.reduceAdd]
  obtain ⟨I3, hI3⟩ : ∃ I : Nat → Env → AHeap → Prop, ∀ m e H', I m e H' ↔ (∃ i, m = (cfgP s).sk.length - i ∧ i ≤ (cfgP s).sk.length ∧ H' = H6 ∧ Env.get e 2 = .ptr H.next 0 ∧ Env.get e 3 = .ptr b3 0 ∧ Env.get e 5 = .ptr b5 0 ∧ Env.get e 9 = .int .i64 (i : Int)) := ⟨_, fun _ _ _ => Iff.rfl⟩
  refine loop_by I3 (cfgP s).sk.length ?_ ?_
  · exact (hI3 _ _ _).2 ⟨0, rfl, by omega, rfl, (by simp only [SG, reduceCtorEq, Nat.reduceEqDiff, ↓reduceIte, y2] <;> rfl), (by simp only [SG, reduceCtorEq, Nat.reduceEqDiff, ↓reduceIte, y3] <;> rfl), (by simp only [SG, reduceCtorEq, Nat.reduceEqDiff, ↓reduceIte, y5] <;> rfl), (by first | (simp only [SG, reduceCtorEq, Nat.reduceEqDiff, ↓reduceIte] <;> rfl) | rfl)⟩
  intro m3' z H7 hinv3
  obtain ⟨i3, rfl, hi3, rfl, z2, z3, z5, z9⟩ := (hI3 _ _ _).1 hinv3
  by_cases d3 : (i3 : Int) < ((cfgP s).sk.length : Int)
  · obtain ⟨r, hr⟩ : ∃ r, (cfgP s).sk[i3]? = some r := ⟨_, List.getElem?_eq_getElem (by omega)⟩
    have hrm := List.mem_of_getElem? hr
    obtain ⟨bc, ci, cld, _⟩ := S1.at hr .i64
    obtain ⟨bd, di, dld, _⟩ := S2.at hr .i64
    have sq2 := seq2n r (sk_eq (l := (cfgP s).n) (k := hd (s.tail.tail.tail.drop (3 * (1 + hd s.tail.tail % 4))) % 3) (s := (s.tail.tail.tail.drop (3 * (1 + hd s.tail.tail % 4))).tail) hrm) (S1.1 r hrm)
    have w1 : IntKind.wrap .i64 ((i3 : Int) + 1) = ((i3 + 1 : Nat) : Int) := wrapNat (n := i3 + 1) (by omega)
    simp only [A5_l4, z2, z3, z5, z9, p2, u2, d3, q2, ci, cld, di, dld, run_seq, sq2, w1, SX, reduceCtorEq, Nat.reduceEqDiff, ↓reduceIte, Int.reduceEq, Int.reduceLT, Int.reduceLE, Nat.reduceAdd]
    exact ⟨(cfgP s).sk.length - (i3 + 1), by omega, (hI3 _ _ _).2 ⟨i3 + 1, rfl, by omega, rfl, (by simp only [SG, reduceCtorEq, Nat.reduceEqDiff, ↓reduceIte, z2] <;> rfl), (by simp only [SG, reduceCtorEq, Nat.reduceEqDiff, ↓reduceIte, z3] <;> rfl), (by simp only [SG, reduceCtorEq, Nat.reduceEqDiff, ↓reduceIte, z5] <;> rfl), (by first | (simp only [SG, reduceCtorEq, Nat.reduceEqDiff, ↓reduceIte] <;> rfl) | rfl)⟩⟩
  simp only [A5_l4, A5_r4, z2, z3, z5, z9, p2, u2, d3, SX, reduceCtorEq, Nat.reduceEqDiff, ↓reduceIte, Int.reduceEq, Int.reduceLT, Int.reduceLE, Nat.reduceAdd]
  obtain ⟨I4, hI4⟩ : ∃ I : Nat → Env → AHeap → Prop, ∀ m e H', I m e H' ↔ (∃ i, m = (actsP s).length - i ∧ i ≤ (actsP s).length ∧ H' = H7 ∧ Env.get e 2 = .ptr H.next 0 ∧ Env.get e 3 = .ptr b3 0 ∧ Env.get e 10 = .int .i64 (i : Int)) := ⟨_, fun _ _ _ => Iff.rfl⟩
  refine loop_by I4 (actsP s).length ?_ ?_
  · exact (hI4 _ _ _).2 ⟨0, rfl, by omega, rfl, (by simp only [SG, reduceCtorEq, Nat.reduceEqDiff, ↓reduceIte, z2] <;> rfl), (by simp only [SG, reduceCtorEq, Nat.reduceEqDiff, ↓reduceIte, z3] <;> rfl), (by first | (simp only [SG, reduceCtorEq, Nat.reduceEqDiff, ↓reduceIte] <;> rfl) | rfl)⟩
  intro m4' o H8 hinv4
  obtain ⟨i4, rfl, hi4, rfl, o2, o3, o10⟩ := (hI4 _ _ _).1 hinv4
  by_cases d4 : (i4 : Int) < ((actsP s).length : Int)
  · obtain ⟨a, ha⟩ : ∃ a, (actsP s)[i4]? = some a := ⟨_, List.getElem?_eq_getElem (by omega)⟩
    have h1 : ((actsP s).map ActP.cs)[i4]? = some a.cs := by rw [List.getElem?_map, ha]; rfl
    obtain ⟨bc, ci, cld, _⟩ := A1.at h1 .i64
    obtain ⟨bd, di, dld, _⟩ := A2.at h1 .i64
    have sq9 := seq9n' a
    have w1 : IntKind.wrap .i64 ((i4 : Int) + 1) = ((i4 + 1 : Nat) : Int) := wrapNat (n := i4 + 1) (by omega)
    simp only [A5_l5, o2, o3, o10, p4, u4, d4, q4, ci, cld, di, dld, run_seq, sq9, w1, SX, reduceCtorEq, Nat.reduceEqDiff, ↓reduceIte, Int.reduceEq, Int.reduceLT, Int.reduceLE, Nat.reduceAdd]
    exact ⟨(actsP s).length - (i4 + 1), by omega, (hI4 _ _ _).2 ⟨i4 + 1, rfl, by omega, rfl, (by simp only [SG, reduceCtorEq, Nat.reduceEqDiff, ↓reduceIte, o2] <;> rfl), (by simp only [SG, reduceCtorEq, Nat.reduceEqDiff, ↓reduceIte, o3] <;> rfl), (by first | (simp only [SG, reduceCtorEq, Nat.reduceEqDiff, ↓reduceIte] <;> rfl) | rfl)⟩⟩
  · simp only [A5_l5, A5_tl, o2, o3, o10, p4, u4, d4, SX, reduceCtorEq, Nat.reduceEqDiff, ↓reduceIte, Int.reduceEq, Int.reduceLT, Int.reduceLE, Nat.reduceAdd]
set_option maxHeartbeats 2000000 in
theorem lawR (q3 : Q.fns 3 = some A3) (yes : Q.orc 4 [] = some (.bool true)) {v : AV} {s : List UInt8} (hv : BysA H v s) (hf : Fr H) (h0 : 0 < H.next) (ht : hasTabs H Q.tabs = true) : FnTo Q 3 [v] H (fun r _ => r = .bool true) := by
  refine fn_wp (dq.sq.ho 3 rfl _) q3 (by simp [A3]) ?_
  have lv := hv.len H
  simp only [A3, SX, reduceCtorEq, Nat.reduceEqDiff, ↓reduceIte, Int.reduceEq, Int.reduceLT, Int.reduceLE, Nat.reduceAdd]
  refine fn_orc yes ht ?_
  by_cases c : (6000 : Int) < (s.length : Int)
  · simp only [lv, c, SX, reduceCtorEq, Nat.reduceEqDiff, ↓reduceIte, Int.reduceEq, Int.reduceLT, Int.reduceLE, Nat.reduceAdd]
  simp only [lv, c, SX, reduceCtorEq, Nat.reduceEqDiff, ↓reduceIte, Int.reduceEq, Int.reduceLT, Int.reduceLE, Nat.reduceAdd]
  refine (read_spec dq.sq hv (by omega) hf h0 ht).mono ?_
  rintro _ H1 ⟨tv, cv, sv, av, rfl, tab, cl, sk, ac, gr1⟩
  simp only [SX, reduceCtorEq, Nat.reduceEqDiff, ↓reduceIte, Int.reduceEq, Int.reduceLT, Int.reduceLE, Nat.reduceAdd]
  refine (dread_spec dq (hv.grow hf gr1) (by omega) gr1.fr).mono ?_
  rintro _ H2 ⟨tv2, cv2, sv2, av2, wv2, rfl, tab2, cl2, sk2, ac2, w2, gr2⟩
  have kk : ∀ x, H.next ≤ x → x < H1.next → H2.get x = H1.get x := fun x _ hx => gr2.keep x hx
  have hn := gr2.next
  simp only [SX, reduceCtorEq, Nat.reduceEqDiff, ↓reduceIte, Int.reduceEq, Int.reduceLT, Int.reduceLE, Nat.reduceAdd]
  refine (same2_spec dq gr2.fr ((tab.of kk).wide (Nat.le_refl _) hn) ((cl.of kk).wide (Nat.le_refl _) hn) ((sk.of kk).wide (Nat.le_refl _) hn) ((ac.of kk).wide (Nat.le_refl _) hn) tab2 cl2 sk2 ac2 w2 (acts200 s)).mono ?_
  rintro _ H3 rfl
  simp only [SX, reduceCtorEq, Nat.reduceEqDiff, ↓reduceIte, Int.reduceEq, Int.reduceLT, Int.reduceLE, Nat.reduceAdd]
end
end Go.Proofs.YtdkpmlhbofgfdaaGreatDoor.AM
