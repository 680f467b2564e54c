/-
  The document's script of bytes: walked.
-/
import Derived.Test.YtdkpmlhbofgfdaaGreatDoorSdD
set_option linter.unusedVariables false
set_option linter.unusedSimpArgs false
namespace Go.Proofs.YtdkpmlhbofgfdaaGreatDoor.AM
open Go
theorem perm3 (X Y R : List Cel) (c : Cel) : (Y ++ (c :: (X ++ R))).Perm (X ++ (c :: (Y ++ R))) :=
  List.perm_middle.trans ((List.Perm.cons c (List.perm_append_comm_assoc Y X R)).trans List.perm_middle.symm)
theorem GX.one {k : Nat} {v : AV} {cs : List AV} {n : Nat} {X : List Cel} (h : GX k v cs n X) : v.one = true := by
  obtain ⟨h0, ⟨h1, rfl, _⟩ | ⟨h1, b, rfl, _⟩⟩ := h <;> rfl
section
variable {Q : Prog} (dq : SdQ Q) {H : AHeap}
include dq
set_option maxHeartbeats 16000000 in
theorem dread_spec {v : AV} {bs : List UInt8} (h : BysA H v bs) (hs : bs.length ≤ 6000) (hf : Fr H) :
    FnTo Q 7 [v] H (fun r H' => ∃ tv cv sv av wv, r = .agg [tv, cv, sv, .int .i64 ((cfgP bs).back : Int), av, wv] ∧ TabO H.next H'.next H' tv (cfgP bs).r (cfgP bs).n ∧ RowsO 3 H.next H'.next H' cv (cfgP bs).cl ∧ RowsO 2 H.next H'.next H' sv (cfgP bs).sk ∧ RowsO 9 H.next H'.next H' av ((actsP bs).map ActP.cs) ∧ wv.one = true ∧ Gr H H') := by
  refine fn_wp (dq.sq.ho 7 rfl _) dq.d7 (by simp [A7]) ?_
  obtain ⟨H1, s1, g1, k1⟩ := (Hp.nil H hf).make [.nils, .nils, .nils, .int .i64 0, .nils, .nils] 6
  have n1 : H1.next = H.next + 1 := by rw [← s1]; rfl
  have bv : buildV [.nils, .int .i64 0] [(0, 1, v)] = some (.agg [v, .int .i64 0]) := by
    rcases h with ⟨rfl, _⟩ | ⟨b, o, cap, B, rfl, _⟩ <;> rfl
  have bx : boxV (.agg [v, .int .i64 0]) = some (.row ⟨[v, .int .i64 0], 0, false, true, 0⟩, .ptr) := boxV_agg (by simp only [List.all_cons, h.one, List.all_nil]; rfl)
  obtain ⟨H2, s2, g2, k2⟩ := g1.make [v, .int .i64 0] 2
  have n2 : H2.next = H1.next + 1 := by rw [← s2]; rfl
  obtain ⟨rb, hrb⟩ : ∃ rb, H1.next = rb := ⟨_, rfl⟩
  have hlt0 : 0 < rb := by omega
  have k12 := k1.trans k2
  have r2 : RdD rb v bs 0 H2 bs := by
    obtain ⟨es, ty, q1, _⟩ := g2.has _ (List.mem_cons_self ..)
    exact ⟨by omega, by omega, h.bys hf (by omega) k12, es, ty, 0, by rw [← hrb]; exact q1, by simp, by omega⟩
  have lnv := h.len
  simp only [A7, run_allocL, val_ptr, s1, run_build, bv, run_box, bx, s2, hrb, SX, reduceCtorEq, Nat.reduceEqDiff, ↓reduceIte, Int.reduceEq, Int.reduceLT, Int.reduceLE, Nat.reduceAdd]
  refine nK dq (m := 3) (by omega) r2 (by omega) g2.fr fun H2a a2 r2a => ?_
  have w1 : IntKind.wrap .i64 (1 + ((hd bs % 3 : Nat) : Int)) = ((1 + hd bs % 3 : Nat) : Int) := by rw [wrapI64 (by omega) (by omega)]; omega
  simp only [w1, SX, reduceCtorEq, Nat.reduceEqDiff, ↓reduceIte, Int.reduceEq, Int.reduceLT, Int.reduceLE, Nat.reduceAdd]
  refine nK dq (m := 3) (by omega) r2a (by omega) a2.fr fun H3 a3 r3 => ?_
  obtain ⟨r, hr⟩ : ∃ r, 1 + hd bs % 3 = r := ⟨_, rfl⟩
  obtain ⟨t, ht⟩ : ∃ t, hd bs.tail % 3 = t := ⟨_, rfl⟩
  rw [hr, ht]
  simp only [SX, reduceCtorEq, Nat.reduceEqDiff, ↓reduceIte, Int.reduceEq, Int.reduceLT, Int.reduceLE, Nat.reduceAdd]
  refine (rank_spec dq (r := r) (t := t) (by omega) (by omega) (by omega) a3.fr).mono ?_
  rintro tv H4 ⟨tab, gr4⟩
  obtain ⟨l, hl⟩ : ∃ l, r * 2 ^ t = l := ⟨_, rfl⟩
  rw [hl] at tab
  have l0 : 0 < l := by rw [← hl]; exact Nat.mul_pos (by omega) (Nat.pow_pos (by omega))
  have a24 : Ax rb H2 H4 := (a2.trans a3).trans (gr4.ax rb)
  have na := a24.next
  have na3 := (a2.trans a3).next
  have na43 := gr4.next
  have r4 := r3.gr gr4
  have f4 := gr4.fr
  generalize hs2 : bs.tail.tail = s2 at r4
  have tln := tab.len
  have bv4 : buildV [.nils, .nils, .nils, .int .i64 0, .nils, .nils] [(0, 1, tv)] = some (.agg [tv, .nils, .nils, .int .i64 0, .nils, .nils]) := by
    obtain ⟨b, es, ty, tv', rfl, _⟩ := tab; rfl
  obtain ⟨H5, s5, g5, k5⟩ := (Hp.nil H4 f4).make [.nils, .nils, .nils, .int .i64 0, .nils, .nils] 6
  have n5 : H5.next = H4.next + 1 := by rw [← s5]; rfl
  obtain ⟨H6, s6, g6, k6, n6⟩ := g5.storeN (n := 6) (new := [tv, .nils, .nils, .int .i64 0, .nils, .nils]) rfl rfl (by simp only [List.all_cons, tab.one, List.all_nil]; rfl)
  have l6 := g6.load (List.mem_cons_self ..) (o := 0) (v := tv) rfl
  have a46 : Ax rb H4 H6 := (Ax.refl f4).keepT (k5.trans k6) (by omega) g6.fr
  have rb4 : rb < H4.next := by omega
  have r6 : RdD rb v bs 2 H6 s2 := r4.keep rb4 (k5.trans k6) (by omega)
  simp only [run_build, bv4, run_allocL, val_ptr, s5, wp_store, s6, l6, tln, SX, reduceCtorEq, Nat.reduceEqDiff, ↓reduceIte, Int.reduceEq, Int.reduceLT, Int.reduceLE, Nat.reduceAdd]
  refine nK dq (m := 4) (by omega) r6 (by omega) g6.fr fun H7 a7 r7 => ?_
  have w7 : IntKind.wrap .i64 (1 + ((hd s2 % 4 : Nat) : Int)) = ((1 + hd s2 % 4 : Nat) : Int) := by rw [wrapI64 (by omega) (by omega)]; omega
  obtain ⟨k, hk⟩ : ∃ k, 1 + hd s2 % 4 = k := ⟨_, rfl⟩
  have hk4 : k ≤ 4 := by omega
  have hk0 : 0 < k := by omega
  generalize hs3 : s2.tail = s3 at r7
  have g7 := g6.ax rb4 a7
  rw [hk] at w7
  simp only [w7, A7_r1, SX, reduceCtorEq, Nat.reduceEqDiff, ↓reduceIte, Int.reduceEq, Int.reduceLT, Int.reduceLE, Nat.reduceAdd]
  obtain ⟨I, hI⟩ : ∃ I : Nat → Env → AHeap → Prop, ∀ m e H', I m e H' ↔ (∃ i w, m = k - i ∧ i ≤ k ∧ Grow 3 H4.next H' w (clL l i s3).flatten i [⟨H4.next, 6, [tv, w, .nils, .int .i64 0, .nils, .nils]⟩] ∧ Ax rb H4 H' ∧ RdD rb v bs (3 + 3 * i) H' (s3.drop (3 * i)) ∧
      Env.get e 0 = v ∧ Env.get e 2 = .ptr H.next 0 ∧ Env.get e 3 = .ptr rb 0 ∧ Env.get e 5 = .ptr H4.next 0 ∧ Env.get e 6 = .int .i64 (l : Int) ∧ Env.get e 7 = .int .i64 (k : Int) ∧ Env.get e 8 = .int .i64 (i : Int)) := ⟨_, fun _ _ _ => Iff.rfl⟩
  refine loop_by I k ?_ ?_
  · exact (hI _ _ _).2 ⟨0, .nils, rfl, by omega, Grow.nil 3 g7, a46.trans a7, r7, (by first | (simp only [SG, reduceCtorEq, Nat.reduceEqDiff, ↓reduceIte] <;> rfl) | rfl), (by first | (simp only [SG, reduceCtorEq, Nat.reduceEqDiff, ↓reduceIte] <;> rfl) | rfl), (by first | (simp only [SG, reduceCtorEq, Nat.reduceEqDiff, ↓reduceIte] <;> rfl) | rfl), (by first | (simp only [SG, reduceCtorEq, Nat.reduceEqDiff, ↓reduceIte] <;> rfl) | rfl), (by first | (simp only [SG, reduceCtorEq, Nat.reduceEqDiff, ↓reduceIte] <;> rfl) | rfl), (by first | (simp only [SG, reduceCtorEq, Nat.reduceEqDiff, ↓reduceIte] <;> rfl) | rfl), (by first | (simp only [SG, reduceCtorEq, Nat.reduceEqDiff, ↓reduceIte] <;> rfl) | rfl)⟩
  intro m' e H8 hinv
  obtain ⟨i, w, rfl, hi, g8, a8, r8, e0, e2, e3, e5, e6, e7, e8⟩ := (hI _ _ _).1 hinv
  by_cases d : (i : Int) < (k : Int)
  · simp only [A7_l1, e0, e2, e3, e5, e6, e7, e8, d, SX, reduceCtorEq, Nat.reduceEqDiff, ↓reduceIte, Int.reduceEq, Int.reduceLT, Int.reduceLE, Nat.reduceAdd]
    refine nK dq l0 r8 (by omega) a8.fr fun H9 a9 r9 => ?_
    generalize hsi : s3.drop (3 * i) = si at r9 ⊢
    have g9 := g8.ax rb4 a9
    obtain ⟨H10, s10, g10, k10, nr10, nn10⟩ := g9.make [.int .i64 0, .int .i64 0, .int .i64 0] 3
    obtain ⟨b7, hb7⟩ : ∃ b7, H9.next = b7 := ⟨_, rfl⟩
    rw [hb7] at g10
    obtain ⟨H11, s11, g11, k11, nr11, nn11⟩ := g10.storeN (m := 3) (new := [.int .i64 ((hd si % l : Nat) : Int), .int .i64 0, .int .i64 0]) rfl rfl rfl
    have bv9 : buildV [.int .i64 0, .int .i64 0, .int .i64 0] [(0, 1, .int .i64 ((hd si % l : Nat) : Int))] = some (.agg [.int .i64 ((hd si % l : Nat) : Int), .int .i64 0, .int .i64 0]) := rfl
    have na9 := a9.next
    have na8 := a8.next
    have r11 := r9.keep rb4 (k10.trans k11) (by omega)
    simp only [run_build, bv9, run_allocL, val_ptr, s10, hb7, wp_store, s11, e3, SX, reduceCtorEq, Nat.reduceEqDiff, ↓reduceIte, Int.reduceEq, Int.reduceLT, Int.reduceLE, Nat.reduceAdd]
    refine nK dq (m := 40) (by omega) r11 (by omega) g11.hp.fr fun H12 a12 r12 => ?_
    have g12 := g11.ax rb4 a12
    have w12 : IntKind.wrap .i64 (2 + ((hd si.tail % 40 : Nat) : Int)) = ((2 + hd si.tail % 40 : Nat) : Int) := by rw [wrapI64 (by omega) (by omega)]; omega
    obtain ⟨H13, s13, g13, k13, nr13, nn13⟩ := g12.store1 (o := 1) (w := .int .i64 ((2 + hd si.tail % 40 : Nat) : Int)) rfl (by simp)
    have na12 := a12.next
    have r13 := r12.keep rb4 k13 (by omega)
    simp only [w12, wp_store, s13, e3, SX, reduceCtorEq, Nat.reduceEqDiff, ↓reduceIte, Int.reduceEq, Int.reduceLT, Int.reduceLE, Nat.reduceAdd]
    refine nK dq (m := 12) (by omega) r13 (by omega) g13.hp.fr fun H14 a14 r14 => ?_
    have g14 := g13.ax rb4 a14
    have w14 : IntKind.wrap .i64 (2 + ((hd si.tail.tail % 12 : Nat) : Int)) = ((2 + hd si.tail.tail % 12 : Nat) : Int) := by rw [wrapI64 (by omega) (by omega)]; omega
    obtain ⟨H15, s15, g15, k15, nr15, nn15⟩ := g14.store1 (o := 2) (w := .int .i64 ((2 + hd si.tail.tail % 12 : Nat) : Int)) rfl (by simp)
    have na14 := a14.next
    have l15 := g15.hp.loadN (List.mem_cons_self ..) (n := 3) rfl
    have l15v := g15.hp.load (List.mem_cons_of_mem _ (List.mem_cons_self ..)) (o := 1) (v := w) rfl
    simp only [List.set_cons_succ, List.set_cons_zero] at l15 g15
    have bs15 := bsK3 (.int .i64 ((hd si % l : Nat) : Int)) (.int .i64 ((2 + hd si.tail % 40 : Nat) : Int)) (.int .i64 ((2 + hd si.tail.tail % 12 : Nat) : Int)) rfl rfl rfl (.int .i64 0) (.int .i64 0) (.int .i64 0)
    obtain ⟨H16, H17, v17, s16, s17, g17, k17, nr17, nn17⟩ := g15.drop.push (r := [.int .i64 ((hd si % l : Nat) : Int), .int .i64 ((2 + hd si.tail % 40 : Nat) : Int), .int .i64 ((2 + hd si.tail.tail % 12 : Nat) : Int)]) rfl rfl (by omega) (bytes := 24) (by omega) (by omega)
    obtain ⟨H18, s18, g18, k18, nr18, nn18⟩ := g17.store1 (o := 1) g17.one (by simp)
    simp only [List.set_cons_succ, List.set_cons_zero] at g18
    have w18 : IntKind.wrap .i64 ((i : Int) + 1) = ((i + 1 : Nat) : Int) := wrapNat (n := i + 1) (by omega)
    have a18 : Ax rb H4 H18 := (((((a8.trans a9).keepT (k10.trans k11) (by omega) g11.hp.fr).trans a12).keepT k13 (by omega) g13.hp.fr).trans a14).keepT ((k15.trans k17).trans k18) (by omega) g18.hp.fr
    have r18 := r14.keep rb4 ((k15.trans k17).trans k18) (by omega)
    simp only [w14, wp_store, s15, l15, l15v, run_bsK, bs15, s16, wp_append, s17, s18, e5, e8, w18, SX, reduceCtorEq, Nat.reduceEqDiff, ↓reduceIte, Int.reduceEq, Int.reduceLT, Int.reduceLE, Nat.reduceAdd]
    refine ⟨k - (i + 1), by omega, (hI _ _ _).2 ⟨i + 1, v17, rfl, by omega, ?_, a18, ?_, (by simp only [SG, reduceCtorEq, Nat.reduceEqDiff, ↓reduceIte, e0] <;> rfl), (by simp only [SG, reduceCtorEq, Nat.reduceEqDiff, ↓reduceIte, e2] <;> rfl), (by simp only [SG, reduceCtorEq, Nat.reduceEqDiff, ↓reduceIte, e3] <;> rfl), (by simp only [SG, reduceCtorEq, Nat.reduceEqDiff, ↓reduceIte, e5] <;> rfl), (by simp only [SG, reduceCtorEq, Nat.reduceEqDiff, ↓reduceIte, e6] <;> rfl), (by simp only [SG, reduceCtorEq, Nat.reduceEqDiff, ↓reduceIte, e7] <;> rfl), (by first | (simp only [SG, reduceCtorEq, Nat.reduceEqDiff, ↓reduceIte] <;> rfl) | rfl)⟩⟩
    · rw [clL_succ, hsi]; exact g18
    · rw [show 3 * (i + 1) = 3 * i + 3 by omega, ← List.drop_drop, hsi, drop3]
      exact r18.le (by omega)
  obtain rfl : i = k := by omega
  obtain ⟨hcl, ⟨hz, _⟩ | ⟨_, bc, rfl, g9⟩⟩ := g8
  · omega
  simp only [A7_l1, A7_r2, e0, e2, e3, e5, e6, e7, e8, d, SX, reduceCtorEq, Nat.reduceEqDiff, ↓reduceIte, Int.reduceEq, Int.reduceLT, Int.reduceLE, Nat.reduceAdd]
  refine nK dq (m := 3) (by omega) r8 (by omega) a8.fr fun H9 a9 r9 => ?_
  generalize hs4 : s3.drop (3 * i) = s4 at r9 ⊢
  obtain ⟨m, hm⟩ : ∃ m, hd s4 % 3 = m := ⟨_, rfl⟩
  have hm2 : m ≤ 2 := by omega
  rw [hm]
  generalize hs5 : s4.tail = s5 at r9
  have gA := g9.ax rb4 a9
  simp only [SX, reduceCtorEq, Nat.reduceEqDiff, ↓reduceIte, Int.reduceEq, Int.reduceLT, Int.reduceLE, Nat.reduceAdd]
  obtain ⟨J, hJ⟩ : ∃ J : Nat → Env → AHeap → Prop, ∀ q e H', J q e H' ↔ (∃ j w, q = m - j ∧ j ≤ m ∧ Grow 2 H4.next H' w (skL l j s5).flatten j [⟨H4.next, 6, [tv, .slc bc 0 i i, w, .int .i64 0, .nils, .nils]⟩, ⟨bc, 3, (clL l i s3).flatten⟩] ∧ Ax rb H4 H' ∧ RdD rb v bs (20 + 2 * j) H' (s5.drop (2 * j)) ∧
      Env.get e 0 = v ∧ Env.get e 2 = .ptr H.next 0 ∧ Env.get e 3 = .ptr rb 0 ∧ Env.get e 5 = .ptr H4.next 0 ∧ Env.get e 6 = .int .i64 (l : Int) ∧ Env.get e 7 = .int .i64 (i : Int) ∧ Env.get e 10 = .int .i64 (m : Int) ∧ Env.get e 11 = .int .i64 (j : Int)) := ⟨_, fun _ _ _ => Iff.rfl⟩
  refine loop_by J m ?_ ?_
  · exact (hJ _ _ _).2 ⟨0, .nils, rfl, by omega, Grow.nil 2 gA.swap, a8.trans a9, r9.le (by omega), (by simp only [SG, reduceCtorEq, Nat.reduceEqDiff, ↓reduceIte, e0] <;> rfl), (by simp only [SG, reduceCtorEq, Nat.reduceEqDiff, ↓reduceIte, e2] <;> rfl), (by simp only [SG, reduceCtorEq, Nat.reduceEqDiff, ↓reduceIte, e3] <;> rfl), (by simp only [SG, reduceCtorEq, Nat.reduceEqDiff, ↓reduceIte, e5] <;> rfl), (by simp only [SG, reduceCtorEq, Nat.reduceEqDiff, ↓reduceIte, e6] <;> rfl), (by simp only [SG, reduceCtorEq, Nat.reduceEqDiff, ↓reduceIte, e7] <;> rfl), (by first | (simp only [SG, reduceCtorEq, Nat.reduceEqDiff, ↓reduceIte] <;> rfl) | rfl), (by first | (simp only [SG, reduceCtorEq, Nat.reduceEqDiff, ↓reduceIte] <;> rfl) | rfl)⟩
  intro m'' e' H10 hinv'
  obtain ⟨j, w, rfl, hj, g10, a10, r10, f0, f2, f3, f5, f6, f7, f10, f11⟩ := (hJ _ _ _).1 hinv'
  by_cases dj : (j : Int) < (m : Int)
  · simp only [A7_l2, f0, f2, f3, f5, f6, f7, f10, f11, dj, SX, reduceCtorEq, Nat.reduceEqDiff, ↓reduceIte, Int.reduceEq, Int.reduceLT, Int.reduceLE, Nat.reduceAdd]
    refine nK dq l0 r10 (by omega) a10.fr fun H11 a11 r11 => ?_
    generalize hsj : s5.drop (2 * j) = sj at r11 ⊢
    have g11 := g10.ax rb4 a11
    obtain ⟨H12, s12, g12, k12', nr12, nn12⟩ := g11.make [.int .i64 0, .int .i64 0] 2
    obtain ⟨b8, hb8⟩ : ∃ b8, H11.next = b8 := ⟨_, rfl⟩
    rw [hb8] at g12
    obtain ⟨H13, s13, g13, k13, nr13, nn13⟩ := g12.storeN (m := 2) (new := [.int .i64 ((hd sj % l : Nat) : Int), .int .i64 0]) rfl rfl rfl
    have bv11 : buildV [.int .i64 0, .int .i64 0] [(0, 1, .int .i64 ((hd sj % l : Nat) : Int))] = some (.agg [.int .i64 ((hd sj % l : Nat) : Int), .int .i64 0]) := rfl
    have na11 := a11.next
    have na10 := a10.next
    have r13 := r11.keep rb4 (k12'.trans k13) (by omega)
    simp only [run_build, bv11, run_allocL, val_ptr, s12, hb8, wp_store, s13, f3, SX, reduceCtorEq, Nat.reduceEqDiff, ↓reduceIte, Int.reduceEq, Int.reduceLT, Int.reduceLE, Nat.reduceAdd]
    refine nK dq (m := 256) (by omega) r13 (by omega) g13.hp.fr fun H14 a14 r14 => ?_
    have g14 := g13.ax rb4 a14
    have w14 : IntKind.wrap .i64 (16 * ((hd sj.tail % 256 : Nat) : Int)) = ((16 * (hd sj.tail % 256) : Nat) : Int) := by rw [wrapI64 (by omega) (by omega)]; omega
    obtain ⟨H15, s15, g15, k15, nr15, nn15⟩ := g14.store1 (o := 1) (w := .int .i64 ((16 * (hd sj.tail % 256) : Nat) : Int)) rfl (by simp)
    have na14 := a14.next
    have l15 := g15.hp.loadN (List.mem_cons_self ..) (n := 2) rfl
    have l15v := g15.hp.load (List.mem_cons_of_mem _ (List.mem_cons_self ..)) (o := 2) (v := w) rfl
    simp only [List.set_cons_succ, List.set_cons_zero] at l15 g15
    have bs15 := bsK2 (.int .i64 ((hd sj % l : Nat) : Int)) (.int .i64 ((16 * (hd sj.tail % 256) : Nat) : Int)) rfl rfl (.int .i64 0) (.int .i64 0)
    obtain ⟨H16, H17, v17, s16, s17, g17, k17, nr17, nn17⟩ := g15.drop.push (r := [.int .i64 ((hd sj % l : Nat) : Int), .int .i64 ((16 * (hd sj.tail % 256) : Nat) : Int)]) rfl rfl (by omega) (bytes := 16) (by omega) (by omega)
    obtain ⟨H18, s18, g18, k18, nr18, nn18⟩ := g17.store1 (o := 2) g17.one (by simp)
    simp only [List.set_cons_succ, List.set_cons_zero] at g18
    have w18 : IntKind.wrap .i64 ((j : Int) + 1) = ((j + 1 : Nat) : Int) := wrapNat (n := j + 1) (by omega)
    have a18 : Ax rb H4 H18 := (((a10.trans a11).keepT (k12'.trans k13) (by omega) g13.hp.fr).trans a14).keepT ((k15.trans k17).trans k18) (by omega) g18.hp.fr
    have r18 := r14.keep rb4 ((k15.trans k17).trans k18) (by omega)
    simp only [w14, wp_store, s15, l15, l15v, run_bsK, bs15, s16, wp_append, s17, s18, f5, f11, w18, SX, reduceCtorEq, Nat.reduceEqDiff, ↓reduceIte, Int.reduceEq, Int.reduceLT, Int.reduceLE, Nat.reduceAdd]
    refine ⟨m - (j + 1), by omega, (hJ _ _ _).2 ⟨j + 1, v17, rfl, by omega, ?_, a18, ?_, (by simp only [SG, reduceCtorEq, Nat.reduceEqDiff, ↓reduceIte, f0] <;> rfl), (by simp only [SG, reduceCtorEq, Nat.reduceEqDiff, ↓reduceIte, f2] <;> rfl), (by simp only [SG, reduceCtorEq, Nat.reduceEqDiff, ↓reduceIte, f3] <;> rfl), (by simp only [SG, reduceCtorEq, Nat.reduceEqDiff, ↓reduceIte, f5] <;> rfl), (by simp only [SG, reduceCtorEq, Nat.reduceEqDiff, ↓reduceIte, f6] <;> rfl), (by simp only [SG, reduceCtorEq, Nat.reduceEqDiff, ↓reduceIte, f7] <;> rfl), (by simp only [SG, reduceCtorEq, Nat.reduceEqDiff, ↓reduceIte, f10] <;> rfl), (by first | (simp only [SG, reduceCtorEq, Nat.reduceEqDiff, ↓reduceIte] <;> rfl) | rfl)⟩⟩
    · rw [skL_succ, hsj]; exact g18
    · rw [show 2 * (j + 1) = 2 * j + 2 by omega, ← List.drop_drop, hsj, drop2]
      exact r18.le (by omega)
  obtain rfl : j = m := by omega
  simp only [A7_l2, A7_r3, f0, f2, f3, f5, f6, f7, f10, f11, dj, SX, reduceCtorEq, Nat.reduceEqDiff, ↓reduceIte, Int.reduceEq, Int.reduceLT, Int.reduceLE, Nat.reduceAdd]
  refine nK dq (m := 20) (by omega) r10 (by omega) a10.fr fun H11 a11 r11 => ?_
  generalize hs6 : s5.drop (2 * j) = s6 at r11 ⊢
  have g11 := g10.ax rb4 a11
  obtain ⟨H12, s12, g12, k12', nr12, nn12⟩ := g11.store1 (o := 3) (w := .int .i64 ((hd s6 % 20 : Nat) : Int)) rfl (by simp)
  simp only [List.set_cons_succ, List.set_cons_zero] at g12
  have na11 := a11.next
  have na10 := a10.next
  have a12 : Ax rb H4 H12 := (a10.trans a11).keepT k12' (by omega) g12.hp.fr
  have r12 := r11.keep rb4 k12' (by omega)
  have ce : cfgP bs = ⟨r, t, clL l i s3, skL l j s5, hd s6 % 20, s6.tail⟩ := by
    simp only [cfgP, hr, ht, hl, hs2, hs3, hk, hs4, hm, hs5, hs6]
  have hacts0 : actsP bs = actsL l i 200 s6.tail := by
    unfold actsP; rw [ce]; simp only [CfgP.n, hl, clL_len]
  -- what the configuration is made of stays from here on: its blocks are below what comes
  have ro : RowsO 2 H4.next H12.next H12 w (skL l j s5) := g12.rowsO (skL_k l j s5) (skL_len l j s5)
  have co : RowsO 3 H4.next H12.next H12 (.slc bc 0 i i) (clL l i s3) := by
    have hmm : (⟨bc, 3, (clL l i s3).flatten⟩ : Cel) ∈ [(⟨H4.next, 6, [tv, .slc bc 0 i i, w, .int .i64 ((hd s6 % 20 : Nat) : Int), .nils, .nils]⟩ : Cel), ⟨bc, 3, (clL l i s3).flatten⟩] := by simp
    obtain ⟨es, ty, q1, _⟩ := g12.hp.has _ hmm
    exact ⟨clL_k l i s3, .inr ⟨bc, es, ty, by rw [clL_len], g12.hp.lo _ hmm, g12.hp.lt hmm, q1⟩⟩
  obtain ⟨XS, hXS, gXS⟩ := g12.gx
  simp only [f5, wp_store, s12, SX, reduceCtorEq, Nat.reduceEqDiff, ↓reduceIte, Int.reduceEq, Int.reduceLT, Int.reduceLE, Nat.reduceAdd]
  obtain ⟨M, hM⟩ : ∃ M : Nat → Env → AHeap → Prop, ∀ q e H', M q e H' ↔ (∃ (al : List ActP) (s' : List UInt8) (av wv : AV) (ws : List AV) (X : List Cel), q = 200 - al.length ∧ al.length ≤ 200 ∧ al ++ actsL l i (200 - al.length) s' = actsL l i 200 s6.tail ∧ GX 1 wv ws al.length X ∧
      Grow 9 H4.next H' av (al.map ActP.cs).flatten al.length (⟨H4.next, 6, [tv, .slc bc 0 i i, w, .int .i64 ((hd s6 % 20 : Nat) : Int), av, wv]⟩ :: (X ++ (XS ++ [⟨bc, 3, (clL l i s3).flatten⟩]))) ∧ Ax rb H4 H' ∧ RdD rb v bs 6100 H' s' ∧
      Env.get e 0 = v ∧ Env.get e 2 = .ptr H.next 0 ∧ Env.get e 3 = .ptr rb 0 ∧ Env.get e 5 = .ptr H4.next 0 ∧ Env.get e 6 = .int .i64 (l : Int) ∧ Env.get e 7 = .int .i64 (i : Int)) := ⟨_, fun _ _ _ => Iff.rfl⟩
  refine loop_by M 200 ?_ ?_
  · exact (hM _ _ _).2 ⟨[], s6.tail, .nils, .nils, [], [], rfl, by simp, by simp, ⟨rfl, .inl ⟨rfl, rfl, rfl⟩⟩, Grow.nil 9 (gXS.perm List.perm_middle), a12, r12.le (by omega), (by simp only [SG, reduceCtorEq, Nat.reduceEqDiff, ↓reduceIte, f0] <;> rfl), (by simp only [SG, reduceCtorEq, Nat.reduceEqDiff, ↓reduceIte, f2] <;> rfl), (by simp only [SG, reduceCtorEq, Nat.reduceEqDiff, ↓reduceIte, f3] <;> rfl), (by simp only [SG, reduceCtorEq, Nat.reduceEqDiff, ↓reduceIte, f5] <;> rfl), (by simp only [SG, reduceCtorEq, Nat.reduceEqDiff, ↓reduceIte, f6] <;> rfl), (by simp only [SG, reduceCtorEq, Nat.reduceEqDiff, ↓reduceIte, f7] <;> rfl)⟩
  intro q3 e3' H13 hinv3
  obtain ⟨al, s', av, wv, ws, X, rfl, hal, hacts, gx, g13, a13, r13, z0, z2, z3, z5, z6, z7⟩ := (hM _ _ _).1 hinv3
  have na13 := a13.next
  obtain ⟨es, ty, at', hg, hsd, hatc⟩ := r13.ex
  have hrow : H13.row rb = some ⟨[v, .int .i64 (at' : Int)], es, false, true, ty⟩ := by simp only [AHeap.row, hg, if_true]
  have lat : loadV H13 none (.ptr rb 1) = some (.int .i64 (at' : Int)) := by simp only [loadV, ROp.run, Opd.ev, hrow]; rfl
  have lnv13 := lnv H13
  have l134 := g13.hp.load (List.mem_cons_self ..) (o := 4) (v := av) rfl
  have lna := g13.len H13
  have fin : (s' = [] ∨ 200 ≤ al.length) → ∃ H15, loadV H13 (some 6) (.ptr H4.next 0) = some (.agg [tv, .slc bc 0 i i, w, .int .i64 ((hd s6 % 20 : Nat) : Int), av, wv]) ∧ storeE H13 6 (.ptr H.next 0) (.agg [tv, .slc bc 0 i i, w, .int .i64 ((hd s6 % 20 : Nat) : Int), av, wv]) = some (.undef, H15) ∧ loadV H15 (some 6) (.ptr H.next 0) = some (.agg [tv, .slc bc 0 i i, w, .int .i64 ((hd s6 % 20 : Nat) : Int), av, wv]) ∧
      (TabO H.next H15.next H15 tv (cfgP bs).r (cfgP bs).n ∧ RowsO 3 H.next H15.next H15 (.slc bc 0 i i) (cfgP bs).cl ∧ RowsO 2 H.next H15.next H15 w (cfgP bs).sk ∧ RowsO 9 H.next H15.next H15 av ((actsP bs).map ActP.cs) ∧ wv.one = true ∧ Gr H H15) := by
    intro hh
    have hA : actsP bs = al := by
      rw [hacts0, ← hacts]
      rcases hh with rfl | hh
      · cases hz : 200 - al.length <;> simp [actsL]
      · rw [show 200 - al.length = 0 by omega]; simp [actsL]
    have gB : Hp H.next H13 [⟨H.next, 6, [.nils, .nils, .nils, .int .i64 0, .nils, .nils]⟩] := (g2.drop).axN (by intro x hx; rw [List.mem_singleton] at hx; subst hx; simp only; omega) (a24.trans a13)
    have on : ([tv, .slc bc 0 i i, w, .int .i64 ((hd s6 % 20 : Nat) : Int), av, wv] : List AV).all AV.one = true := by
      simp only [List.all_cons, tab.one, ro.one, g13.one, gx.one, List.all_nil]; rfl
    obtain ⟨H15, s15, g15, k15, n15⟩ := gB.storeN (n := 6) (new := [tv, .slc bc 0 i i, w, .int .i64 ((hd s6 % 20 : Nat) : Int), av, wv]) rfl rfl on
    have oth : ∀ x, x ≠ H.next → H15.get x = H13.get x := fun x hx => store_other s15 hx
    refine ⟨H15, g13.hp.loadN (List.mem_cons_self ..) rfl, s15, g15.loadN (List.mem_cons_self ..) rfl, ?_, ?_, ?_, ?_, gx.one, ?_⟩
    · rw [ce]; simp only [CfgP.n, hl]
      exact (tab.of fun x h1 h2 => by rw [oth x (by omega), a13.keep x h2 (by omega)]).wide (by omega) (by omega)
    · rw [ce]; simp only
      have hmm : (⟨bc, 3, (clL l i s3).flatten⟩ : Cel) ∈ (⟨H4.next, 6, [tv, .slc bc 0 i i, w, .int .i64 ((hd s6 % 20 : Nat) : Int), av, wv]⟩ : Cel) :: (X ++ (XS ++ [⟨bc, 3, (clL l i s3).flatten⟩])) := by simp
      obtain ⟨es', ty', p1, _⟩ := g13.hp.has _ hmm
      have : RowsO 3 H4.next H13.next H13 (.slc bc 0 i i) (clL l i s3) := ⟨clL_k l i s3, .inr ⟨bc, es', ty', by rw [clL_len], g13.hp.lo _ hmm, g13.hp.lt hmm, p1⟩⟩
      exact (this.of fun x h1 h2 => oth x (by omega)).wide (by omega) (by omega)
    · rw [ce]; simp only
      have : RowsO 2 H4.next H13.next H13 w (skL l j s5) := by
        obtain ⟨h0', ⟨h1', h2', _⟩ | ⟨h1', bw, h2', hXe⟩⟩ := hXS
        · have e0' : skL l j s5 = [] := List.eq_nil_of_length_eq_zero (by rw [skL_len]; exact h1')
          exact ⟨skL_k l j s5, .inl ⟨h2', e0'⟩⟩
        · have hmm : (⟨bw, 2, (skL l j s5).flatten⟩ : Cel) ∈ (⟨H4.next, 6, [tv, .slc bc 0 i i, w, .int .i64 ((hd s6 % 20 : Nat) : Int), av, wv]⟩ : Cel) :: (X ++ (XS ++ [⟨bc, 3, (clL l i s3).flatten⟩])) := by rw [hXe]; simp
          obtain ⟨es', ty', p1, _⟩ := g13.hp.has _ hmm
          exact ⟨skL_k l j s5, .inr ⟨bw, es', ty', by rw [skL_len]; exact h2', g13.hp.lo _ hmm, g13.hp.lt hmm, p1⟩⟩
      exact (this.of fun x h1 h2 => oth x (by omega)).wide (by omega) (by omega)
    · rw [hA]
      have := g13.rowsO (cs_k al) (by simp)
      exact (this.of fun x h1 h2 => oth x (by omega)).wide (by omega) (by omega)
    · refine ⟨fun x hx => ?_, by omega, g15.fr⟩
      rw [oth x (by omega), a13.keep x (by omega) (by omega), a24.keep x (by omega) (by omega), k12 x hx]
  by_cases c1 : (at' : Int) < (bs.length : Int)
  · by_cases c2 : (al.length : Int) < 200
    · have hne : s' ≠ [] := by rw [hsd]; intro e; have := List.drop_eq_nil_iff.1 e; omega
      have r13' : RdD rb v bs 6000 H13 s' := ⟨r13.pos, r13.lt, r13.bys, es, ty, at', hg, hsd, by omega⟩
      simp only [A7_l3, z0, z2, z3, z5, z6, z7, lat, lnv13, c1, l134, lna, c2, SX, reduceCtorEq, Nat.reduceEqDiff, ↓reduceIte, Int.reduceEq, Int.reduceLT, Int.reduceLE, Nat.reduceAdd]
      refine (dact_spec dq l0 (by
        have h3 := (cfg_b bs).2.1
        rw [ce] at h3; simp only [CfgP.n, hl] at h3; omega) hk0 (by omega) r13' (by omega) a13.fr).mono ?_
      rintro _ H14 ⟨⟨wb, rfl⟩, a14, r14⟩
      have na14 := a14.next
      have g14 := g13.ax rb4 a14
      obtain ⟨H15, s15, g15, k15, nr15, nn15⟩ := g14.make zero9 9
      obtain ⟨bA, hbA⟩ : ∃ bA, H14.next = bA := ⟨_, rfl⟩
      rw [hbA] at g15
      obtain ⟨H16, s16, g16, k16, nr16, nn16⟩ := g15.storeN (m := 9) (new := (actP l i s').1.cs) rfl rfl (actP l i s').1.ones
      have l16 := g16.hp.loadN (List.mem_cons_self ..) (n := 9) rfl
      have l164 := g16.hp.load (List.mem_cons_of_mem _ (List.mem_cons_self ..)) (o := 4) (v := av) rfl
      have b9 := bsK9 (actP l i s').1
      unfold zero9 at b9 s15
      obtain ⟨H17, H18, v18, s17, s18, g18, k18, nr18, nn18⟩ := g16.drop.push (r := (actP l i s').1.cs) rfl (actP l i s').1.ones (by omega) (bytes := 80) (by omega) (by omega)
      obtain ⟨H19, s19, g19, k19, nr19, nn19⟩ := g18.store1 (o := 4) g18.one (by simp)
      simp only [List.set_cons_succ, List.set_cons_zero] at g19
      obtain ⟨Y, hY, gY⟩ := g19.gx
      have gW := gx.grow (gY.perm (perm3 X Y (XS ++ [⟨bc, 3, (clL l i s3).flatten⟩]) ⟨H4.next, 6, [tv, .slc bc 0 i i, w, .int .i64 ((hd s6 % 20 : Nat) : Int), v18, wv]⟩))
      have l195 := gW.hp.load (List.mem_cons_self ..) (o := 5) (v := wv) rfl
      have bsb : bsK 1 [.bool false] (.bool wb) = some (.row ⟨[.bool wb], 0, false, true, 0⟩, .slc 1 1) := rfl
      obtain ⟨H20, H21, v21, s20, s21, g21, k21, nr21, nn21⟩ := gW.push (r := [.bool wb]) rfl rfl (by omega) (bytes := 1) (by omega) (by omega)
      obtain ⟨H22, s22, g22, k22, nr22, nn22⟩ := g21.store1 (o := 5) g21.one (by simp)
      simp only [List.set_cons_succ, List.set_cons_zero] at g22
      obtain ⟨X', hX', gX'⟩ := g22.gx
      have gF := hY.grow (gX'.perm (perm3 Y X' (XS ++ [⟨bc, 3, (clL l i s3).flatten⟩]) ⟨H4.next, 6, [tv, .slc bc 0 i i, w, .int .i64 ((hd s6 % 20 : Nat) : Int), v18, v21]⟩))
      have kk := ((((k15.trans k16).trans k18).trans k19).trans k21).trans k22
      simp only [z5, ext20, ext21, run_allocL, val_ptr, s15, hbA, wp_store, s16, l164, l16, run_bsK, b9, s17, wp_append, s18, s19, l195, bsb, s20, s21, s22, SX, reduceCtorEq, Nat.reduceEqDiff, ↓reduceIte, Int.reduceEq, Int.reduceLT, Int.reduceLE, Nat.reduceAdd]
      refine ⟨200 - (al.length + 1), by omega, (hM _ _ _).2 ⟨al ++ [(actP l i s').1], (actP l i s').2, v18, v21, ws ++ [.bool wb], X', by simp, by simp; omega, ?_, by simpa using hX', by simpa using gF, (a13.trans a14).keepT kk (by omega) gF.hp.fr, (r14.keep rb4 kk (by omega)).le (by omega), (by simp only [SG, reduceCtorEq, Nat.reduceEqDiff, ↓reduceIte, z0] <;> rfl), (by simp only [SG, reduceCtorEq, Nat.reduceEqDiff, ↓reduceIte, z2] <;> rfl), (by simp only [SG, reduceCtorEq, Nat.reduceEqDiff, ↓reduceIte, z3] <;> rfl), (by simp only [SG, reduceCtorEq, Nat.reduceEqDiff, ↓reduceIte, z5] <;> rfl), (by simp only [SG, reduceCtorEq, Nat.reduceEqDiff, ↓reduceIte, z6] <;> rfl), (by simp only [SG, reduceCtorEq, Nat.reduceEqDiff, ↓reduceIte, z7] <;> rfl)⟩⟩
      rw [← hacts, show 200 - al.length = (200 - (al ++ [(actP l i s').1]).length) + 1 by simp; omega]
      simp only [actsL, if_neg hne, List.append_assoc, List.singleton_append]
    · obtain ⟨H15, q1, q2, q3, q4⟩ := fin (.inr (by omega))
      simp only [A7_l3, A7_tl, z0, z2, z3, z5, z6, z7, lat, lnv13, c1, l134, lna, c2, q1, wp_store, q2, resCell, q3, SX, reduceCtorEq, Nat.reduceEqDiff, ↓reduceIte, Int.reduceEq, Int.reduceLT, Int.reduceLE, Nat.reduceAdd]
      exact ⟨tv, .slc bc 0 i i, w, av, wv, by rw [ce], q4⟩
  · have hnil : s' = [] := by rw [hsd]; exact List.drop_eq_nil_of_le (by omega)
    obtain ⟨H15, q1, q2, q3, q4⟩ := fin (.inl hnil)
    simp only [A7_l3, A7_tl, z0, z2, z3, z5, z6, z7, lat, lnv13, c1, wantV_undef, q1, wp_store, q2, resCell, q3, SX, reduceCtorEq, Nat.reduceEqDiff, ↓reduceIte, Int.reduceEq, Int.reduceLT, Int.reduceLE, Nat.reduceAdd]
    exact ⟨tv, .slc bc 0 i i, w, av, wv, by rw [ce], q4⟩
end
end Go.Proofs.YtdkpmlhbofgfdaaGreatDoor.AM
