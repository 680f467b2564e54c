/-
  The document's acts: walked.
-/
import Derived.Test.YtdkpmlhbofgfdaaGreatDoorSdB
set_option linter.unusedVariables false
set_option linter.unusedSimpArgs false
namespace Go.Proofs.YtdkpmlhbofgfdaaGreatDoor.AM
open Go
theorem resCell9 (e : Env) (H : AHeap) (i n j : Nat) (v : AV) (h : loadV H (some n) (Env.get e i) = some v) : resVal e H [.cell i (some n), .t j] = some (.tup [v, Env.get e j]) := by
  rw [resCellT, h]
section
variable {Q : Prog} (dq : SdQ Q) {H : AHeap}
include dq
set_option maxHeartbeats 16000000 in
theorem dactT_spec {rb lm base b6 b c cm : Nat} {v : AV} {bs s tl : List UInt8} {e : Env} {wild : Bool} (hb : b < 256) (hm : 0 < lm) (hm2 : lm ≤ 256) (hcm : 0 < cm) (hcm2 : cm ≤ 256) (htl : tl.length ≤ 1) (h : RdD rb v bs c H s) (hc : c ≤ 40000) (hr : rb < base) (hp : Hp base H [⟨b6, 9, zero9⟩])
    (e0 : Env.get e 0 = .ptr rb 0) (e1 : Env.get e 1 = .int .i64 (lm : Int)) (e2 : Env.get e 2 = .int .i64 (cm : Int)) (e6 : Env.get e 6 = .ptr b6 0) (e8 : Env.get e 8 = .int .i64 (b : Int)) (e9 : Env.get e 9 = .bool wild) (e10 : Env.get e 10 = .str tl) {K : AV → AHeap → Prop}
    (hK : ∀ H', (∀ x, x < base → x ≠ rb → H'.get x = H.get x) → H.next ≤ H'.next → Fr H' → RdD rb v bs (c + 60) H' (actT b lm (hd s % cm) tl s.tail).2 → K (.tup [.agg (actT b lm (hd s % cm) tl s.tail).1.cs, .bool wild]) H') :
    ACode.wp Q A13_rest (fnK A13.res K) e H := by
  have hf := hp.fr
  simp only [A13_rest, e0, e2, SX, reduceCtorEq, Nat.reduceEqDiff, ↓reduceIte, Int.reduceEq, Int.reduceLT, Int.reduceLE, Nat.reduceAdd]
  refine nK dq hcm h (by omega) hf fun H1 a1 r1 => ?_
  obtain ⟨cl, hcl⟩ : ∃ cl, hd s % cm = cl := ⟨_, rfl⟩
  rw [hcl] at hK ⊢
  generalize s.tail = t at r1 hK
  have hp1 := hp.ax hr a1
  have rm' : binV .rem (.int .i64 (b : Int)) (.int .i64 16) = some (.int .i64 ((b % 16 : Nat) : Int)) := remN (a := b) (m := 16) (by omega)
  obtain ⟨k, hk⟩ : ∃ k, b % 16 = k := ⟨_, rfl⟩
  rw [hk] at rm'
  have hk16 : k < 16 := by rw [← hk]; exact Nat.mod_lt _ (by omega)
  have bv0 : buildV zero9 [(1, 1, .int .i64 (cl : Int))] = some (.agg (ActP.cs ⟨0, cl, ⟨0, 0, 0⟩, 0, 0, 0, []⟩)) := rfl
  obtain ⟨H2, s2, g2, k2⟩ := hp1.make zero9 9
  have n2 : H2.next = H1.next + 1 := by rw [← s2]; rfl
  obtain ⟨bA, hbA⟩ : ∃ bA, H1.next = bA := ⟨_, rfl⟩
  rw [hbA] at g2
  obtain ⟨H3, s3, g3, k3, n3⟩ := g2.storeN (n := 9) (new := ActP.cs ⟨0, cl, ⟨0, 0, 0⟩, 0, 0, 0, []⟩) rfl rfl rfl
  have na1 := a1.next
  have r3 : RdD rb v bs (c + 1) H3 t := r1.keep hr (k2.trans k3) (by omega)
  have o3 : ∀ x, x < base → x ≠ rb → H3.get x = H.get x := fun x hx hxr => by
    have := hp.bn
    rw [k3 x hx, k2 x hx, a1.keep x (by omega) hxr]
  unfold zero9 at bv0 s2
  simp only [e0, e1, e6, e8, e9, e10, rm', run_build, bv0, run_allocL, val_ptr, s2, hbA, wp_store, s3, A13_sw, SX, reduceCtorEq, Nat.reduceEqDiff, ↓reduceIte, Int.reduceEq, Int.reduceLT, Int.reduceLE, Nat.reduceAdd]
  -- the end of each way
  have fin : ∀ (a : ActP) (t' : List UInt8), (actT b lm cl tl t).1 = a → (actT b lm cl tl t).2 = t' → ∀ H4, Hp base H4 [⟨bA, 9, a.cs⟩, ⟨b6, 9, zero9⟩] → (∀ x, x < base → x ≠ rb → H4.get x = H.get x) → H.next ≤ H4.next → RdD rb v bs (c + 60) H4 t' → ∃ H', loadV H4 (some 9) (.ptr bA 0) = some (.agg a.cs) ∧ storeE H4 9 (.ptr b6 0) (.agg a.cs) = some (.undef, H') ∧ loadV H' (some 9) (.ptr b6 0) = some (.agg a.cs) ∧ K (.tup [.agg a.cs, .bool wild]) H' := by
    intro a t' h1 h2 H4 g4 o4 n4 r4
    obtain ⟨H', s5, g5, k5, n5⟩ := g4.swap.storeN (n := 9) (new := a.cs) rfl rfl a.ones
    subst h1 h2
    refine ⟨H', g4.loadN (List.mem_cons_self ..) rfl, s5, g5.loadN (List.mem_cons_self ..) rfl, hK H' (fun x hx hxr => ?_) (by omega) g5.fr (r4.keep hr k5 (by omega))⟩
    rw [k5 x hx, o4 x hx hxr]
  have fin0 : ∀ (a : ActP) (t' : List UInt8), (actT b lm cl tl t).1 = a → (actT b lm cl tl t).2 = t' → ∀ (H4 : AHeap) (cs : List AV), Hp base H4 [⟨bA, 9, cs⟩, ⟨b6, 9, zero9⟩] → (∀ x, x < base → x ≠ rb → H4.get x = H.get x) → H.next ≤ H4.next → RdD rb v bs (c + 60) H4 t' → ∃ H', storeE H4 9 (.ptr b6 0) (.agg a.cs) = some (.undef, H') ∧ loadV H' (some 9) (.ptr b6 0) = some (.agg a.cs) ∧ K (.tup [.agg a.cs, .bool wild]) H' := by
    intro a t' h1 h2 H4 cs g4 o4 n4 r4
    obtain ⟨H', s5, g5, k5, n5⟩ := g4.swap.storeN (n := 9) (new := a.cs) rfl rfl a.ones
    subst h1 h2
    refine ⟨H', s5, g5.loadN (List.mem_cons_self ..) rfl, hK H' (fun x hx hxr => ?_) (by omega) g5.fr (r4.keep hr k5 (by omega))⟩
    rw [k5 x hx, o4 x hx hxr]
  have bn := hp.bn
  have oax : ∀ {Hx Hy : AHeap}, (∀ x, x < base → x ≠ rb → Hx.get x = H.get x) → H.next ≤ Hx.next → Ax rb Hx Hy → (∀ x, x < base → x ≠ rb → Hy.get x = H.get x) := fun o n a x hx hxr => by rw [a.keep x (by omega) hxr, o x hx hxr]
  have okp : ∀ {Hx Hy : AHeap}, (∀ x, x < base → x ≠ rb → Hx.get x = H.get x) → Keep base Hx Hy → (∀ x, x < base → x ≠ rb → Hy.get x = H.get x) := fun o k x hx hxr => by rw [k x hx, o x hx hxr]
  by_cases c7 : k < 7
  · have d7 : (k : Int) ≤ 6 := by omega
    obtain ⟨H4, s4, g4, k4, n4⟩ := g3.store (o := 0) (v := .int .u8 1) rfl (by simp [ActP.cs])
    have o4 := okp o3 k4
    have r4 := r3.keep hr k4 (by omega)
    simp only [e0, e1, d7, wp_store, s4, SX, reduceCtorEq, Nat.reduceEqDiff, ↓reduceIte, Int.reduceEq, Int.reduceLT, Int.reduceLE, Nat.reduceAdd]
    refine (dline_spec dq hm hm2 r4 (by omega) g4.fr).mono ?_
    rintro _ H5 ⟨rfl, a5, r5⟩
    have clen := cmd_len hm hm2 t
    have ad := bin_adds (cmdS lm t) tl (by omega)
    simp only [e10, ad, SX, reduceCtorEq, Nat.reduceEqDiff, ↓reduceIte, Int.reduceEq, Int.reduceLT, Int.reduceLE, Nat.reduceAdd]
    refine (dframe_spec dq (k := 2) (s := cmdS lm t ++ tl) (by omega) (by rw [List.length_append]; omega) a5.fr).mono ?_
    rintro _ H6 ⟨rfl, gr6⟩
    have na5 := a5.next
    have na6 := gr6.next
    have g6 := (g4.ax hr a5).keep gr6.keep gr6.next gr6.fr
    have o6 := oax (oax o4 (by omega) a5) (by omega) (gr6.ax rb)
    obtain ⟨H7, s7, g7, k7, n7⟩ := g6.store (o := 8) (v := .str (frameB 2 (cmdS lm t ++ tl))) rfl (by simp [ActP.cs])
    obtain ⟨H8, l8, s8, l8', kk⟩ := fin ⟨1, cl, ⟨0, 0, 0⟩, 0, 0, 0, frameB 2 (cmdS lm t ++ tl)⟩ (cmdR lm t) (by unfold actT; rw [hk, if_pos c7]) (by unfold actT; rw [hk, if_pos c7]) H7 g7 (okp o6 k7) (by omega) (((r5.gr gr6).keep hr k7 (by omega)).le (by omega))
    simp only [e6, e9, wp_store, s7, l8, s8, A13, resCellT, l8', SX, reduceCtorEq, Nat.reduceEqDiff, ↓reduceIte, Int.reduceEq, Int.reduceLT, Int.reduceLE, Nat.reduceAdd]
    exact kk
  by_cases c9 : k < 9
  · have d7 : ¬ (k : Int) ≤ 6 := by omega
    have d9 : (k : Int) ≤ 8 := by omega
    obtain ⟨H4, s4, g4, k4, n4⟩ := g3.store (o := 0) (v := .int .u8 1) rfl (by simp [ActP.cs])
    have o4 := okp o3 k4
    have r4 := r3.keep hr k4 (by omega)
    simp only [e0, e1, d7, d9, wp_store, s4, SX, reduceCtorEq, Nat.reduceEqDiff, ↓reduceIte, Int.reduceEq, Int.reduceLT, Int.reduceLE, Nat.reduceAdd]
    refine (dtext_spec dq (m := 12) (by omega) (by omega) r4 (by omega) g4.fr).mono ?_
    rintro _ H5 ⟨rfl, a5, r5⟩
    simp only [SX, reduceCtorEq, Nat.reduceEqDiff, ↓reduceIte, Int.reduceEq, Int.reduceLT, Int.reduceLE, Nat.reduceAdd]
    refine (dframe_spec dq (k := 1) (s := rdN (hd t % 12) t.tail) (by omega) (by rw [rdN_len]; omega) a5.fr).mono ?_
    rintro _ H6 ⟨rfl, gr6⟩
    have na5 := a5.next
    have na6 := gr6.next
    have g6 := (g4.ax hr a5).keep gr6.keep gr6.next gr6.fr
    have o6 := oax (oax o4 (by omega) a5) (by omega) (gr6.ax rb)
    obtain ⟨H7, s7, g7, k7, n7⟩ := g6.store (o := 8) (v := .str (frameB 1 (rdN (hd t % 12) t.tail))) rfl (by simp [ActP.cs])
    obtain ⟨H8, l8, s8, l8', kk⟩ := fin ⟨1, cl, ⟨0, 0, 0⟩, 0, 0, 0, frameB 1 (rdN (hd t % 12) t.tail)⟩ (t.tail.drop (hd t % 12)) (by unfold actT; rw [hk, if_neg c7, if_pos c9]) (by unfold actT; rw [hk, if_neg c7, if_pos c9]) H7 g7 (okp o6 k7) (by omega) (((r5.gr gr6).keep hr k7 (by omega)).le (by omega))
    simp only [e6, e9, wp_store, s7, l8, s8, A13, resCellT, l8', SX, reduceCtorEq, Nat.reduceEqDiff, ↓reduceIte, Int.reduceEq, Int.reduceLT, Int.reduceLE, Nat.reduceAdd]
    exact kk
  by_cases c13 : k < 13
  · have d7 : ¬ (k : Int) ≤ 6 := by omega
    have d9 : ¬ (k : Int) ≤ 8 := by omega
    have d13 : (k : Int) ≤ 12 := by omega
    simp only [e0, e1, d7, d9, d13, SX, reduceCtorEq, Nat.reduceEqDiff, ↓reduceIte, Int.reduceEq, Int.reduceLT, Int.reduceLE, Nat.reduceAdd]
    refine nK dq hm r3 (by omega) g3.fr fun H4 a4 r4 => ?_
    simp only [e0, e1, SX, reduceCtorEq, Nat.reduceEqDiff, ↓reduceIte, Int.reduceEq, Int.reduceLT, Int.reduceLE, Nat.reduceAdd]
    refine nK dq hm r4 (by omega) a4.fr fun H5 a5 r5 => ?_
    simp only [e0, e1, SX, reduceCtorEq, Nat.reduceEqDiff, ↓reduceIte, Int.reduceEq, Int.reduceLT, Int.reduceLE, Nat.reduceAdd]
    refine nK dq (m := 4) (by omega) r5 (by omega) a5.fr fun H6 a6 r6 => ?_
    have na4 := a4.next
    have na5 := a5.next
    have na6 := a6.next
    have g6 := ((g3.ax hr a4).ax hr a5).ax hr a6
    have o6 := oax (oax (oax o3 (by omega) a4) (by omega) a5) (by omega) a6
    have bp : buildV [.int .i64 0, .int .i64 0, .int .i64 0] [(0, 1, .int .i64 ((hd t % lm : Nat) : Int)), (1, 1, .int .i64 ((hd t.tail % lm : Nat) : Int)), (2, 1, .int .i64 ((hd t.tail.tail % 4 : Nat) : Int))] = some (.agg [.int .i64 ((hd t % lm : Nat) : Int), .int .i64 ((hd t.tail % lm : Nat) : Int), .int .i64 ((hd t.tail.tail % 4 : Nat) : Int)]) := rfl
    have bv : buildV zero9 [(0, 1, .int .u8 2), (2, 3, .agg [.int .i64 ((hd t % lm : Nat) : Int), .int .i64 ((hd t.tail % lm : Nat) : Int), .int .i64 ((hd t.tail.tail % 4 : Nat) : Int)])] = some (.agg (ActP.cs ⟨2, 0, ⟨((hd t % lm : Nat) : Int), ((hd t.tail % lm : Nat) : Int), ((hd t.tail.tail % 4 : Nat) : Int)⟩, 0, 0, 0, []⟩)) := rfl
    unfold zero9 at bv
    obtain ⟨H7, s7, g7, k7, n7⟩ := g6.storeN (n := 9) (new := ActP.cs ⟨2, 0, ⟨((hd t % lm : Nat) : Int), ((hd t.tail % lm : Nat) : Int), ((hd t.tail.tail % 4 : Nat) : Int)⟩, 0, 0, 0, []⟩) rfl rfl rfl
    simp only [e0, e1, run_build, bp, bv, wp_store, s7, SX, reduceCtorEq, Nat.reduceEqDiff, ↓reduceIte, Int.reduceEq, Int.reduceLT, Int.reduceLE, Nat.reduceAdd]
    refine (dtext_spec dq (m := 40) (by omega) (by omega) (r6.keep hr k7 (by omega)) (by omega) g7.fr).mono ?_
    rintro _ H8 ⟨rfl, a8, r8⟩
    have na8 := a8.next
    have g8 := g7.ax hr a8
    have o8 := oax (okp o6 k7) (by omega) a8
    obtain ⟨H9, s9, g9, k9, n9⟩ := g8.store (o := 8) (v := .str (rdN (hd t.tail.tail.tail % 40) t.tail.tail.tail.tail)) rfl (by simp [ActP.cs])
    obtain ⟨H10, l10, s10, l10', kk⟩ := fin ⟨2, 0, ⟨((hd t % lm : Nat) : Int), ((hd t.tail % lm : Nat) : Int), ((hd t.tail.tail % 4 : Nat) : Int)⟩, 0, 0, 0, rdN (hd t.tail.tail.tail % 40) t.tail.tail.tail.tail⟩ (t.tail.tail.tail.tail.drop (hd t.tail.tail.tail % 40)) (by unfold actT; rw [hk, if_neg c7, if_neg c9, if_pos c13]) (by unfold actT; rw [hk, if_neg c7, if_neg c9, if_pos c13]) H9 g9 (okp o8 k9) (by omega) ((r8.keep hr k9 (by omega)).le (by omega))
    simp only [e6, e9, wp_store, s9, l10, s10, A13, resCellT, l10', SX, reduceCtorEq, Nat.reduceEqDiff, ↓reduceIte, Int.reduceEq, Int.reduceLT, Int.reduceLE, Nat.reduceAdd]
    exact kk
  have d7 : ¬ (k : Int) ≤ 6 := by omega
  have d9 : ¬ (k : Int) ≤ 8 := by omega
  have d13 : ¬ (k : Int) ≤ 12 := by omega
  by_cases ce : k = 13
  · have de : (k : Int) = 13 := by omega
    obtain ⟨H4, s4, g4, k4, n4⟩ := g3.store (o := 0) (v := .int .u8 3) rfl (by simp [ActP.cs])
    have o4 := okp o3 k4
    have r4 := r3.keep hr k4 (by omega)
    simp only [e0, e1, d7, d9, d13, de, wp_store, s4, SX, reduceCtorEq, Nat.reduceEqDiff, ↓reduceIte, Int.reduceEq, Int.reduceLT, Int.reduceLE, Nat.reduceAdd]
    refine nK dq (m := 60) (by omega) r4 (by omega) g4.fr fun H5 a5 r5 => ?_
    have na5 := a5.next
    have w5 : IntKind.wrap .i64 (2 + ((hd t % 60 : Nat) : Int)) = ((2 + hd t % 60 : Nat) : Int) := by rw [wrapI64 (by omega) (by omega)]; omega
    obtain ⟨H6, s6, g6, k6, n6⟩ := (g4.ax hr a5).store (o := 5) (v := .int .i64 ((2 + hd t % 60 : Nat) : Int)) rfl (by simp [ActP.cs])
    have o6 := okp (oax o4 (by omega) a5) k6
    simp only [e0, w5, wp_store, s6, SX, reduceCtorEq, Nat.reduceEqDiff, ↓reduceIte, Int.reduceEq, Int.reduceLT, Int.reduceLE, Nat.reduceAdd]
    refine nK dq (m := 20) (by omega) (r5.keep hr k6 (by omega)) (by omega) g6.fr fun H7 a7 r7 => ?_
    have na7 := a7.next
    have w7 : IntKind.wrap .i64 (2 + ((hd t.tail % 20 : Nat) : Int)) = ((2 + hd t.tail % 20 : Nat) : Int) := by rw [wrapI64 (by omega) (by omega)]; omega
    obtain ⟨H8, s8, g8, k8, n8⟩ := (g6.ax hr a7).store (o := 6) (v := .int .i64 ((2 + hd t.tail % 20 : Nat) : Int)) rfl (by simp [ActP.cs])
    obtain ⟨H10, l10, s10, l10', kk⟩ := fin ⟨3, cl, ⟨0, 0, 0⟩, ((2 + hd t % 60 : Nat) : Int), ((2 + hd t.tail % 20 : Nat) : Int), 0, []⟩ t.tail.tail (by unfold actT; rw [hk, if_neg c7, if_neg c9, if_neg c13, if_pos ce]) (by unfold actT; rw [hk, if_neg c7, if_neg c9, if_neg c13, if_pos ce]) H8 g8 (okp (oax o6 (by omega) a7) k8) (by omega) ((r7.keep hr k8 (by omega)).le (by omega))
    simp only [e6, e9, w7, wp_store, s8, l10, s10, A13, resCellT, l10', SX, reduceCtorEq, Nat.reduceEqDiff, ↓reduceIte, Int.reduceEq, Int.reduceLT, Int.reduceLE, Nat.reduceAdd]
    exact kk
  have de : ¬ (k : Int) = 13 := by omega
  by_cases cf : k = 15
  · have df : (k : Int) = 15 := by omega
    simp only [e0, e1, d7, d9, d13, de, df, SX, reduceCtorEq, Nat.reduceEqDiff, ↓reduceIte, Int.reduceEq, Int.reduceLT, Int.reduceLE, Nat.reduceAdd]
    refine nK dq hm r3 (by omega) g3.fr fun H4 a4 r4 => ?_
    have na4 := a4.next
    have bv : buildV zero9 [(0, 1, .int .u8 6), (7, 1, .int .i64 ((hd t % lm : Nat) : Int))] = some (.agg (ActP.cs ⟨6, 0, ⟨0, 0, 0⟩, 0, 0, ((hd t % lm : Nat) : Int), []⟩)) := rfl
    unfold zero9 at bv
    obtain ⟨H5, s5, g5, k5, n5⟩ := (g3.ax hr a4).storeN (n := 9) (new := ActP.cs ⟨6, 0, ⟨0, 0, 0⟩, 0, 0, ((hd t % lm : Nat) : Int), []⟩) rfl rfl rfl
    have o5 := okp (oax o3 (by omega) a4) k5
    simp only [e0, run_build, bv, wp_store, s5, SX, reduceCtorEq, Nat.reduceEqDiff, ↓reduceIte, Int.reduceEq, Int.reduceLT, Int.reduceLE, Nat.reduceAdd]
    refine (dtext_spec dq (m := 9) (by omega) (by omega) (r4.keep hr k5 (by omega)) (by omega) g5.fr).mono ?_
    rintro _ H6 ⟨rfl, a6, r6⟩
    have na6 := a6.next
    obtain ⟨H8, s8, g8, k8, n8⟩ := (g5.ax hr a6).store (o := 8) (v := .str (rdN (hd t.tail % 9) t.tail.tail)) rfl (by simp [ActP.cs])
    obtain ⟨H10, l10, s10, l10', kk⟩ := fin ⟨6, 0, ⟨0, 0, 0⟩, 0, 0, ((hd t % lm : Nat) : Int), rdN (hd t.tail % 9) t.tail.tail⟩ (t.tail.tail.drop (hd t.tail % 9)) (by unfold actT; rw [hk, if_neg c7, if_neg c9, if_neg c13, if_neg ce, if_pos cf]) (by unfold actT; rw [hk, if_neg c7, if_neg c9, if_neg c13, if_neg ce, if_pos cf]) H8 g8 (okp (oax o5 (by omega) a6) k8) (by omega) ((r6.keep hr k8 (by omega)).le (by omega))
    simp only [e6, e9, wp_store, s8, l10, s10, A13, resCellT, l10', SX, reduceCtorEq, Nat.reduceEqDiff, ↓reduceIte, Int.reduceEq, Int.reduceLT, Int.reduceLE, Nat.reduceAdd]
    exact kk
  have df : ¬ (k : Int) = 15 := by omega
  have bv4 : buildV zero9 [(0, 1, .int .u8 4)] = some (.agg (ActP.cs ⟨4, 0, ⟨0, 0, 0⟩, 0, 0, 0, []⟩)) := rfl
  have bv5 : buildV zero9 [(0, 1, .int .u8 5), (7, 1, .int .i64 (cl : Int))] = some (.agg (ActP.cs ⟨5, 0, ⟨0, 0, 0⟩, 0, 0, cl, []⟩)) := rfl
  unfold zero9 at bv4 bv5
  by_cases c0 : cl = 0
  · have d0 : (cl : Int) = 0 := by omega
    simp only [e0, e1, d7, d9, d13, de, df, d0, SX, reduceCtorEq, Nat.reduceEqDiff, ↓reduceIte, Int.reduceEq, Int.reduceLT, Int.reduceLE, Nat.reduceAdd]
    refine nK dq (m := 4) (by omega) r3 (by omega) g3.fr fun H4 a4 r4 => ?_
    have na4 := a4.next
    have o4 := oax o3 (by omega) a4
    by_cases c4 : hd t % 4 = 0
    · have d4 : ((hd t % 4 : Nat) : Int) = 0 := by omega
      obtain ⟨H7, s7, l7, kk⟩ := fin0 ⟨4, 0, ⟨0, 0, 0⟩, 0, 0, 0, []⟩ t.tail (by unfold actT; rw [hk, if_neg c7, if_neg c9, if_neg c13, if_neg ce, if_neg cf, if_pos c0, if_pos c4]) (by unfold actT; rw [hk, if_neg c7, if_neg c9, if_neg c13, if_neg ce, if_neg cf, if_pos c0, if_pos c4]) H4 _ (g3.ax hr a4) o4 (by omega) (r4.le (by omega))
      simp only [e6, e9, d4, run_build, bv4, wp_store, s7, A13, resCellT, l7, SX, reduceCtorEq, Nat.reduceEqDiff, ↓reduceIte, Int.reduceEq, Int.reduceLT, Int.reduceLE, Nat.reduceAdd]
      exact kk
    · have d4 : ((hd t % 4 : Nat) : Int) = 0 ↔ False := ⟨fun hh => c4 (by omega), False.elim⟩
      obtain ⟨H7, s7, l7, kk⟩ := fin0 ⟨5, 0, ⟨0, 0, 0⟩, 0, 0, cl, []⟩ t.tail (by unfold actT; rw [hk, if_neg c7, if_neg c9, if_neg c13, if_neg ce, if_neg cf, if_pos c0, if_neg c4]) (by unfold actT; rw [hk, if_neg c7, if_neg c9, if_neg c13, if_neg ce, if_neg cf, if_pos c0, if_neg c4]) H4 _ (g3.ax hr a4) o4 (by omega) (r4.le (by omega))
      rw [d0] at bv5 s7 l7 kk
      simp only [e6, e9, d4, run_build, bv5, wp_store, s7, A13, resCellT, l7, SX, reduceCtorEq, Nat.reduceEqDiff, ↓reduceIte, Int.reduceEq, Int.reduceLT, Int.reduceLE, Nat.reduceAdd]
      exact kk
  · have d0 : (cl : Int) = 0 ↔ False := ⟨fun hh => c0 (by omega), False.elim⟩
    obtain ⟨H7, s7, l7, kk⟩ := fin0 ⟨5, 0, ⟨0, 0, 0⟩, 0, 0, cl, []⟩ t (by unfold actT; rw [hk, if_neg c7, if_neg c9, if_neg c13, if_neg ce, if_neg cf, if_neg c0]) (by unfold actT; rw [hk, if_neg c7, if_neg c9, if_neg c13, if_neg ce, if_neg cf, if_neg c0]) H3 _ g3 o3 (by omega) (r3.le (by omega))
    simp only [e0, e1, e6, e9, d7, d9, d13, de, df, d0, wantV_undef, run_build, bv5, wp_store, s7, A13, resCellT, l7, SX, reduceCtorEq, Nat.reduceEqDiff, ↓reduceIte, Int.reduceEq, Int.reduceLT, Int.reduceLE, Nat.reduceAdd]
    exact kk
set_option maxHeartbeats 2000000 in
theorem dact_spec {rb L C c : Nat} {v : AV} {bs s : List UInt8} (hL : 0 < L) (hL2 : L ≤ 256) (hC : 0 < C) (hC2 : C ≤ 256) (h : RdD rb v bs c H s) (hc : c ≤ 30000) (hf : Fr H) :
    FnTo Q 13 [.ptr rb 0, .int .i64 (L : Int), .int .i64 (C : Int)] H (fun r H' => (∃ w, r = .tup [.agg (actP L C s).1.cs, .bool w]) ∧ Ax rb H H' ∧ RdD rb v bs (c + 61) H' (actP L C s).2) := by
  refine fn_wp (dq.sq.ho 13 rfl _) dq.d13 (by simp [A13]) ?_
  have rlt := h.lt
  obtain ⟨H1, s1, g1, k1⟩ := (Hp.nil H hf).make zero9 9
  have n1 : H1.next = H.next + 1 := by rw [← s1]; rfl
  unfold zero9 at s1
  simp only [A13, run_allocL, val_ptr, s1, SX, reduceCtorEq, Nat.reduceEqDiff, ↓reduceIte, Int.reduceEq, Int.reduceLT, Int.reduceLE, Nat.reduceAdd]
  refine nK dq (m := 256) (by omega) (h.keep h.lt k1 (by omega)) (by omega) g1.fr fun H2 a2 r2 => ?_
  have g2 := g1.ax h.lt a2
  have na2 := a2.next
  have hb : hd s % 256 = hd s := Nat.mod_eq_of_lt (hd_lt s)
  rw [hb]
  have fin : ∀ (r : ActP × List UInt8) (w : Bool), actP L C s = r → ∀ H', (∀ x, x < H.next → x ≠ rb → H'.get x = H2.get x) → H2.next ≤ H'.next → Fr H' → RdD rb v bs (c + 1 + 60) H' r.2 → ((∃ w', AV.tup [.agg r.1.cs, .bool w] = .tup [.agg (actP L C s).1.cs, .bool w']) ∧ Ax rb H H' ∧ RdD rb v bs (c + 61) H' (actP L C s).2) := by
    rintro r w rfl H' q1 q2 q3 q4
    refine ⟨⟨w, rfl⟩, ⟨fun x hx hxr => ?_, by omega, q3⟩, q4.le (by omega)⟩
    rw [q1 x hx hxr, a2.keep x (by omega) hxr, k1 x hx]
  by_cases cw : 240 ≤ hd s
  · have dw : (240 : Int) ≤ (hd s : Int) := by omega
    simp only [dw, SX, reduceCtorEq, Nat.reduceEqDiff, ↓reduceIte, Int.reduceEq, Int.reduceLT, Int.reduceLE, Nat.reduceAdd]
    refine dactT_spec dq (b := hd s) (lm := 256) (cm := 256) (tl := [33]) (wild := true) (base := H.next) (hd_lt s) (by omega) (by omega) (by omega) (by omega) (by simp) r2 (by omega) h.lt g2 (by first | (simp only [SG, reduceCtorEq, Nat.reduceEqDiff, ↓reduceIte] <;> rfl) | rfl) (by first | (simp only [SG, reduceCtorEq, Nat.reduceEqDiff, ↓reduceIte] <;> rfl) | rfl) (by first | (simp only [SG, reduceCtorEq, Nat.reduceEqDiff, ↓reduceIte] <;> rfl) | rfl) (by first | (simp only [SG, reduceCtorEq, Nat.reduceEqDiff, ↓reduceIte] <;> rfl) | rfl) (by first | (simp only [SG, reduceCtorEq, Nat.reduceEqDiff, ↓reduceIte] <;> rfl) | rfl) (by first | (simp only [SG, reduceCtorEq, Nat.reduceEqDiff, ↓reduceIte] <;> rfl) | rfl) (by first | (simp only [SG, reduceCtorEq, Nat.reduceEqDiff, ↓reduceIte] <;> rfl) | rfl) ?_
    refine fin _ _ ?_
    unfold actP; rw [if_pos cw]
  · have dw : ¬ (240 : Int) ≤ (hd s : Int) := by omega
    simp only [dw, SX, reduceCtorEq, Nat.reduceEqDiff, ↓reduceIte, Int.reduceEq, Int.reduceLT, Int.reduceLE, Nat.reduceAdd]
    refine dactT_spec dq (b := hd s) (lm := L) (cm := C) (tl := []) (wild := false) (base := H.next) (hd_lt s) hL hL2 hC hC2 (by simp) r2 (by omega) h.lt g2 (by first | (simp only [SG, reduceCtorEq, Nat.reduceEqDiff, ↓reduceIte] <;> rfl) | rfl) (by first | (simp only [SG, reduceCtorEq, Nat.reduceEqDiff, ↓reduceIte] <;> rfl) | rfl) (by first | (simp only [SG, reduceCtorEq, Nat.reduceEqDiff, ↓reduceIte] <;> rfl) | rfl) (by first | (simp only [SG, reduceCtorEq, Nat.reduceEqDiff, ↓reduceIte] <;> rfl) | rfl) (by first | (simp only [SG, reduceCtorEq, Nat.reduceEqDiff, ↓reduceIte] <;> rfl) | rfl) (by first | (simp only [SG, reduceCtorEq, Nat.reduceEqDiff, ↓reduceIte] <;> rfl) | rfl) (by first | (simp only [SG, reduceCtorEq, Nat.reduceEqDiff, ↓reduceIte] <;> rfl) | rfl) ?_
    refine fin _ _ ?_
    unfold actP; rw [if_neg cw]
end
end Go.Proofs.YtdkpmlhbofgfdaaGreatDoor.AM
