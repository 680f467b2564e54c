/-
  The document's command lines and acts: walked.
-/
import Derived.Test.YtdkpmlhbofgfdaaGreatDoorSdA
set_option linter.unusedVariables false
set_option linter.unusedSimpArgs false
namespace Go.Proofs.YtdkpmlhbofgfdaaGreatDoor.AM
open Go
theorem gr_ax {rb : Nat} {H H1 H2 : AHeap} (a : Ax rb H H1) (g : Gr H1 H2) : Ax rb H H2 := a.trans (g.ax rb)
theorem cmd_take {lm : Nat} (h0 : 0 < lm) (h1 : lm ≤ 256) {i j : Nat} (hi : i < 53) (s : List UInt8) (hj : j ≤ 3) : (nm i ++ tailS 32 (((((fm i).take j).foldl (argS (nm i) lm) ([], s)).1).map Arg.w)).length ≤ 63 := by
  have hf := fun f (h : f ∈ fm i) => form_f hi h
  have hf' : ∀ f ∈ (fm i).take j, f = 108 ∨ f = 110 ∨ f = 112 ∨ f = 116 := fun f h => hf f (List.mem_of_mem_take h)
  have he := argsP_each (nm i) h0 h1 ((fm i).take j) hf' s
  have hl : (argsP (nm i) lm ((fm i).take j) s).1.length ≤ 3 := by
    have := congrArg List.length (argsP_f (nm i) h0 h1 ((fm i).take j) hf' s)
    rw [List.length_map, List.length_take] at this; omega
  have h2 := tailS_len (c := 32) (m := 15) (ws := (argsP (nm i) lm ((fm i).take j) s).1.map Arg.w) (fun w hw => by
    obtain ⟨a, ha, rfl⟩ := List.mem_map.1 hw
    exact w_len (he a ha))
  rw [List.length_map] at h2
  have h3 := (nm_ok hi).2
  have h4 : (argsP (nm i) lm ((fm i).take j) s).1.length * (15 + 1) ≤ 3 * 16 := Nat.mul_le_mul_right _ hl
  show (nm i ++ tailS 32 ((argsP (nm i) lm ((fm i).take j) s).1.map Arg.w)).length ≤ 63
  rw [List.length_append]; omega
section
variable {Q : Prog} (dq : SdQ Q) {H : AHeap}
include dq
set_option maxHeartbeats 8000000 in
theorem dline_spec {rb lm c : Nat} {v : AV} {bs s : List UInt8} (hm : 0 < lm) (hm2 : lm ≤ 256) (h : RdD rb v bs c H s) (hc : c ≤ 50000) (hf : Fr H) :
    FnTo Q 23 [.ptr rb 0, .int .i64 (lm : Int)] H (fun r H' => r = .str (cmdS lm s) ∧ Ax rb H H' ∧ RdD rb v bs (c + 22) H' (cmdR lm s)) := by
  refine fn_wp (dq.sq.ho 23 rfl _) dq.d23 (by simp [A23]) ?_
  obtain ⟨hxs, hform⟩ := cmd_args hm hm2 s
  have hi : cmdI s < 53 := Nat.mod_lt _ (by omega)
  have rlt := h.lt
  simp only [A23, SX, reduceCtorEq, Nat.reduceEqDiff, ↓reduceIte, Int.reduceEq, Int.reduceLT, Int.reduceLE, Nat.reduceAdd]
  refine (dnames_spec dq hf).mono ?_
  rintro _ _ ⟨rfl, rfl⟩
  obtain ⟨H1, s1, g1, k1⟩ := (Hp.nil H hf).make namesL.flatten 1
  have n1 : H1.next = H.next + 1 := by rw [← s1]; rfl
  rw [s1]
  simp only [SX, reduceCtorEq, Nat.reduceEqDiff, ↓reduceIte, Int.reduceEq, Int.reduceLT, Int.reduceLE, Nat.reduceAdd]
  refine nK dq (m := 53) (by omega) (h.keep h.lt k1 (by omega)) (by omega) g1.fr fun H2 a2 r2 => ?_
  have g2 := g1.ax h.lt a2
  have a02 : Ax rb H H2 := ((Ax.refl hf).keepT k1 (by omega) g1.fr).trans a2
  obtain ⟨_, ldn⟩ := g2.rowAt (List.mem_cons_self ..) namesL_len (namesL_at hi)
  have ldn := ldn 0 _ rfl
  rw [Nat.add_zero] at ldn
  have ix := idxSV_k (b := H.next) (n := 53) (cap := 53) (k := 1) (kd := .i64) hi
  have ix' : idxSV 1 (.slc H.next 0 53 53) (.int .i64 ((hd s % 53 : Nat) : Int)) = some (.ptr H.next (cmdI s * 1)) := ix
  simp only [ix', ldn, SX, reduceCtorEq, Nat.reduceEqDiff, ↓reduceIte, Int.reduceEq, Int.reduceLT, Int.reduceLE, Nat.reduceAdd]
  refine (dform_spec dq hi).mono ?_
  rintro _ _ ⟨rfl, eH⟩
  rw [eH]
  simp only [ext20, ext21, A23_rest, SX, reduceCtorEq, Nat.reduceEqDiff, ↓reduceIte, Int.reduceEq, Int.reduceLT, Int.reduceLE, Nat.reduceAdd]
  have hfl : (fm (cmdI s)).length ≤ 3 := by rw [hform, List.length_map]; exact hxs.len
  obtain ⟨I, hI⟩ : ∃ I : Nat → Env → AHeap → Prop, ∀ q e H', I q e H' ↔ (∃ j st, q = (fm (cmdI s)).length - j ∧ j ≤ (fm (cmdI s)).length ∧ st = ((fm (cmdI s)).take j).foldl (argS (nm (cmdI s)) lm) ([], s.tail) ∧ Ax rb H H' ∧ RdD rb v bs (c + 1 + 7 * j) H' st.2 ∧
      Env.get e 0 = .ptr rb 0 ∧ Env.get e 1 = .int .i64 (lm : Int) ∧ Env.get e 5 = .str (nm (cmdI s)) ∧ Env.get e 6 = .str (fm (cmdI s)) ∧ Env.get e 8 = .str (nm (cmdI s) ++ tailS 32 (st.1.map Arg.w)) ∧ Env.get e 9 = .int .i64 (j : Int)) := ⟨_, fun _ _ _ => Iff.rfl⟩
  refine loop_by I (fm (cmdI s)).length ?_ ?_
  · refine (hI _ _ _).2 ⟨0, ([], s.tail), rfl, by omega, rfl, a02, r2, (by first | (simp only [SG, reduceCtorEq, Nat.reduceEqDiff, ↓reduceIte] <;> rfl) | rfl), (by first | (simp only [SG, reduceCtorEq, Nat.reduceEqDiff, ↓reduceIte] <;> rfl) | rfl), (by first | (simp only [SG, reduceCtorEq, Nat.reduceEqDiff, ↓reduceIte] <;> rfl) | rfl), (by first | (simp only [SG, reduceCtorEq, Nat.reduceEqDiff, ↓reduceIte] <;> rfl) | rfl), ?_, (by first | (simp only [SG, reduceCtorEq, Nat.reduceEqDiff, ↓reduceIte] <;> rfl) | rfl)⟩
    simp only [List.map_nil, tailS, List.flatMap_nil, List.append_nil, SG, reduceCtorEq, Nat.reduceEqDiff, ↓reduceIte]
  · intro m' e H3 hinv
    obtain ⟨j, st, rfl, hj, hst, a3, r3, e0, e1, e5, e6, e8, e9⟩ := (hI _ _ _).1 hinv
    by_cases d : (j : Int) < ((fm (cmdI s)).length : Int)
    · obtain ⟨f, hfj⟩ : ∃ f, (fm (cmdI s))[j]? = some f := ⟨_, List.getElem?_eq_getElem (by omega)⟩
      have ff := form_f hi (List.mem_of_getElem? hfj)
      have hst2 : argS (nm (cmdI s)) lm st f = ((fm (cmdI s)).take (j + 1)).foldl (argS (nm (cmdI s)) lm) ([], s.tail) := by
        rw [take_snoc hfj, List.foldl_append, ← hst]; rfl
      have w1 : IntKind.wrap .i64 ((j : Int) + 1) = ((j + 1 : Nat) : Int) := wrapNat (n := j + 1) (by omega)
      have ll := cmd_take hm hm2 hi s.tail (show j ≤ 3 by omega)
      rw [← hst] at ll
      have tsn : nm (cmdI s) ++ tailS 32 ((argS (nm (cmdI s)) lm st f).1.map Arg.w) = (nm (cmdI s) ++ tailS 32 (st.1.map Arg.w) ++ [32]) ++ (argA (nm (cmdI s)) lm f st.2).w := by
        simp only [argS, List.map_append, List.map_cons, List.map_nil, tailS_snoc]; simp
      obtain ⟨x, hx⟩ : ∃ x, nm (cmdI s) ++ tailS 32 (st.1.map Arg.w) = x := ⟨_, rfl⟩
      rw [hx] at ll e8 tsn
      have ad1 := bin_adds x [32] (by simp only [List.length_append, List.length_cons, List.length_nil]; omega)
      have next : ∀ H8, Ax rb H H8 → RdD rb v bs (c + 1 + 7 * (j + 1)) H8 (argR f st.2) → ∀ e', Env.get e' 0 = .ptr rb 0 → Env.get e' 1 = .int .i64 (lm : Int) → Env.get e' 5 = .str (nm (cmdI s)) → Env.get e' 6 = .str (fm (cmdI s)) → Env.get e' 8 = .str ((x ++ [32]) ++ (argA (nm (cmdI s)) lm f st.2).w) → Env.get e' 9 = .int .i64 ((j + 1 : Nat) : Int) → ∃ m', m' < (fm (cmdI s)).length - j ∧ I m' e' H8 := by
        intro H8 a8 r8 e' q0 q1 q5 q6 q8 q9
        refine ⟨(fm (cmdI s)).length - (j + 1), by omega, (hI _ _ _).2 ⟨j + 1, _, rfl, by omega, hst2, a8, r8, q0, q1, q5, q6, ?_, q9⟩⟩
        rw [q8, tsn]
      have wl := w_len (argA_ok (nm (cmdI s)) hm hm2 ff st.2).1
      rcases ff with rfl | rfl | rfl | rfl
      · have is : idxStrV (.str (fm (cmdI s))) (.int .i64 (j : Int)) = some (.int .u8 108) := idxStr_at hfj .i64
        simp only [A23_lp, A23_sw, e0, e1, e5, e6, e8, e9, lngV_str, d, is, ad1, SX, reduceCtorEq, Nat.reduceEqDiff, ↓reduceIte, Int.reduceEq, Int.reduceLT, Int.reduceLE, Nat.reduceAdd]
        refine nK dq hm r3 (by omega) a3.fr fun H4 a4 r4 => ?_
        have mn := mnmxV2min .i64 ((hd st.2 % lm : Nat) : Int) 63
        simp only [run_mnmx, mn, SX, reduceCtorEq, Nat.reduceEqDiff, ↓reduceIte, Int.reduceEq, Int.reduceLT, Int.reduceLE, Nat.reduceAdd]
        refine (digZ_spec dq (n := min ((hd st.2 % lm : Nat) : Int) 63) (by omega) (by omega) a4.fr).mono ?_
        rintro _ H5 ⟨rfl, g5⟩
        have ad2 := bin_adds (x ++ [32]) (decZ (min ((hd st.2 % lm : Nat) : Int) 63)) (by
          have : (argA (nm (cmdI s)) lm 108 st.2).w = decZ (min ((hd st.2 % lm : Nat) : Int) 63) := rfl
          rw [this] at wl; simp only [List.length_append, List.length_cons, List.length_nil]; omega)
        simp only [e9, ad2, w1, SX, reduceCtorEq, Nat.reduceEqDiff, ↓reduceIte, Int.reduceEq, Int.reduceLT, Int.reduceLE, Nat.reduceAdd]
        exact next H5 (gr_ax (a3.trans a4) g5) ((r4.gr g5).le (by omega)) _ (by simp only [SG, reduceCtorEq, Nat.reduceEqDiff, ↓reduceIte, e0] <;> rfl) (by simp only [SG, reduceCtorEq, Nat.reduceEqDiff, ↓reduceIte, e1] <;> rfl) (by simp only [SG, reduceCtorEq, Nat.reduceEqDiff, ↓reduceIte, e5] <;> rfl) (by simp only [SG, reduceCtorEq, Nat.reduceEqDiff, ↓reduceIte, e6] <;> rfl) (by first | (simp only [SG, reduceCtorEq, Nat.reduceEqDiff, ↓reduceIte] <;> rfl) | rfl) (by first | (simp only [SG, reduceCtorEq, Nat.reduceEqDiff, ↓reduceIte] <;> rfl) | rfl)
      · have is : idxStrV (.str (fm (cmdI s))) (.int .i64 (j : Int)) = some (.int .u8 110) := idxStr_at hfj .i64
        have b1 := bin_eqs (nm (cmdI s)) bindS
        have b2 := bin_eqs (nm (cmdI s)) unbindS
        have b3 := bin_eqs (nm (cmdI s)) moveS
        have wA : (argA (nm (cmdI s)) lm 110 st.2).w = decZ (numP (nm (cmdI s)) (hd st.2)) := rfl
        rw [wA] at wl
        obtain ⟨nb0, nb1⟩ := numP_b (nm (cmdI s)) (hd st.2)
        have npe : numP (nm (cmdI s)) (hd st.2) = bif decide (nm (cmdI s) = bindS) || decide (nm (cmdI s) = unbindS) then ((hd st.2 % 128 : Nat) : Int) else bif decide (nm (cmdI s) = moveS) then ((hd st.2 % 9 : Nat) : Int) - 4 else ((hd st.2 % 8 : Nat) : Int) := rfl
        have ad2 := bin_adds (x ++ [32]) (decZ (numP (nm (cmdI s)) (hd st.2))) (by simp only [List.length_append, List.length_cons, List.length_nil]; omega)
        have fin : ∀ H4, Ax rb H3 H4 → RdD rb v bs (c + 1 + 7 * j + 1) H4 st.2.tail → ∀ H5, Gr H4 H5 → ∀ e', Env.get e' 0 = .ptr rb 0 → Env.get e' 1 = .int .i64 (lm : Int) → Env.get e' 5 = .str (nm (cmdI s)) → Env.get e' 6 = .str (fm (cmdI s)) → Env.get e' 8 = .str ((x ++ [32]) ++ decZ (numP (nm (cmdI s)) (hd st.2))) → Env.get e' 9 = .int .i64 ((j + 1 : Nat) : Int) → ∃ m', m' < (fm (cmdI s)).length - j ∧ I m' e' H5 := by
          intro H4 a4 r4 H5 g5 e' q0 q1 q5 q6 q8 q9
          exact next H5 (gr_ax (a3.trans a4) g5) ((r4.gr g5).le (by omega)) e' q0 q1 q5 q6 q8 q9
        unfold bindS at b1
        unfold unbindS at b2
        unfold moveS at b3
        unfold bindS unbindS moveS at npe
        generalize decide (nm (cmdI s) = [98, 105, 110, 100]) = p1 at b1 npe
        generalize decide (nm (cmdI s) = [117, 110, 98, 105, 110, 100]) = p2 at b2 npe
        generalize decide (nm (cmdI s) = [99, 111, 112, 121, 45, 109, 111, 118, 101]) = p3 at b3 npe
        generalize hN : numP (nm (cmdI s)) (hd st.2) = N at *
        cases p1
        · cases p2
          · cases p3
            · have hNN : N = ((hd st.2 % 8 : Nat) : Int) := npe
              simp only [A23_lp, A23_sw, e0, e1, e5, e6, e8, e9, lngV_str, d, is, ad1, b1, b2, b3, SX, reduceCtorEq, Nat.reduceEqDiff, ↓reduceIte, Int.reduceEq, Int.reduceLT, Int.reduceLE, Nat.reduceAdd]
              refine nK dq (m := 8) (by omega) r3 (by omega) a3.fr fun H4 a4 r4 => ?_
              rw [← hNN]
              simp only [SX, reduceCtorEq, Nat.reduceEqDiff, ↓reduceIte, Int.reduceEq, Int.reduceLT, Int.reduceLE, Nat.reduceAdd]
              refine (digZ_spec dq nb0 nb1 a4.fr).mono ?_
              rintro _ H5 ⟨rfl, g5⟩
              simp only [e9, ad2, w1, SX, reduceCtorEq, Nat.reduceEqDiff, ↓reduceIte, Int.reduceEq, Int.reduceLT, Int.reduceLE, Nat.reduceAdd]
              exact fin H4 a4 r4 H5 g5 _ (by simp only [SG, reduceCtorEq, Nat.reduceEqDiff, ↓reduceIte, e0] <;> rfl) (by simp only [SG, reduceCtorEq, Nat.reduceEqDiff, ↓reduceIte, e1] <;> rfl) (by simp only [SG, reduceCtorEq, Nat.reduceEqDiff, ↓reduceIte, e5] <;> rfl) (by simp only [SG, reduceCtorEq, Nat.reduceEqDiff, ↓reduceIte, e6] <;> rfl) (by first | (simp only [SG, reduceCtorEq, Nat.reduceEqDiff, ↓reduceIte] <;> rfl) | rfl) (by first | (simp only [SG, reduceCtorEq, Nat.reduceEqDiff, ↓reduceIte] <;> rfl) | rfl)
            · have hNN : N = ((hd st.2 % 9 : Nat) : Int) - 4 := npe
              have w9 : IntKind.wrap .i64 (((hd st.2 % 9 : Nat) : Int) - 4) = N := by rw [hNN]; exact wrapI64 (by omega) (by omega)
              simp only [A23_lp, A23_sw, e0, e1, e5, e6, e8, e9, lngV_str, d, is, ad1, b1, b2, b3, SX, reduceCtorEq, Nat.reduceEqDiff, ↓reduceIte, Int.reduceEq, Int.reduceLT, Int.reduceLE, Nat.reduceAdd]
              refine nK dq (m := 9) (by omega) r3 (by omega) a3.fr fun H4 a4 r4 => ?_
              simp only [w9, SX, reduceCtorEq, Nat.reduceEqDiff, ↓reduceIte, Int.reduceEq, Int.reduceLT, Int.reduceLE, Nat.reduceAdd]
              refine (digZ_spec dq nb0 nb1 a4.fr).mono ?_
              rintro _ H5 ⟨rfl, g5⟩
              simp only [e9, ad2, w1, SX, reduceCtorEq, Nat.reduceEqDiff, ↓reduceIte, Int.reduceEq, Int.reduceLT, Int.reduceLE, Nat.reduceAdd]
              exact fin H4 a4 r4 H5 g5 _ (by simp only [SG, reduceCtorEq, Nat.reduceEqDiff, ↓reduceIte, e0] <;> rfl) (by simp only [SG, reduceCtorEq, Nat.reduceEqDiff, ↓reduceIte, e1] <;> rfl) (by simp only [SG, reduceCtorEq, Nat.reduceEqDiff, ↓reduceIte, e5] <;> rfl) (by simp only [SG, reduceCtorEq, Nat.reduceEqDiff, ↓reduceIte, e6] <;> rfl) (by first | (simp only [SG, reduceCtorEq, Nat.reduceEqDiff, ↓reduceIte] <;> rfl) | rfl) (by first | (simp only [SG, reduceCtorEq, Nat.reduceEqDiff, ↓reduceIte] <;> rfl) | rfl)
          · have hNN : N = ((hd st.2 % 128 : Nat) : Int) := npe
            simp only [A23_lp, A23_sw, e0, e1, e5, e6, e8, e9, lngV_str, d, is, ad1, b1, b2, SX, reduceCtorEq, Nat.reduceEqDiff, ↓reduceIte, Int.reduceEq, Int.reduceLT, Int.reduceLE, Nat.reduceAdd]
            refine nK dq (m := 128) (by omega) r3 (by omega) a3.fr fun H4 a4 r4 => ?_
            rw [← hNN]
            simp only [SX, reduceCtorEq, Nat.reduceEqDiff, ↓reduceIte, Int.reduceEq, Int.reduceLT, Int.reduceLE, Nat.reduceAdd]
            refine (digZ_spec dq nb0 nb1 a4.fr).mono ?_
            rintro _ H5 ⟨rfl, g5⟩
            simp only [e9, ad2, w1, SX, reduceCtorEq, Nat.reduceEqDiff, ↓reduceIte, Int.reduceEq, Int.reduceLT, Int.reduceLE, Nat.reduceAdd]
            exact fin H4 a4 r4 H5 g5 _ (by simp only [SG, reduceCtorEq, Nat.reduceEqDiff, ↓reduceIte, e0] <;> rfl) (by simp only [SG, reduceCtorEq, Nat.reduceEqDiff, ↓reduceIte, e1] <;> rfl) (by simp only [SG, reduceCtorEq, Nat.reduceEqDiff, ↓reduceIte, e5] <;> rfl) (by simp only [SG, reduceCtorEq, Nat.reduceEqDiff, ↓reduceIte, e6] <;> rfl) (by first | (simp only [SG, reduceCtorEq, Nat.reduceEqDiff, ↓reduceIte] <;> rfl) | rfl) (by first | (simp only [SG, reduceCtorEq, Nat.reduceEqDiff, ↓reduceIte] <;> rfl) | rfl)
        · have hNN : N = ((hd st.2 % 128 : Nat) : Int) := npe
          simp only [A23_lp, A23_sw, e0, e1, e5, e6, e8, e9, lngV_str, d, is, ad1, b1, wantV_undef, SX, reduceCtorEq, Nat.reduceEqDiff, ↓reduceIte, Int.reduceEq, Int.reduceLT, Int.reduceLE, Nat.reduceAdd]
          refine nK dq (m := 128) (by omega) r3 (by omega) a3.fr fun H4 a4 r4 => ?_
          rw [← hNN]
          simp only [SX, reduceCtorEq, Nat.reduceEqDiff, ↓reduceIte, Int.reduceEq, Int.reduceLT, Int.reduceLE, Nat.reduceAdd]
          refine (digZ_spec dq nb0 nb1 a4.fr).mono ?_
          rintro _ H5 ⟨rfl, g5⟩
          simp only [e9, ad2, w1, SX, reduceCtorEq, Nat.reduceEqDiff, ↓reduceIte, Int.reduceEq, Int.reduceLT, Int.reduceLE, Nat.reduceAdd]
          exact fin H4 a4 r4 H5 g5 _ (by simp only [SG, reduceCtorEq, Nat.reduceEqDiff, ↓reduceIte, e0] <;> rfl) (by simp only [SG, reduceCtorEq, Nat.reduceEqDiff, ↓reduceIte, e1] <;> rfl) (by simp only [SG, reduceCtorEq, Nat.reduceEqDiff, ↓reduceIte, e5] <;> rfl) (by simp only [SG, reduceCtorEq, Nat.reduceEqDiff, ↓reduceIte, e6] <;> rfl) (by first | (simp only [SG, reduceCtorEq, Nat.reduceEqDiff, ↓reduceIte] <;> rfl) | rfl) (by first | (simp only [SG, reduceCtorEq, Nat.reduceEqDiff, ↓reduceIte] <;> rfl) | rfl)
      · have is : idxStrV (.str (fm (cmdI s))) (.int .i64 (j : Int)) = some (.int .u8 112) := idxStr_at hfj .i64
        have q1 := Nat.mod_lt (hd st.2) hm
        have q2 := Nat.mod_lt (hd st.2.tail) hm
        have la := (noC_at (n := ((hd st.2 % lm : Nat) : Int)) (by omega) (by omega)).2.2
        have lb := (noC_at (n := ((hd st.2.tail % lm : Nat) : Int)) (by omega) (by omega)).2.2
        have lc := (noC_at (n := ((hd st.2.tail.tail % 4 : Nat) : Int)) (by omega) (by omega)).2.2
        simp only [A23_lp, A23_sw, e0, e1, e5, e6, e8, e9, lngV_str, d, is, SX, reduceCtorEq, Nat.reduceEqDiff, ↓reduceIte, Int.reduceEq, Int.reduceLT, Int.reduceLE, Nat.reduceAdd]
        refine nK dq hm r3 (by omega) a3.fr fun H4 a4 r4 => ?_
        simp only [e0, e1, SX, reduceCtorEq, Nat.reduceEqDiff, ↓reduceIte, Int.reduceEq, Int.reduceLT, Int.reduceLE, Nat.reduceAdd]
        refine nK dq hm r4 (by omega) a4.fr fun H5 a5 r5 => ?_
        have b1 := bin_adds x [32, 112] (by simp only [List.length_append, List.length_cons, List.length_nil]; omega)
        simp only [e8, b1, SX, reduceCtorEq, Nat.reduceEqDiff, ↓reduceIte, Int.reduceEq, Int.reduceLT, Int.reduceLE, Nat.reduceAdd]
        refine (digZ_spec dq (n := ((hd st.2 % lm : Nat) : Int)) (by omega) (by omega) a5.fr).mono ?_
        rintro _ H6 ⟨rfl, g6⟩
        have b2 := bin_adds (x ++ [32, 112]) (decZ ((hd st.2 % lm : Nat) : Int)) (by simp only [List.length_append, List.length_cons, List.length_nil]; omega)
        have b3 := bin_adds (x ++ [32, 112] ++ decZ ((hd st.2 % lm : Nat) : Int)) [46] (by simp only [List.length_append, List.length_cons, List.length_nil]; omega)
        simp only [b2, b3, SX, reduceCtorEq, Nat.reduceEqDiff, ↓reduceIte, Int.reduceEq, Int.reduceLT, Int.reduceLE, Nat.reduceAdd]
        refine (digZ_spec dq (n := ((hd st.2.tail % lm : Nat) : Int)) (by omega) (by omega) g6.fr).mono ?_
        rintro _ H7 ⟨rfl, g7⟩
        have b4 := bin_adds (x ++ [32, 112] ++ decZ ((hd st.2 % lm : Nat) : Int) ++ [46]) (decZ ((hd st.2.tail % lm : Nat) : Int)) (by simp only [List.length_append, List.length_cons, List.length_nil]; omega)
        have b5 := bin_adds (x ++ [32, 112] ++ decZ ((hd st.2 % lm : Nat) : Int) ++ [46] ++ decZ ((hd st.2.tail % lm : Nat) : Int)) [46] (by simp only [List.length_append, List.length_cons, List.length_nil]; omega)
        simp only [e0, b4, b5, SX, reduceCtorEq, Nat.reduceEqDiff, ↓reduceIte, Int.reduceEq, Int.reduceLT, Int.reduceLE, Nat.reduceAdd]
        refine nK dq (m := 4) (by omega) ((r5.gr g6).gr g7) (by omega) g7.fr fun H8 a8 r8 => ?_
        simp only [SX, reduceCtorEq, Nat.reduceEqDiff, ↓reduceIte, Int.reduceEq, Int.reduceLT, Int.reduceLE, Nat.reduceAdd]
        refine (digZ_spec dq (n := ((hd st.2.tail.tail % 4 : Nat) : Int)) (by omega) (by omega) a8.fr).mono ?_
        rintro _ H9 ⟨rfl, g9⟩
        have b6 := bin_adds (x ++ [32, 112] ++ decZ ((hd st.2 % lm : Nat) : Int) ++ [46] ++ decZ ((hd st.2.tail % lm : Nat) : Int) ++ [46]) (decZ ((hd st.2.tail.tail % 4 : Nat) : Int)) (by simp only [List.length_append, List.length_cons, List.length_nil]; omega)
        have ew : x ++ [32, 112] ++ decZ ((hd st.2 % lm : Nat) : Int) ++ [46] ++ decZ ((hd st.2.tail % lm : Nat) : Int) ++ [46] ++ decZ ((hd st.2.tail.tail % 4 : Nat) : Int) = x ++ [32] ++ (argA (nm (cmdI s)) lm 112 st.2).w := by
          simp [argA, Arg.w, paneW, T3.l, joinW, tailS]
        rw [ew] at b6
        simp only [e9, b6, w1, SX, reduceCtorEq, Nat.reduceEqDiff, ↓reduceIte, Int.reduceEq, Int.reduceLT, Int.reduceLE, Nat.reduceAdd]
        exact next H9 (gr_ax ((gr_ax (gr_ax ((a3.trans a4).trans a5) g6) g7).trans a8) g9) ((r8.gr g9).le (by omega)) _ (by simp only [SG, reduceCtorEq, Nat.reduceEqDiff, ↓reduceIte, e0] <;> rfl) (by simp only [SG, reduceCtorEq, Nat.reduceEqDiff, ↓reduceIte, e1] <;> rfl) (by simp only [SG, reduceCtorEq, Nat.reduceEqDiff, ↓reduceIte, e5] <;> rfl) (by simp only [SG, reduceCtorEq, Nat.reduceEqDiff, ↓reduceIte, e6] <;> rfl) (by first | (simp only [SG, reduceCtorEq, Nat.reduceEqDiff, ↓reduceIte] <;> rfl) | rfl) (by first | (simp only [SG, reduceCtorEq, Nat.reduceEqDiff, ↓reduceIte] <;> rfl) | rfl)
      · have is : idxStrV (.str (fm (cmdI s))) (.int .i64 (j : Int)) = some (.int .u8 116) := idxStr_at hfj .i64
        simp only [A23_lp, A23_sw, e0, e1, e5, e6, e8, e9, lngV_str, d, is, ad1, SX, reduceCtorEq, Nat.reduceEqDiff, ↓reduceIte, Int.reduceEq, Int.reduceLT, Int.reduceLE, Nat.reduceAdd]
        refine nK dq (m := 6) (by omega) r3 (by omega) a3.fr fun H4 a4 r4 => ?_
        have wk : IntKind.wrap .i64 (1 + ((hd st.2 % 6 : Nat) : Int)) = ((1 + hd st.2 % 6 : Nat) : Int) := by rw [wrapI64 (by omega) (by omega)]; omega
        simp only [wk, SX, reduceCtorEq, Nat.reduceEqDiff, ↓reduceIte, Int.reduceEq, Int.reduceLT, Int.reduceLE, Nat.reduceAdd]
        obtain ⟨k, hk⟩ : ∃ k, 1 + hd st.2 % 6 = k := ⟨_, rfl⟩
        have hk6 : k ≤ 6 := by omega
        have ea : (argA (nm (cmdI s)) lm 116 st.2).w = rdW k st.2.tail := by rw [← hk]; rfl
        have er : argR 116 st.2 = st.2.tail.drop k := by rw [← hk]; rfl
        rw [hk]
        obtain ⟨J, hJ⟩ : ∃ J : Nat → Env → AHeap → Prop, ∀ q e H', J q e H' ↔ (∃ i, q = k - i ∧ i ≤ k ∧ Ax rb H H' ∧ RdD rb v bs (c + 1 + 7 * j + 1 + i) H' (st.2.tail.drop i) ∧ Env.get e 0 = .ptr rb 0 ∧ Env.get e 1 = .int .i64 (lm : Int) ∧ Env.get e 5 = .str (nm (cmdI s)) ∧ Env.get e 6 = .str (fm (cmdI s)) ∧ Env.get e 8 = .str (x ++ [32] ++ rdW i st.2.tail) ∧ Env.get e 9 = .int .i64 (j : Int) ∧ Env.get e 12 = .int .i64 (k : Int) ∧ Env.get e 13 = .int .i64 (i : Int)) := ⟨_, fun _ _ _ => Iff.rfl⟩
        refine loop_by J k ?_ ?_
        · refine (hJ _ _ _).2 ⟨0, rfl, by omega, a3.trans a4, r4, (by simp only [SG, reduceCtorEq, Nat.reduceEqDiff, ↓reduceIte, e0] <;> rfl), (by simp only [SG, reduceCtorEq, Nat.reduceEqDiff, ↓reduceIte, e1] <;> rfl), (by simp only [SG, reduceCtorEq, Nat.reduceEqDiff, ↓reduceIte, e5] <;> rfl), (by simp only [SG, reduceCtorEq, Nat.reduceEqDiff, ↓reduceIte, e6] <;> rfl), ?_, (by simp only [SG, reduceCtorEq, Nat.reduceEqDiff, ↓reduceIte, e9] <;> rfl), (by first | (simp only [SG, reduceCtorEq, Nat.reduceEqDiff, ↓reduceIte] <;> rfl) | rfl), (by first | (simp only [SG, reduceCtorEq, Nat.reduceEqDiff, ↓reduceIte] <;> rfl) | rfl)⟩
          have : rdW 0 st.2.tail = [] := rfl
          rw [this, List.append_nil]
          simp only [SG, reduceCtorEq, Nat.reduceEqDiff, ↓reduceIte]
        · intro m'' e' H5 hinv'
          obtain ⟨i, rfl, hik, a5, r5, f0, f1, f5, f6, f8, f9, f12, f13⟩ := (hJ _ _ _).1 hinv'
          by_cases di : (i : Int) < (k : Int)
          · simp only [A23_l2, f0, f1, f5, f6, f8, f9, f12, f13, di, SX, reduceCtorEq, Nat.reduceEqDiff, ↓reduceIte, Int.reduceEq, Int.reduceLT, Int.reduceLE, Nat.reduceAdd]
            refine nK dq (m := 26) (by omega) r5 (by omega) a5.fr fun H6 a6 r6 => ?_
            have hb := hd_drop st.2.tail i
            have w7 : IntKind.wrap .i64 (97 + ((hd (st.2.tail.drop i) % 26 : Nat) : Int)) = ((97 + (at0' st.2.tail i).toNat % 26 : Nat) : Int) := by rw [hb, wrapI64 (by omega) (by omega)]; omega
            have w8 : IntKind.wrap .u8 ((97 + (at0' st.2.tail i).toNat % 26 : Nat) : Int) = ((UInt8.ofNat (97 + (at0' st.2.tail i).toNat % 26)).toNat : Int) := wrapU8N
            obtain ⟨H7, s7, g7, k7⟩ := (Hp.nil H6 a6.fr).make [.int .u8 ((UInt8.ofNat (97 + (at0' st.2.tail i).toNat % 26)).toNat : Int)] 1
            have n7 : H7.next = H6.next + 1 := by rw [← s7]; rfl
            have sb := sob1 g7
            have ad := bin_adds (x ++ [32] ++ rdW i st.2.tail) [UInt8.ofNat (97 + (at0' st.2.tail i).toNat % 26)] (by simp [rdW_len]; omega)
            have rs : x ++ [32] ++ rdW i st.2.tail ++ [UInt8.ofNat (97 + (at0' st.2.tail i).toNat % 26)] = x ++ [32] ++ rdW (i + 1) st.2.tail := by simp [rdW, List.range_succ]
            rw [rs] at ad
            have w9 : IntKind.wrap .i64 ((i : Int) + 1) = ((i + 1 : Nat) : Int) := wrapNat (n := i + 1) (by omega)
            rw [List.tail_drop] at r6
            have rl := r6.lt
            have na := (a5.trans a6).next
            simp only [f0, f1, f5, f6, f8, f9, f12, f13, w7, w8, s7, sb, ad, w9, SX, reduceCtorEq, Nat.reduceEqDiff, ↓reduceIte, Int.reduceEq, Int.reduceLT, Int.reduceLE, Nat.reduceAdd]
            exact ⟨k - (i + 1), by omega, (hJ _ _ _).2 ⟨i + 1, rfl, by omega, (a5.trans a6).keepT (k7.le na) (by omega) g7.fr, r6.keep rl k7 (by omega), (by simp only [SG, reduceCtorEq, Nat.reduceEqDiff, ↓reduceIte, f0] <;> rfl), (by simp only [SG, reduceCtorEq, Nat.reduceEqDiff, ↓reduceIte, f1] <;> rfl), (by simp only [SG, reduceCtorEq, Nat.reduceEqDiff, ↓reduceIte, f5] <;> rfl), (by simp only [SG, reduceCtorEq, Nat.reduceEqDiff, ↓reduceIte, f6] <;> rfl), (by first | (simp only [SG, reduceCtorEq, Nat.reduceEqDiff, ↓reduceIte] <;> rfl) | rfl), (by simp only [SG, reduceCtorEq, Nat.reduceEqDiff, ↓reduceIte, f9] <;> rfl), (by simp only [SG, reduceCtorEq, Nat.reduceEqDiff, ↓reduceIte, f12] <;> rfl), (by first | (simp only [SG, reduceCtorEq, Nat.reduceEqDiff, ↓reduceIte] <;> rfl) | rfl)⟩⟩
          · obtain rfl : i = k := by omega
            simp only [A23_l2, f0, f1, f5, f6, f8, f9, f12, f13, di, w1, SX, reduceCtorEq, Nat.reduceEqDiff, ↓reduceIte, Int.reduceEq, Int.reduceLT, Int.reduceLE, Nat.reduceAdd]
            exact next H5 a5 (by rw [er]; exact r5.le (by omega)) _ (by simp only [SG, reduceCtorEq, Nat.reduceEqDiff, ↓reduceIte, f0] <;> rfl) (by simp only [SG, reduceCtorEq, Nat.reduceEqDiff, ↓reduceIte, f1] <;> rfl) (by simp only [SG, reduceCtorEq, Nat.reduceEqDiff, ↓reduceIte, f5] <;> rfl) (by simp only [SG, reduceCtorEq, Nat.reduceEqDiff, ↓reduceIte, f6] <;> rfl) (by rw [ea]; first | (simp only [SG, reduceCtorEq, Nat.reduceEqDiff, ↓reduceIte, f8] <;> rfl) | (simp only [SG, reduceCtorEq, Nat.reduceEqDiff, ↓reduceIte, f8])) (by first | (simp only [SG, reduceCtorEq, Nat.reduceEqDiff, ↓reduceIte] <;> rfl) | rfl)
    · obtain rfl : j = (fm (cmdI s)).length := by omega
      rw [List.take_length] at hst
      have hst' : st = cmdX lm s := hst
      subst hst'
      have e8' : Env.get e 8 = .str (cmdS lm s) := e8
      simp only [A23_lp, A23_tl, e0, e1, e5, e6, e8', e9, lngV_str, d, SX, reduceCtorEq, Nat.reduceEqDiff, ↓reduceIte, Int.reduceEq, Int.reduceLT, Int.reduceLE, Nat.reduceAdd]
      first | exact ⟨rfl, a3, r3.le (by omega)⟩ | exact ⟨a3, r3.le (by omega)⟩
end
end Go.Proofs.YtdkpmlhbofgfdaaGreatDoor.AM
