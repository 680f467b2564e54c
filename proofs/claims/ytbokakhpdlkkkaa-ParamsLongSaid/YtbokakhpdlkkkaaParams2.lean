/-
  The list of a List, walked on the abstract machine.
-/
import Derived.Test.YtbokakhpdlkkkaaParams1
set_option linter.unusedVariables false
set_option linter.unusedSimpArgs false
namespace Go.Proofs.Ytbokakhpdlkkkaa.AM
open Go
set_option maxHeartbeats 2000000 in
theorem clone_spec {Q : Prog} (hq : Q.fns 17 = some A17) (ho : ∀ a, Q.orc 17 a = Option.none) {base : Nat} {H : AHeap} {l : List Cel} (h : Hp base H l) {b m c : Nat} {x : List Int} {B : Blk} (hB : H.row b = some B) (hc : B.cells = ints x) (hm : x.length = m) (h0 : 0 < m) (hs : m ≤ 1000000) :
    FnTo Q 17 [.slc b 0 m c] H (fun r H' => r = .slc (H.next + 1) 0 m m ∧ Hp base H' (⟨H.next + 1, 1, ints x⟩ :: l) ∧ Keep base H H') := by
  refine fn_wp (ho _) hq (by simp [A17]) ?_
  obtain ⟨H1, s1, h1, k1⟩ := h.make [] 1
  have hb : b ≠ H.next := by
    intro hh
    have := h.fr b (by omega)
    simp [AHeap.row, this] at hB
  have hB1 : H1.row b = some B := by
    rw [← s1]
    unfold AHeap.row at hB ⊢
    rw [AHeap.get_alloc, if_neg hb]
    exact hB
  have hn1 : H1.next = H.next + 1 := by rw [← s1]; rfl
  obtain ⟨H2, s2, h2, k2⟩ := h1.clone (bytes := 8) (c2 := c) hB1 hc (by simpa using hm) (by simp [AV.one]) h0 (by omega) (by omega)
  rw [hn1] at s2 h2
  simp only [A17, s1, s2, wp_skip, wp_ops, wp_seq, wp_cond, wp_block, wp_exit, wp_ret, wops_nil, wops_cons, stepX_r, stepX_a, stepX_e, bindO_some, bindA_some, nextV_eq, nextA_eq, nextE_eq, seqK_normal, seqK_exit, seqK_ret, blockK_normal, blockK_exit, blockK_ret, loopK_normal, loopK_exit, loopK_ret, condK_true, condK_false, fnK_normal, fnK_ret, bindR_some, want_none, want_some, wantV_true, wantV_false, Env.get_put, Env.get_init, Opd.ev, List.getD_cons_succ, List.getD_cons_zero, Option.some.injEq, reduceCtorEq, Nat.reduceEqDiff, ↓reduceIte, Bool.not_true, Bool.not_false, Bool.false_eq_true, decide_true, decide_false, run_mv, run_pick, run_nilck, run_bin, run_beq, run_nileq, run_seq, run_neg, run_not, run_cvInt, run_cvRune, run_cvStr, run_mkIface, run_field, run_fieldAddr, run_idxS, run_idxA, run_idxArr, run_idxStr, run_extract, run_lng, run_load, run_strOfBytes, run_lenC, run_mkFn, run_mnmx, pickV_true, pickV_false, nilckV_ptr, beqV_bool, negV_int, notV_bool, cvIntV_int, cvStrV_str, fieldAddrV_ptr, lngV_str, lngV_nils, lngV_slc, bin_add, bin_sub, bin_mul, bin_eql, bin_neq, bin_lss, bin_leq, bin_gtr, bin_geq, mnmxV2max, mnmxV2min, resVal, resVals, ARes.val, wp_loop, echoOk_nil, wp_call, true_and, and_true, List.map_cons, List.map_nil, wp_store, wp_append, bindX_some, run_bslice1, bs1V_int, bs1V_slc, bs1V_nils, val_slc, val_ptr, Nat.zero_add, Nat.add_zero, Int.reduceEq, Int.reduceLT, Int.reduceLE, Nat.reduceAdd, nileq_ptr, nilne_ptr, nileq_nilp, nilne_nilp, nileq_slc, nilne_slc, nileq_nils, nilne_nils, run_build0, run_box, run_bslice0, run_slS, Option.map_some, Option.map_none]
  exact ⟨h2, k1.trans k2⟩
/-- a list of lists, its blocks its own -/
def LL (base : Nat) (H : AHeap) (v : AV) (M : List (Nat × List Int)) : Prop :=
  (M = [] ∧ v = .nils ∧ Hp base H []) ∨ ∃ b, M ≠ [] ∧ v = .slc b 0 M.length M.length ∧ Hp base H (⟨b, 1, heads M⟩ :: inner M)
theorem LL.hp {base : Nat} {H : AHeap} {v : AV} {M : List (Nat × List Int)} (h : LL base H v M) : Hp base H [] := by
  rcases h with ⟨_, _, h⟩ | ⟨b, _, _, h⟩
  · exact h
  · exact h.sub (List.nil_sublist _)
/-- one list more -/
theorem LL.push {base : Nat} {H : AHeap} {v : AV} {M : List (Nat × List Int)} {ib m tb : Nat} {l : List Int} (hv : (M = [] ∧ v = .nils ∧ Hp base H [⟨tb, 1, [.slc ib 0 m m]⟩, ⟨ib, 1, ints l⟩]) ∨ ∃ b, M ≠ [] ∧ v = .slc b 0 M.length M.length ∧ Hp base H (⟨tb, 1, [.slc ib 0 m m]⟩ :: ⟨ib, 1, ints l⟩ :: ⟨b, 1, heads M⟩ :: inner M)) (hm : l.length = m) (hs : M.length ≤ 100000) :
    ∃ w H', appendE H 1 24 v (.slc tb 0 1 1) = some (w, H') ∧ LL base H' w (M ++ [(ib, l)]) ∧ Keep base H H' := by
  have hhd : heads (M ++ [(ib, l)]) = heads M ++ [.slc ib 0 m m] := by simp [heads, hm]
  have hin : inner (M ++ [(ib, l)]) = inner M ++ [⟨ib, 1, ints l⟩] := by simp [inner]
  rcases hv with ⟨rfl, rfl, h⟩ | ⟨b, hne, rfl, h⟩
  · obtain ⟨B, r4, c4⟩ := h.rowOf (cs := [.slc ib 0 m m]) (List.mem_cons_self ..)
    obtain ⟨H5, s5, h5, k5⟩ := h.append0 (bytes := 24) (o2 := 0) (c2 := 1) (v := .slc ib 0 m m) r4 (by rw [c4]; rfl) rfl (by omega) (by omega)
    refine ⟨_, H5, s5, .inr ⟨H.next, by simp, rfl, ?_⟩, k5⟩
    rw [hhd, hin]
    exact h5.swap.drop
  · obtain ⟨B, r4, c4⟩ := h.rowOf (cs := [.slc ib 0 m m]) (List.mem_cons_self ..)
    obtain ⟨H5, s5, h5, k5⟩ := (h.rot3).append1 (bytes := 24) (o2 := 0) (c2 := 1) (v := .slc ib 0 m m) (n := M.length) (by simp [heads]) r4 (by rw [c4]; rfl) rfl (by omega) (by omega)
    refine ⟨_, H5, s5, .inr ⟨H.next, by simp, by simp, ?_⟩, k5⟩
    rw [hhd, hin]
    exact h5.swap.drop.perm (List.Perm.cons _ (List.perm_append_comm (l₁ := [_]) (l₂ := inner M)))
set_option maxHeartbeats 2000000 in
theorem all_spec {Q : Prog} (hq : Q.fns 11 = some A11) (ho : ∀ a, Q.orc 11 a = Option.none) (hq17 : Q.fns 17 = some A17) (ho17 : ∀ a, Q.orc 17 a = Option.none) {base : Nat} {H : AHeap} {p : Nat} {s : PS} (hg : s.Good) (h : PLs base H p s) :
    FnTo Q 11 [.ptr p 0] H (fun r H' => Keep H.next H H' ∧ ∃ M, LL H.next H' r M ∧ M.map (·.2) = s.L) := by
  refine fn_wp (ho _) hq (by simp [A11]) ?_
  obtain ⟨M, hp, eM⟩ := h
  have hML : M.length = s.L.length := by rw [← eM]; simp
  have hlen := hg.len
  obtain ⟨sv, l0, ln, hsv⟩ : ∃ sv, loadV H none (.ptr p 0) = some sv ∧ lngV H 1 sv = some (.int .i64 M.length) ∧ (M ≠ [] → ∃ b, sv = .slc b 0 M.length M.length ∧ Hp base H (⟨p, 3, [.slc b 0 M.length M.length, .bool s.ov, .bool s.fu]⟩ :: ⟨b, 1, heads M⟩ :: inner M)) := by
    rcases hp with ⟨rfl, hp⟩ | ⟨b, hne, hp⟩
    · exact ⟨_, hp.load (o := 0) (List.mem_cons_self ..) rfl, rfl, fun h => absurd rfl h⟩
    · exact ⟨_, hp.load (o := 0) (List.mem_cons_self ..) rfl, rfl, fun _ => ⟨b, rfl, hp⟩⟩
  have hf : ∀ b, H.next ≤ b → H.get b = Option.none := by
    rcases hp with ⟨rfl, hp⟩ | ⟨b, hne, hp⟩ <;> exact hp.fr
  simp only [A11, l0, ln, wp_skip, wp_ops, wp_seq, wp_cond, wp_block, wp_exit, wp_ret, wops_nil, wops_cons, stepX_r, stepX_a, stepX_e, bindO_some, bindA_some, nextV_eq, nextA_eq, nextE_eq, seqK_normal, seqK_exit, seqK_ret, blockK_normal, blockK_exit, blockK_ret, loopK_normal, loopK_exit, loopK_ret, condK_true, condK_false, fnK_normal, fnK_ret, bindR_some, want_none, want_some, wantV_true, wantV_false, Env.get_put, Env.get_init, Opd.ev, List.getD_cons_succ, List.getD_cons_zero, Option.some.injEq, reduceCtorEq, Nat.reduceEqDiff, ↓reduceIte, Bool.not_true, Bool.not_false, Bool.false_eq_true, decide_true, decide_false, run_mv, run_pick, run_nilck, run_bin, run_beq, run_nileq, run_seq, run_neg, run_not, run_cvInt, run_cvRune, run_cvStr, run_mkIface, run_field, run_fieldAddr, run_idxS, run_idxA, run_idxArr, run_idxStr, run_extract, run_lng, run_load, run_strOfBytes, run_lenC, run_mkFn, run_mnmx, pickV_true, pickV_false, nilckV_ptr, beqV_bool, negV_int, notV_bool, cvIntV_int, cvStrV_str, fieldAddrV_ptr, lngV_str, lngV_nils, lngV_slc, bin_add, bin_sub, bin_mul, bin_eql, bin_neq, bin_lss, bin_leq, bin_gtr, bin_geq, mnmxV2max, mnmxV2min, resVal, resVals, ARes.val, wp_loop, echoOk_nil, wp_call, true_and, and_true, List.map_cons, List.map_nil, wp_store, wp_append, bindX_some, run_bslice1, bs1V_int, bs1V_slc, bs1V_nils, val_slc, val_ptr, Nat.zero_add, Nat.add_zero, Int.reduceEq, Int.reduceLT, Int.reduceLE, Nat.reduceAdd, nileq_ptr, nilne_ptr, nileq_nilp, nilne_nilp, nileq_slc, nilne_slc, nileq_nils, nilne_nils, run_build0, run_box, run_bslice0, run_slS, Option.map_some, Option.map_none]
  obtain ⟨I, hI⟩ : ∃ I : Nat → Env → AHeap → Prop, ∀ m e H', I m e H' ↔ (Keep H.next H H' ∧ ∃ (k : Nat) (v : AV) (M' : List (Nat × List Int)), m = M.length - k ∧ k ≤ M.length ∧ Env.get e 3 = v ∧ Env.get e 11 = sv ∧ Env.get e 12 = .int .i64 M.length ∧ Env.get e 13 = .int .i64 k ∧ LL H.next H' v M' ∧ M'.map (·.2) = s.L.take k) := ⟨_, fun _ _ _ => Iff.rfl⟩
  refine loop_by I M.length ?_ ?_
  · refine (hI _ _ _).2 ⟨Keep.refl _ _, 0, .nils, [], rfl, by omega, ?_⟩
    simp only [wp_skip, wp_ops, wp_seq, wp_cond, wp_block, wp_exit, wp_ret, wops_nil, wops_cons, stepX_r, stepX_a, stepX_e, bindO_some, bindA_some, nextV_eq, nextA_eq, nextE_eq, seqK_normal, seqK_exit, seqK_ret, blockK_normal, blockK_exit, blockK_ret, loopK_normal, loopK_exit, loopK_ret, condK_true, condK_false, fnK_normal, fnK_ret, bindR_some, want_none, want_some, wantV_true, wantV_false, Env.get_put, Env.get_init, Opd.ev, List.getD_cons_succ, List.getD_cons_zero, Option.some.injEq, reduceCtorEq, Nat.reduceEqDiff, ↓reduceIte, Bool.not_true, Bool.not_false, Bool.false_eq_true, decide_true, decide_false, run_mv, run_pick, run_nilck, run_bin, run_beq, run_nileq, run_seq, run_neg, run_not, run_cvInt, run_cvRune, run_cvStr, run_mkIface, run_field, run_fieldAddr, run_idxS, run_idxA, run_idxArr, run_idxStr, run_extract, run_lng, run_load, run_strOfBytes, run_lenC, run_mkFn, run_mnmx, pickV_true, pickV_false, nilckV_ptr, beqV_bool, negV_int, notV_bool, cvIntV_int, cvStrV_str, fieldAddrV_ptr, lngV_str, lngV_nils, lngV_slc, bin_add, bin_sub, bin_mul, bin_eql, bin_neq, bin_lss, bin_leq, bin_gtr, bin_geq, mnmxV2max, mnmxV2min, resVal, resVals, ARes.val, wp_loop, echoOk_nil, wp_call, true_and, and_true, List.map_cons, List.map_nil, wp_store, wp_append, bindX_some, run_bslice1, bs1V_int, bs1V_slc, bs1V_nils, val_slc, val_ptr, Nat.zero_add, Nat.add_zero, Int.reduceEq, Int.reduceLT, Int.reduceLE, Nat.reduceAdd, nileq_ptr, nilne_ptr, nileq_nilp, nilne_nilp, nileq_slc, nilne_slc, nileq_nils, nilne_nils, run_build0, run_box, run_bslice0, run_slS, Option.map_some, Option.map_none]
    exact ⟨rfl, .inl ⟨rfl, rfl, Hp.nil H hf⟩, rfl⟩
  · intro m e H' hinv
    obtain ⟨hk, k, v, M', rfl, hkl, e3, e11, e12, e13, hv, hM'⟩ := (hI _ _ _).1 hinv
    by_cases h2 : (k : Int) < M.length
    · have h3 : k < M.length := by omega
      obtain ⟨b, rfl, hb⟩ := hsv (by intro hh; rw [hh] at h3; simp at h3)
      have hb' := hb.keep hk hv.hp.bn hv.hp.fr
      obtain ⟨⟨ib, l⟩, hx⟩ : ∃ x, M[k]? = some x := ⟨_, List.getElem?_eq_getElem h3⟩
      have hll : s.L[k]? = some l := by rw [← eM]; simp [hx]
      have hl8 := hg.el l (List.mem_of_getElem? hll)
      obtain ⟨m, hm⟩ : ∃ m, l.length = m := ⟨_, rfl⟩
      have x1 : idxSV 1 (.slc b 0 M.length M.length) (.int .i64 (k : Int)) = some (.ptr b (0 + k)) := idxSV_slc h3
      have lb := hb'.load (b := b) (o := k) (v := .slc ib 0 m m) (List.mem_cons_of_mem _ (List.mem_cons_self ..)) (by simp [heads, hx, hm])
      have hibm : (⟨ib, 1, ints l⟩ : Cel) ∈ inner M := List.mem_map.2 ⟨(ib, l), List.mem_of_getElem? hx, rfl⟩
      obtain ⟨B, rB, cB⟩ := hb'.rowOf (List.mem_cons_of_mem _ (List.mem_cons_of_mem _ hibm))
      have hw : IntKind.wrap .i64 ((k : Int) + 1) = ((k + 1 : Nat) : Int) := by rw [wrapI64 (by omega) (by omega)]; rfl
      have hM'l : M'.length = k := by
        have : (M'.map (·.2)).length = (s.L.take k).length := by rw [hM']
        simp at this; omega
      simp only [e3, e11, e12, e13, h2, x1, lb, wp_skip, wp_ops, wp_seq, wp_cond, wp_block, wp_exit, wp_ret, wops_nil, wops_cons, stepX_r, stepX_a, stepX_e, bindO_some, bindA_some, nextV_eq, nextA_eq, nextE_eq, seqK_normal, seqK_exit, seqK_ret, blockK_normal, blockK_exit, blockK_ret, loopK_normal, loopK_exit, loopK_ret, condK_true, condK_false, fnK_normal, fnK_ret, bindR_some, want_none, want_some, wantV_true, wantV_false, Env.get_put, Env.get_init, Opd.ev, List.getD_cons_succ, List.getD_cons_zero, Option.some.injEq, reduceCtorEq, Nat.reduceEqDiff, ↓reduceIte, Bool.not_true, Bool.not_false, Bool.false_eq_true, decide_true, decide_false, run_mv, run_pick, run_nilck, run_bin, run_beq, run_nileq, run_seq, run_neg, run_not, run_cvInt, run_cvRune, run_cvStr, run_mkIface, run_field, run_fieldAddr, run_idxS, run_idxA, run_idxArr, run_idxStr, run_extract, run_lng, run_load, run_strOfBytes, run_lenC, run_mkFn, run_mnmx, pickV_true, pickV_false, nilckV_ptr, beqV_bool, negV_int, notV_bool, cvIntV_int, cvStrV_str, fieldAddrV_ptr, lngV_str, lngV_nils, lngV_slc, bin_add, bin_sub, bin_mul, bin_eql, bin_neq, bin_lss, bin_leq, bin_gtr, bin_geq, mnmxV2max, mnmxV2min, resVal, resVals, ARes.val, wp_loop, echoOk_nil, wp_call, true_and, and_true, List.map_cons, List.map_nil, wp_store, wp_append, bindX_some, run_bslice1, bs1V_int, bs1V_slc, bs1V_nils, val_slc, val_ptr, Nat.zero_add, Nat.add_zero, Int.reduceEq, Int.reduceLT, Int.reduceLE, Nat.reduceAdd, nileq_ptr, nilne_ptr, nileq_nilp, nilne_nilp, nileq_slc, nilne_slc, nileq_nils, nilne_nils, run_build0, run_box, run_bslice0, run_slS, Option.map_some, Option.map_none]
      obtain ⟨l0, hl0, hcase⟩ : ∃ l0, Hp H.next H' l0 ∧ ((M' = [] ∧ v = .nils ∧ l0 = []) ∨ ∃ b, M' ≠ [] ∧ v = .slc b 0 M'.length M'.length ∧ l0 = ⟨b, 1, heads M'⟩ :: inner M') := by
        rcases hv with ⟨h1, h2, h3⟩ | ⟨b, h1, h2, h3⟩
        · exact ⟨_, h3, .inl ⟨h1, h2, rfl⟩⟩
        · exact ⟨_, h3, .inr ⟨b, h1, h2, rfl⟩⟩
      refine (clone_spec hq17 ho17 hl0 rB cB hm (by omega) (by omega)).mono ?_
      rintro r H2 ⟨rfl, h2', k2⟩
      obtain ⟨H3, s3, h3', k3⟩ := h2'.make [.slc (H'.next + 1) 0 m m] 1
      obtain ⟨w, H4, s4, h4, k4⟩ := LL.push (H := H3) (base := H.next) (v := v) (M := M') (ib := H'.next + 1) (m := m) (tb := H2.next) (l := l) (by
        rcases hcase with ⟨q1, q2, rfl⟩ | ⟨b, q1, q2, rfl⟩
        · exact .inl ⟨q1, q2, h3'⟩
        · exact .inr ⟨b, q1, q2, h3'⟩) hm (by omega)
      simp only [e3, e11, e12, e13, h2, x1, lb, hw, s3, s4, wp_skip, wp_ops, wp_seq, wp_cond, wp_block, wp_exit, wp_ret, wops_nil, wops_cons, stepX_r, stepX_a, stepX_e, bindO_some, bindA_some, nextV_eq, nextA_eq, nextE_eq, seqK_normal, seqK_exit, seqK_ret, blockK_normal, blockK_exit, blockK_ret, loopK_normal, loopK_exit, loopK_ret, condK_true, condK_false, fnK_normal, fnK_ret, bindR_some, want_none, want_some, wantV_true, wantV_false, Env.get_put, Env.get_init, Opd.ev, List.getD_cons_succ, List.getD_cons_zero, Option.some.injEq, reduceCtorEq, Nat.reduceEqDiff, ↓reduceIte, Bool.not_true, Bool.not_false, Bool.false_eq_true, decide_true, decide_false, run_mv, run_pick, run_nilck, run_bin, run_beq, run_nileq, run_seq, run_neg, run_not, run_cvInt, run_cvRune, run_cvStr, run_mkIface, run_field, run_fieldAddr, run_idxS, run_idxA, run_idxArr, run_idxStr, run_extract, run_lng, run_load, run_strOfBytes, run_lenC, run_mkFn, run_mnmx, pickV_true, pickV_false, nilckV_ptr, beqV_bool, negV_int, notV_bool, cvIntV_int, cvStrV_str, fieldAddrV_ptr, lngV_str, lngV_nils, lngV_slc, bin_add, bin_sub, bin_mul, bin_eql, bin_neq, bin_lss, bin_leq, bin_gtr, bin_geq, mnmxV2max, mnmxV2min, resVal, resVals, ARes.val, wp_loop, echoOk_nil, wp_call, true_and, and_true, List.map_cons, List.map_nil, wp_store, wp_append, bindX_some, run_bslice1, bs1V_int, bs1V_slc, bs1V_nils, val_slc, val_ptr, Nat.zero_add, Nat.add_zero, Int.reduceEq, Int.reduceLT, Int.reduceLE, Nat.reduceAdd, nileq_ptr, nilne_ptr, nileq_nilp, nilne_nilp, nileq_slc, nilne_slc, nileq_nils, nilne_nils, run_build0, run_box, run_bslice0, run_slS, Option.map_some, Option.map_none]
      refine ⟨M.length - (k + 1), by omega, (hI _ _ _).2 ⟨hk.trans (k2.trans (k3.trans k4)), k + 1, w, M' ++ [(H'.next + 1, l)], rfl, by omega, ?_⟩⟩
      simp only [e3, e11, e12, e13, wp_skip, wp_ops, wp_seq, wp_cond, wp_block, wp_exit, wp_ret, wops_nil, wops_cons, stepX_r, stepX_a, stepX_e, bindO_some, bindA_some, nextV_eq, nextA_eq, nextE_eq, seqK_normal, seqK_exit, seqK_ret, blockK_normal, blockK_exit, blockK_ret, loopK_normal, loopK_exit, loopK_ret, condK_true, condK_false, fnK_normal, fnK_ret, bindR_some, want_none, want_some, wantV_true, wantV_false, Env.get_put, Env.get_init, Opd.ev, List.getD_cons_succ, List.getD_cons_zero, Option.some.injEq, reduceCtorEq, Nat.reduceEqDiff, ↓reduceIte, Bool.not_true, Bool.not_false, Bool.false_eq_true, decide_true, decide_false, run_mv, run_pick, run_nilck, run_bin, run_beq, run_nileq, run_seq, run_neg, run_not, run_cvInt, run_cvRune, run_cvStr, run_mkIface, run_field, run_fieldAddr, run_idxS, run_idxA, run_idxArr, run_idxStr, run_extract, run_lng, run_load, run_strOfBytes, run_lenC, run_mkFn, run_mnmx, pickV_true, pickV_false, nilckV_ptr, beqV_bool, negV_int, notV_bool, cvIntV_int, cvStrV_str, fieldAddrV_ptr, lngV_str, lngV_nils, lngV_slc, bin_add, bin_sub, bin_mul, bin_eql, bin_neq, bin_lss, bin_leq, bin_gtr, bin_geq, mnmxV2max, mnmxV2min, resVal, resVals, ARes.val, wp_loop, echoOk_nil, wp_call, true_and, and_true, List.map_cons, List.map_nil, wp_store, wp_append, bindX_some, run_bslice1, bs1V_int, bs1V_slc, bs1V_nils, val_slc, val_ptr, Nat.zero_add, Nat.add_zero, Int.reduceEq, Int.reduceLT, Int.reduceLE, Nat.reduceAdd, nileq_ptr, nilne_ptr, nileq_nilp, nilne_nilp, nileq_slc, nilne_slc, nileq_nils, nilne_nils, run_build0, run_box, run_bslice0, run_slS, Option.map_some, Option.map_none]
      refine ⟨h4, ?_⟩
      rw [List.map_append, hM', List.take_succ_eq_append_getElem (by omega)]
      congr 1
      rw [List.getElem?_eq_getElem (by omega)] at hll
      simp only [Option.some.injEq] at hll
      rw [hll]; rfl
    · obtain rfl : k = M.length := by omega
      simp only [e3, e11, e12, e13, h2, wp_skip, wp_ops, wp_seq, wp_cond, wp_block, wp_exit, wp_ret, wops_nil, wops_cons, stepX_r, stepX_a, stepX_e, bindO_some, bindA_some, nextV_eq, nextA_eq, nextE_eq, seqK_normal, seqK_exit, seqK_ret, blockK_normal, blockK_exit, blockK_ret, loopK_normal, loopK_exit, loopK_ret, condK_true, condK_false, fnK_normal, fnK_ret, bindR_some, want_none, want_some, wantV_true, wantV_false, Env.get_put, Env.get_init, Opd.ev, List.getD_cons_succ, List.getD_cons_zero, Option.some.injEq, reduceCtorEq, Nat.reduceEqDiff, ↓reduceIte, Bool.not_true, Bool.not_false, Bool.false_eq_true, decide_true, decide_false, run_mv, run_pick, run_nilck, run_bin, run_beq, run_nileq, run_seq, run_neg, run_not, run_cvInt, run_cvRune, run_cvStr, run_mkIface, run_field, run_fieldAddr, run_idxS, run_idxA, run_idxArr, run_idxStr, run_extract, run_lng, run_load, run_strOfBytes, run_lenC, run_mkFn, run_mnmx, pickV_true, pickV_false, nilckV_ptr, beqV_bool, negV_int, notV_bool, cvIntV_int, cvStrV_str, fieldAddrV_ptr, lngV_str, lngV_nils, lngV_slc, bin_add, bin_sub, bin_mul, bin_eql, bin_neq, bin_lss, bin_leq, bin_gtr, bin_geq, mnmxV2max, mnmxV2min, resVal, resVals, ARes.val, wp_loop, echoOk_nil, wp_call, true_and, and_true, List.map_cons, List.map_nil, wp_store, wp_append, bindX_some, run_bslice1, bs1V_int, bs1V_slc, bs1V_nils, val_slc, val_ptr, Nat.zero_add, Nat.add_zero, Int.reduceEq, Int.reduceLT, Int.reduceLE, Nat.reduceAdd, nileq_ptr, nilne_ptr, nileq_nilp, nilne_nilp, nileq_slc, nilne_slc, nileq_nils, nilne_nils, run_build0, run_box, run_bslice0, run_slS, Option.map_some, Option.map_none]
      refine ⟨hk, M', hv, ?_⟩
      rw [hM', hML, List.take_length]
end Go.Proofs.Ytbokakhpdlkkkaa.AM
