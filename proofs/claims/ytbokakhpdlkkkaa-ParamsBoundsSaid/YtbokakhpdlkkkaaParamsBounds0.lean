/-
  What comes behind never turns a parameter that is whole; and ParamsBounds, walked on the abstract machine.
-/
import Derived.Test.YtbokakhpdlkkkaaParamsRead0
set_option linter.unusedVariables false
set_option linter.unusedSimpArgs false
namespace Go.Proofs.Ytbokakhpdlkkkaa.AM
open Go
/-- what lies ahead stays -/
def Ahead (P : List (List Int)) (s : PS) : Prop := P = [] ∨ (s.ov = true ∧ s.L = P) ∨ ∃ r, r ≠ [] ∧ s.L = P ++ r
theorem Ahead.front {P : List (List Int)} {s : PS} (h : Ahead P s) : ∃ r, s.L = P ++ r := by
  rcases h with rfl | ⟨_, h⟩ | ⟨r, _, h⟩
  · exact ⟨s.L, rfl⟩
  · exact ⟨[], by simp [h]⟩
  · exact ⟨r, h⟩
theorem begins_ahead {P : List (List Int)} {s : PS} (h : ∃ r, s.L = P ++ r) : Ahead P s.begins := by
  obtain ⟨r, h⟩ := h
  unfold PS.begins
  split
  · cases r with
    | nil => exact .inr (.inl ⟨rfl, by simpa using h⟩)
    | cons x r => exact .inr (.inr ⟨_, by simp, h⟩)
  · exact .inr (.inr ⟨r ++ [[0]], by simp, by simp [h]⟩)
theorem byte_ahead {P : List (List Int)} {s : PS} (h : Ahead P s) (c : Int) : Ahead P (s.byte c) := by
  unfold PS.byte
  split
  · exact h
  · rename_i hc
    rcases h with rfl | ⟨ho, h⟩ | ⟨r, hr, h⟩
    · exact .inl rfl
    · exact absurd (.inl ho) hc
    · have hne : ¬ s.L.length = 0 := by
        rw [h]; cases r with
        | nil => exact absurd rfl hr
        | cons x r => simp
      rw [if_neg hne]
      unfold PS.step PS.last
      obtain ⟨r0, x, rfl⟩ : ∃ r0 x, r = r0 ++ [x] := ⟨r.dropLast, r.getLast hr, (List.dropLast_concat_getLast hr).symm⟩
      have hd : s.L.dropLast = P ++ r0 := by rw [h, ← List.append_assoc]; simp
      split
      · exact begins_ahead ⟨_, h⟩
      · split
        · exact .inr (.inr ⟨_, hr, h⟩)
        · split
          · split
            · exact .inr (.inr ⟨_, hr, h⟩)
            · rw [hd]; exact .inr (.inr ⟨r0 ++ [_], by simp, by simp only [List.append_assoc]; rfl⟩)
          · rw [hd]; exact .inr (.inr ⟨r0 ++ [_], by simp, by simp only [List.append_assoc]; rfl⟩)
theorem feed_ahead {P : List (List Int)} : ∀ (t : List UInt8) {s : PS}, Ahead P s → Ahead P (s.feed t)
  | [], s, h => h
  | b :: t, s, h => feed_ahead t (byte_ahead h _)
theorem sep_ahead (s : PS) : Ahead s.L (s.byte 59) := by
  unfold PS.byte
  split
  · rename_i h
    rcases h with h | h | h
    · exact .inr (.inl ⟨h, rfl⟩)
    · omega
    · omega
  · by_cases h0 : s.L.length = 0
    · exact .inl (List.eq_nil_of_length_eq_zero h0)
    · rw [if_neg h0]
      unfold PS.step PS.last
      rw [if_pos rfl]
      exact begins_ahead ⟨[], by simp⟩
theorem bounds_law (s t : List UInt8) : ∃ r, (PS.none.feed (s ++ [59] ++ t)).L = (PS.none.feed s).L ++ r := by
  have : PS.none.feed (s ++ [59] ++ t) = ((PS.none.feed s).byte 59).feed t := by
    unfold PS.feed
    rw [List.foldl_append, List.foldl_append]
    rfl
  rw [this]
  exact (feed_ahead t (sep_ahead _)).front
theorem LL.take {base : Nat} {H : AHeap} {v : AV} {M : List (Nat × List Int)} (h : LL base H v M) {k : Nat} (hk : k ≤ M.length) : ∃ w, slSV H 1 v Option.none (some (.int .i64 k)) = some w ∧ IsSl IsInts H w ((M.map (·.2)).take k) := by
  have hs := h.isSl
  rcases h with ⟨rfl, rfl, h⟩ | ⟨b, hne, rfl, h⟩
  · obtain rfl : k = 0 := by simpa using hk
    exact ⟨_, rfl, .inl ⟨rfl, by simp⟩⟩
  · refine ⟨_, h.slice (List.mem_cons_self ..) hk, ?_⟩
    rcases hs with ⟨h1, _⟩ | ⟨b', o, cap, B, h1, h2, h3⟩
    · cases h1
    · simp only [AV.slc.injEq] at h1
      obtain ⟨rfl, rfl, _, rfl⟩ := h1
      have hl : ((M.map (·.2)).take k).length = k := by rw [List.length_take, List.length_map]; omega
      refine .inr ⟨b, 0, M.length, B, by rw [hl], h2, fun i x hx => h3 i x ?_⟩
      rw [List.getElem?_take] at hx
      split at hx
      · exact hx
      · cases hx
set_option maxHeartbeats 4000000 in
theorem law5 {Q : Prog} (hq : Q.fns 5 = some A5) (ho : ∀ f, Nat.beq f 8 = false → ∀ a, Q.orc f a = Option.none) (ha : Q.orc 8 [] = some (.bool true)) (q9 : Q.fns 9 = some A9) (q10 : Q.fns 10 = some A10) (q11 : Q.fns 11 = some A11) (q14 : Q.fns 14 = some A14) (q17 : Q.fns 17 = some A17) (q18 : Q.fns 18 = some A18)
    {H : AHeap} (hf : ∀ b, H.next ≤ b → H.get b = Option.none) {s t : List UInt8} (hs : s.length ≤ maxLen) (ht : t.length ≤ maxLen) :
    FnTo Q 5 [.str s, .str t] H (fun r H' => r = .bool true) := by
  refine fn_wp (ho 5 rfl _) hq (by simp [A5]) ?_
  have hmax : maxLen = 9223372036854775807 := by decide
  simp only [A5, wp_skip, wp_ops, wp_seq, wp_cond, wp_block, wp_exit, wp_ret, wops_nil, wops_cons, stepX_r, stepX_a, stepX_e, bindO_some, bindA_some, nextV_eq, nextA_eq, nextE_eq, seqK_normal, seqK_exit, seqK_ret, blockK_normal, blockK_exit, blockK_ret, loopK_normal, loopK_exit, loopK_ret, condK_true, condK_false, fnK_normal, fnK_ret, bindR_some, want_none, want_some, wantV_true, wantV_false, Env.get_put, Env.get_init, Opd.ev, List.getD_cons_succ, List.getD_cons_zero, Option.some.injEq, reduceCtorEq, Nat.reduceEqDiff, ↓reduceIte, Bool.not_true, Bool.not_false, Bool.false_eq_true, decide_true, decide_false, run_mv, run_pick, run_nilck, run_bin, run_beq, run_nileq, run_seq, run_neg, run_not, run_cvInt, run_cvRune, run_cvStr, run_mkIface, run_field, run_fieldAddr, run_idxS, run_idxA, run_idxArr, run_idxStr, run_extract, run_lng, run_load, run_strOfBytes, run_lenC, run_mkFn, run_mnmx, pickV_true, pickV_false, nilckV_ptr, beqV_bool, negV_int, notV_bool, cvIntV_int, cvStrV_str, fieldAddrV_ptr, lngV_str, lngV_nils, lngV_slc, bin_add, bin_sub, bin_mul, bin_eql, bin_neq, bin_lss, bin_leq, bin_gtr, bin_geq, mnmxV2max, mnmxV2min, resVal, resVals, ARes.val, wp_loop, echoOk_nil, wp_call, true_and, and_true, List.map_cons, List.map_nil, wp_store, wp_append, bindX_some, run_bslice1, bs1V_int, bs1V_slc, bs1V_nils, val_slc, val_ptr, Nat.zero_add, Nat.add_zero, Int.reduceEq, Int.reduceLT, Int.reduceLE, Nat.reduceAdd, nileq_ptr, nilne_ptr, nileq_nilp, nilne_nilp, nileq_slc, nilne_slc, nileq_nils, nilne_nils, run_build0, run_box, run_bslice0, run_slS, Option.map_some, Option.map_none]
  refine fn_orc ha ?_
  by_cases h1 : (3000 : Int) < s.length
  · simp only [h1, wp_skip, wp_ops, wp_seq, wp_cond, wp_block, wp_exit, wp_ret, wops_nil, wops_cons, stepX_r, stepX_a, stepX_e, bindO_some, bindA_some, nextV_eq, nextA_eq, nextE_eq, seqK_normal, seqK_exit, seqK_ret, blockK_normal, blockK_exit, blockK_ret, loopK_normal, loopK_exit, loopK_ret, condK_true, condK_false, fnK_normal, fnK_ret, bindR_some, want_none, want_some, wantV_true, wantV_false, Env.get_put, Env.get_init, Opd.ev, List.getD_cons_succ, List.getD_cons_zero, Option.some.injEq, reduceCtorEq, Nat.reduceEqDiff, ↓reduceIte, Bool.not_true, Bool.not_false, Bool.false_eq_true, decide_true, decide_false, run_mv, run_pick, run_nilck, run_bin, run_beq, run_nileq, run_seq, run_neg, run_not, run_cvInt, run_cvRune, run_cvStr, run_mkIface, run_field, run_fieldAddr, run_idxS, run_idxA, run_idxArr, run_idxStr, run_extract, run_lng, run_load, run_strOfBytes, run_lenC, run_mkFn, run_mnmx, pickV_true, pickV_false, nilckV_ptr, beqV_bool, negV_int, notV_bool, cvIntV_int, cvStrV_str, fieldAddrV_ptr, lngV_str, lngV_nils, lngV_slc, bin_add, bin_sub, bin_mul, bin_eql, bin_neq, bin_lss, bin_leq, bin_gtr, bin_geq, mnmxV2max, mnmxV2min, resVal, resVals, ARes.val, wp_loop, echoOk_nil, wp_call, true_and, and_true, List.map_cons, List.map_nil, wp_store, wp_append, bindX_some, run_bslice1, bs1V_int, bs1V_slc, bs1V_nils, val_slc, val_ptr, Nat.zero_add, Nat.add_zero, Int.reduceEq, Int.reduceLT, Int.reduceLE, Nat.reduceAdd, nileq_ptr, nilne_ptr, nileq_nilp, nilne_nilp, nileq_slc, nilne_slc, nileq_nils, nilne_nils, run_build0, run_box, run_bslice0, run_slS, Option.map_some, Option.map_none]
  by_cases h2 : (3000 : Int) < t.length
  · simp only [h1, h2, wp_skip, wp_ops, wp_seq, wp_cond, wp_block, wp_exit, wp_ret, wops_nil, wops_cons, stepX_r, stepX_a, stepX_e, bindO_some, bindA_some, nextV_eq, nextA_eq, nextE_eq, seqK_normal, seqK_exit, seqK_ret, blockK_normal, blockK_exit, blockK_ret, loopK_normal, loopK_exit, loopK_ret, condK_true, condK_false, fnK_normal, fnK_ret, bindR_some, want_none, want_some, wantV_true, wantV_false, Env.get_put, Env.get_init, Opd.ev, List.getD_cons_succ, List.getD_cons_zero, Option.some.injEq, reduceCtorEq, Nat.reduceEqDiff, ↓reduceIte, Bool.not_true, Bool.not_false, Bool.false_eq_true, decide_true, decide_false, run_mv, run_pick, run_nilck, run_bin, run_beq, run_nileq, run_seq, run_neg, run_not, run_cvInt, run_cvRune, run_cvStr, run_mkIface, run_field, run_fieldAddr, run_idxS, run_idxA, run_idxArr, run_idxStr, run_extract, run_lng, run_load, run_strOfBytes, run_lenC, run_mkFn, run_mnmx, pickV_true, pickV_false, nilckV_ptr, beqV_bool, negV_int, notV_bool, cvIntV_int, cvStrV_str, fieldAddrV_ptr, lngV_str, lngV_nils, lngV_slc, bin_add, bin_sub, bin_mul, bin_eql, bin_neq, bin_lss, bin_leq, bin_gtr, bin_geq, mnmxV2max, mnmxV2min, resVal, resVals, ARes.val, wp_loop, echoOk_nil, wp_call, true_and, and_true, List.map_cons, List.map_nil, wp_store, wp_append, bindX_some, run_bslice1, bs1V_int, bs1V_slc, bs1V_nils, val_slc, val_ptr, Nat.zero_add, Nat.add_zero, Int.reduceEq, Int.reduceLT, Int.reduceLE, Nat.reduceAdd, nileq_ptr, nilne_ptr, nileq_nilp, nilne_nilp, nileq_slc, nilne_slc, nileq_nils, nilne_nils, run_build0, run_box, run_bslice0, run_slS, Option.map_some, Option.map_none]
  simp only [h1, h2, wp_skip, wp_ops, wp_seq, wp_cond, wp_block, wp_exit, wp_ret, wops_nil, wops_cons, stepX_r, stepX_a, stepX_e, bindO_some, bindA_some, nextV_eq, nextA_eq, nextE_eq, seqK_normal, seqK_exit, seqK_ret, blockK_normal, blockK_exit, blockK_ret, loopK_normal, loopK_exit, loopK_ret, condK_true, condK_false, fnK_normal, fnK_ret, bindR_some, want_none, want_some, wantV_true, wantV_false, Env.get_put, Env.get_init, Opd.ev, List.getD_cons_succ, List.getD_cons_zero, Option.some.injEq, reduceCtorEq, Nat.reduceEqDiff, ↓reduceIte, Bool.not_true, Bool.not_false, Bool.false_eq_true, decide_true, decide_false, run_mv, run_pick, run_nilck, run_bin, run_beq, run_nileq, run_seq, run_neg, run_not, run_cvInt, run_cvRune, run_cvStr, run_mkIface, run_field, run_fieldAddr, run_idxS, run_idxA, run_idxArr, run_idxStr, run_extract, run_lng, run_load, run_strOfBytes, run_lenC, run_mkFn, run_mnmx, pickV_true, pickV_false, nilckV_ptr, beqV_bool, negV_int, notV_bool, cvIntV_int, cvStrV_str, fieldAddrV_ptr, lngV_str, lngV_nils, lngV_slc, bin_add, bin_sub, bin_mul, bin_eql, bin_neq, bin_lss, bin_leq, bin_gtr, bin_geq, mnmxV2max, mnmxV2min, resVal, resVals, ARes.val, wp_loop, echoOk_nil, wp_call, true_and, and_true, List.map_cons, List.map_nil, wp_store, wp_append, bindX_some, run_bslice1, bs1V_int, bs1V_slc, bs1V_nils, val_slc, val_ptr, Nat.zero_add, Nat.add_zero, Int.reduceEq, Int.reduceLT, Int.reduceLE, Nat.reduceAdd, nileq_ptr, nilne_ptr, nileq_nilp, nilne_nilp, nileq_slc, nilne_slc, nileq_nils, nilne_nils, run_build0, run_box, run_bslice0, run_slS, Option.map_some, Option.map_none]
  refine (list_spec q9 (ho 9 rfl) q14 (ho 14 rfl) q18 (ho 18 rfl) hf hs).mono ?_
  rintro r H1 ⟨k1, p, rfl, hp1⟩
  have g1 : (PS.none.feed s).Good := feed_good none_good
  simp only [wp_skip, wp_ops, wp_seq, wp_cond, wp_block, wp_exit, wp_ret, wops_nil, wops_cons, stepX_r, stepX_a, stepX_e, bindO_some, bindA_some, nextV_eq, nextA_eq, nextE_eq, seqK_normal, seqK_exit, seqK_ret, blockK_normal, blockK_exit, blockK_ret, loopK_normal, loopK_exit, loopK_ret, condK_true, condK_false, fnK_normal, fnK_ret, bindR_some, want_none, want_some, wantV_true, wantV_false, Env.get_put, Env.get_init, Opd.ev, List.getD_cons_succ, List.getD_cons_zero, Option.some.injEq, reduceCtorEq, Nat.reduceEqDiff, ↓reduceIte, Bool.not_true, Bool.not_false, Bool.false_eq_true, decide_true, decide_false, run_mv, run_pick, run_nilck, run_bin, run_beq, run_nileq, run_seq, run_neg, run_not, run_cvInt, run_cvRune, run_cvStr, run_mkIface, run_field, run_fieldAddr, run_idxS, run_idxA, run_idxArr, run_idxStr, run_extract, run_lng, run_load, run_strOfBytes, run_lenC, run_mkFn, run_mnmx, pickV_true, pickV_false, nilckV_ptr, beqV_bool, negV_int, notV_bool, cvIntV_int, cvStrV_str, fieldAddrV_ptr, lngV_str, lngV_nils, lngV_slc, bin_add, bin_sub, bin_mul, bin_eql, bin_neq, bin_lss, bin_leq, bin_gtr, bin_geq, mnmxV2max, mnmxV2min, resVal, resVals, ARes.val, wp_loop, echoOk_nil, wp_call, true_and, and_true, List.map_cons, List.map_nil, wp_store, wp_append, bindX_some, run_bslice1, bs1V_int, bs1V_slc, bs1V_nils, val_slc, val_ptr, Nat.zero_add, Nat.add_zero, Int.reduceEq, Int.reduceLT, Int.reduceLE, Nat.reduceAdd, nileq_ptr, nilne_ptr, nileq_nilp, nilne_nilp, nileq_slc, nilne_slc, nileq_nils, nilne_nils, run_build0, run_box, run_bslice0, run_slS, Option.map_some, Option.map_none]
  refine (all_spec q11 (ho 11 rfl) q17 (ho 17 rfl) g1 hp1).mono ?_
  rintro a H2 ⟨k2, M2, l2, e2⟩
  have a1 : binV .add (.str s) (.str [59]) = some (.str (s ++ [59])) := bin_adds _ _ (by simp; omega)
  have a2 : binV .add (.str (s ++ [59])) (.str t) = some (.str (s ++ [59] ++ t)) := bin_adds _ _ (by simp; omega)
  simp only [a1, a2, wp_skip, wp_ops, wp_seq, wp_cond, wp_block, wp_exit, wp_ret, wops_nil, wops_cons, stepX_r, stepX_a, stepX_e, bindO_some, bindA_some, nextV_eq, nextA_eq, nextE_eq, seqK_normal, seqK_exit, seqK_ret, blockK_normal, blockK_exit, blockK_ret, loopK_normal, loopK_exit, loopK_ret, condK_true, condK_false, fnK_normal, fnK_ret, bindR_some, want_none, want_some, wantV_true, wantV_false, Env.get_put, Env.get_init, Opd.ev, List.getD_cons_succ, List.getD_cons_zero, Option.some.injEq, reduceCtorEq, Nat.reduceEqDiff, ↓reduceIte, Bool.not_true, Bool.not_false, Bool.false_eq_true, decide_true, decide_false, run_mv, run_pick, run_nilck, run_bin, run_beq, run_nileq, run_seq, run_neg, run_not, run_cvInt, run_cvRune, run_cvStr, run_mkIface, run_field, run_fieldAddr, run_idxS, run_idxA, run_idxArr, run_idxStr, run_extract, run_lng, run_load, run_strOfBytes, run_lenC, run_mkFn, run_mnmx, pickV_true, pickV_false, nilckV_ptr, beqV_bool, negV_int, notV_bool, cvIntV_int, cvStrV_str, fieldAddrV_ptr, lngV_str, lngV_nils, lngV_slc, bin_add, bin_sub, bin_mul, bin_eql, bin_neq, bin_lss, bin_leq, bin_gtr, bin_geq, mnmxV2max, mnmxV2min, resVal, resVals, ARes.val, wp_loop, echoOk_nil, wp_call, true_and, and_true, List.map_cons, List.map_nil, wp_store, wp_append, bindX_some, run_bslice1, bs1V_int, bs1V_slc, bs1V_nils, val_slc, val_ptr, Nat.zero_add, Nat.add_zero, Int.reduceEq, Int.reduceLT, Int.reduceLE, Nat.reduceAdd, nileq_ptr, nilne_ptr, nileq_nilp, nilne_nilp, nileq_slc, nilne_slc, nileq_nils, nilne_nils, run_build0, run_box, run_bslice0, run_slS, Option.map_some, Option.map_none]
  refine (list_spec q9 (ho 9 rfl) q14 (ho 14 rfl) q18 (ho 18 rfl) l2.hp.fr (by simp; omega)).mono ?_
  rintro r H3 ⟨k3, p', rfl, hp3⟩
  have g3 : (PS.none.feed (s ++ [59] ++ t)).Good := feed_good none_good
  have l3 := l2.keep k3 hp3.fr.1 hp3.fr.2
  simp only [wp_skip, wp_ops, wp_seq, wp_cond, wp_block, wp_exit, wp_ret, wops_nil, wops_cons, stepX_r, stepX_a, stepX_e, bindO_some, bindA_some, nextV_eq, nextA_eq, nextE_eq, seqK_normal, seqK_exit, seqK_ret, blockK_normal, blockK_exit, blockK_ret, loopK_normal, loopK_exit, loopK_ret, condK_true, condK_false, fnK_normal, fnK_ret, bindR_some, want_none, want_some, wantV_true, wantV_false, Env.get_put, Env.get_init, Opd.ev, List.getD_cons_succ, List.getD_cons_zero, Option.some.injEq, reduceCtorEq, Nat.reduceEqDiff, ↓reduceIte, Bool.not_true, Bool.not_false, Bool.false_eq_true, decide_true, decide_false, run_mv, run_pick, run_nilck, run_bin, run_beq, run_nileq, run_seq, run_neg, run_not, run_cvInt, run_cvRune, run_cvStr, run_mkIface, run_field, run_fieldAddr, run_idxS, run_idxA, run_idxArr, run_idxStr, run_extract, run_lng, run_load, run_strOfBytes, run_lenC, run_mkFn, run_mnmx, pickV_true, pickV_false, nilckV_ptr, beqV_bool, negV_int, notV_bool, cvIntV_int, cvStrV_str, fieldAddrV_ptr, lngV_str, lngV_nils, lngV_slc, bin_add, bin_sub, bin_mul, bin_eql, bin_neq, bin_lss, bin_leq, bin_gtr, bin_geq, mnmxV2max, mnmxV2min, resVal, resVals, ARes.val, wp_loop, echoOk_nil, wp_call, true_and, and_true, List.map_cons, List.map_nil, wp_store, wp_append, bindX_some, run_bslice1, bs1V_int, bs1V_slc, bs1V_nils, val_slc, val_ptr, Nat.zero_add, Nat.add_zero, Int.reduceEq, Int.reduceLT, Int.reduceLE, Nat.reduceAdd, nileq_ptr, nilne_ptr, nileq_nilp, nilne_nilp, nileq_slc, nilne_slc, nileq_nils, nilne_nils, run_build0, run_box, run_bslice0, run_slS, Option.map_some, Option.map_none]
  refine (all_spec q11 (ho 11 rfl) q17 (ho 17 rfl) g3 hp3).mono ?_
  rintro b H4 ⟨k4, M4, l4, e4⟩
  have l4a := l3.keep k4 l4.hp.bn l4.hp.fr
  have ia := l4a.isSl
  have ib := l4.isSl
  rw [e2] at ia
  rw [e4] at ib
  obtain ⟨rr, hrr⟩ := bounds_law s t
  generalize hA : (PS.none.feed s).L = A at *
  generalize hB : (PS.none.feed (s ++ [59] ++ t)).L = B at *
  have la := ia.len
  have lb := ib.len
  have b1 : A.length ≤ 16 := by rw [← hA]; exact g1.len
  have b2 : B.length ≤ 16 := by rw [← hB]; exact g3.len
  have b3 : A.length ≤ B.length := by rw [hrr]; simp
  have c1 : ¬ (16 : Int) < A.length := by omega
  have c2 : ¬ (16 : Int) < B.length := by omega
  have c3 : ¬ (B.length : Int) < A.length := by omega
  have g3' : ∀ l ∈ B, 1 ≤ l.length ∧ l.length ≤ 8 ∧ ∀ x ∈ l, 0 ≤ x ∧ x ≤ 9999 := by rw [← hB]; exact g3.el
  obtain ⟨n, hn⟩ : ∃ n, B.length = n := ⟨_, rfl⟩
  have lm : M4.length = n := by rw [← hn, ← e4, List.length_map]
  obtain ⟨w, hw1, hw2⟩ := l4.take (k := A.length) (by omega)
  rw [e4, hrr, List.take_left] at hw2
  rw [hn] at lb c2 c3 b2 b3
  simp only [la, lb, c1, c2, c3, wp_skip, wp_ops, wp_seq, wp_cond, wp_block, wp_exit, wp_ret, wops_nil, wops_cons, stepX_r, stepX_a, stepX_e, bindO_some, bindA_some, nextV_eq, nextA_eq, nextE_eq, seqK_normal, seqK_exit, seqK_ret, blockK_normal, blockK_exit, blockK_ret, loopK_normal, loopK_exit, loopK_ret, condK_true, condK_false, fnK_normal, fnK_ret, bindR_some, want_none, want_some, wantV_true, wantV_false, Env.get_put, Env.get_init, Opd.ev, List.getD_cons_succ, List.getD_cons_zero, Option.some.injEq, reduceCtorEq, Nat.reduceEqDiff, ↓reduceIte, Bool.not_true, Bool.not_false, Bool.false_eq_true, decide_true, decide_false, run_mv, run_pick, run_nilck, run_bin, run_beq, run_nileq, run_seq, run_neg, run_not, run_cvInt, run_cvRune, run_cvStr, run_mkIface, run_field, run_fieldAddr, run_idxS, run_idxA, run_idxArr, run_idxStr, run_extract, run_lng, run_load, run_strOfBytes, run_lenC, run_mkFn, run_mnmx, pickV_true, pickV_false, nilckV_ptr, beqV_bool, negV_int, notV_bool, cvIntV_int, cvStrV_str, fieldAddrV_ptr, lngV_str, lngV_nils, lngV_slc, bin_add, bin_sub, bin_mul, bin_eql, bin_neq, bin_lss, bin_leq, bin_gtr, bin_geq, mnmxV2max, mnmxV2min, resVal, resVals, ARes.val, wp_loop, echoOk_nil, wp_call, true_and, and_true, List.map_cons, List.map_nil, wp_store, wp_append, bindX_some, run_bslice1, bs1V_int, bs1V_slc, bs1V_nils, val_slc, val_ptr, Nat.zero_add, Nat.add_zero, Int.reduceEq, Int.reduceLT, Int.reduceLE, Nat.reduceAdd, nileq_ptr, nilne_ptr, nileq_nilp, nilne_nilp, nileq_slc, nilne_slc, nileq_nils, nilne_nils, run_build0, run_box, run_bslice0, run_slS, Option.map_some, Option.map_none]
  obtain ⟨I, hI⟩ : ∃ I : Nat → Env → AHeap → Prop, ∀ m e H', I m e H' ↔ (H' = H4 ∧ ∃ k : Nat, m = n - k ∧ k ≤ n ∧ Env.get e 5 = a ∧ Env.get e 6 = b ∧ Env.get e 7 = .int .i64 k) := ⟨_, fun _ _ _ => Iff.rfl⟩
  refine loop_by I n ?_ ?_
  · refine (hI _ _ _).2 ⟨rfl, 0, rfl, by omega, ?_⟩
    simp only [wp_skip, wp_ops, wp_seq, wp_cond, wp_block, wp_exit, wp_ret, wops_nil, wops_cons, stepX_r, stepX_a, stepX_e, bindO_some, bindA_some, nextV_eq, nextA_eq, nextE_eq, seqK_normal, seqK_exit, seqK_ret, blockK_normal, blockK_exit, blockK_ret, loopK_normal, loopK_exit, loopK_ret, condK_true, condK_false, fnK_normal, fnK_ret, bindR_some, want_none, want_some, wantV_true, wantV_false, Env.get_put, Env.get_init, Opd.ev, List.getD_cons_succ, List.getD_cons_zero, Option.some.injEq, reduceCtorEq, Nat.reduceEqDiff, ↓reduceIte, Bool.not_true, Bool.not_false, Bool.false_eq_true, decide_true, decide_false, run_mv, run_pick, run_nilck, run_bin, run_beq, run_nileq, run_seq, run_neg, run_not, run_cvInt, run_cvRune, run_cvStr, run_mkIface, run_field, run_fieldAddr, run_idxS, run_idxA, run_idxArr, run_idxStr, run_extract, run_lng, run_load, run_strOfBytes, run_lenC, run_mkFn, run_mnmx, pickV_true, pickV_false, nilckV_ptr, beqV_bool, negV_int, notV_bool, cvIntV_int, cvStrV_str, fieldAddrV_ptr, lngV_str, lngV_nils, lngV_slc, bin_add, bin_sub, bin_mul, bin_eql, bin_neq, bin_lss, bin_leq, bin_gtr, bin_geq, mnmxV2max, mnmxV2min, resVal, resVals, ARes.val, wp_loop, echoOk_nil, wp_call, true_and, and_true, List.map_cons, List.map_nil, wp_store, wp_append, bindX_some, run_bslice1, bs1V_int, bs1V_slc, bs1V_nils, val_slc, val_ptr, Nat.zero_add, Nat.add_zero, Int.reduceEq, Int.reduceLT, Int.reduceLE, Nat.reduceAdd, nileq_ptr, nilne_ptr, nileq_nilp, nilne_nilp, nileq_slc, nilne_slc, nileq_nils, nilne_nils, run_build0, run_box, run_bslice0, run_slS, Option.map_some, Option.map_none]
    rfl
  · intro m e H' hinv
    obtain ⟨rfl, k, rfl, hk, e5, e6, e7⟩ := (hI _ _ _).1 hinv
    by_cases h4 : (k : Int) < n
    · have h3 : k < B.length := by omega
      obtain ⟨l, hlk⟩ : ∃ l, B[k]? = some l := ⟨_, List.getElem?_eq_getElem h3⟩
      obtain ⟨ll1, ll2, ll3⟩ := g3' l (List.mem_of_getElem? hlk)
      obtain ⟨cb, gb, ibk⟩ := ib.get (i := k) (a := l) (by simpa using hlk)
      have xb := ib.at (i := k) (by omega) (by omega) .i64
      have lb2 := IsSl.len ibk
      obtain ⟨q, hq2⟩ : ∃ q, l.length = q := ⟨_, rfl⟩
      rw [hq2] at lb2 ll1 ll2
      have d1 : ¬ (q : Int) < 1 := by omega
      have d2 : ¬ (8 : Int) < q := by omega
      have hw : IntKind.wrap .i64 ((k : Int) + 1) = ((k + 1 : Nat) : Int) := by rw [wrapI64 (by omega) (by omega)]; rfl
      simp only [e5, e6, e7, la, lb, h4, xb, gb, lb2, d1, d2, wp_skip, wp_ops, wp_seq, wp_cond, wp_block, wp_exit, wp_ret, wops_nil, wops_cons, stepX_r, stepX_a, stepX_e, bindO_some, bindA_some, nextV_eq, nextA_eq, nextE_eq, seqK_normal, seqK_exit, seqK_ret, blockK_normal, blockK_exit, blockK_ret, loopK_normal, loopK_exit, loopK_ret, condK_true, condK_false, fnK_normal, fnK_ret, bindR_some, want_none, want_some, wantV_true, wantV_false, Env.get_put, Env.get_init, Opd.ev, List.getD_cons_succ, List.getD_cons_zero, Option.some.injEq, reduceCtorEq, Nat.reduceEqDiff, ↓reduceIte, Bool.not_true, Bool.not_false, Bool.false_eq_true, decide_true, decide_false, run_mv, run_pick, run_nilck, run_bin, run_beq, run_nileq, run_seq, run_neg, run_not, run_cvInt, run_cvRune, run_cvStr, run_mkIface, run_field, run_fieldAddr, run_idxS, run_idxA, run_idxArr, run_idxStr, run_extract, run_lng, run_load, run_strOfBytes, run_lenC, run_mkFn, run_mnmx, pickV_true, pickV_false, nilckV_ptr, beqV_bool, negV_int, notV_bool, cvIntV_int, cvStrV_str, fieldAddrV_ptr, lngV_str, lngV_nils, lngV_slc, bin_add, bin_sub, bin_mul, bin_eql, bin_neq, bin_lss, bin_leq, bin_gtr, bin_geq, mnmxV2max, mnmxV2min, resVal, resVals, ARes.val, wp_loop, echoOk_nil, wp_call, true_and, and_true, List.map_cons, List.map_nil, wp_store, wp_append, bindX_some, run_bslice1, bs1V_int, bs1V_slc, bs1V_nils, val_slc, val_ptr, Nat.zero_add, Nat.add_zero, Int.reduceEq, Int.reduceLT, Int.reduceLE, Nat.reduceAdd, nileq_ptr, nilne_ptr, nileq_nilp, nilne_nilp, nileq_slc, nilne_slc, nileq_nils, nilne_nils, run_build0, run_box, run_bslice0, run_slS, Option.map_some, Option.map_none]
      obtain ⟨J, hJ⟩ : ∃ J : Nat → Env → AHeap → Prop, ∀ m' e H2, J m' e H2 ↔ (H2 = H' ∧ ∃ j : Nat, m' = q - j ∧ j ≤ q ∧ Env.get e 5 = a ∧ Env.get e 6 = b ∧ Env.get e 7 = .int .i64 k ∧ Env.get e 8 = .int .i64 j) := ⟨_, fun _ _ _ => Iff.rfl⟩
      refine loop_by J q ?_ ?_
      · refine (hJ _ _ _).2 ⟨rfl, 0, rfl, by omega, ?_⟩
        simp only [e5, e6, e7, wp_skip, wp_ops, wp_seq, wp_cond, wp_block, wp_exit, wp_ret, wops_nil, wops_cons, stepX_r, stepX_a, stepX_e, bindO_some, bindA_some, nextV_eq, nextA_eq, nextE_eq, seqK_normal, seqK_exit, seqK_ret, blockK_normal, blockK_exit, blockK_ret, loopK_normal, loopK_exit, loopK_ret, condK_true, condK_false, fnK_normal, fnK_ret, bindR_some, want_none, want_some, wantV_true, wantV_false, Env.get_put, Env.get_init, Opd.ev, List.getD_cons_succ, List.getD_cons_zero, Option.some.injEq, reduceCtorEq, Nat.reduceEqDiff, ↓reduceIte, Bool.not_true, Bool.not_false, Bool.false_eq_true, decide_true, decide_false, run_mv, run_pick, run_nilck, run_bin, run_beq, run_nileq, run_seq, run_neg, run_not, run_cvInt, run_cvRune, run_cvStr, run_mkIface, run_field, run_fieldAddr, run_idxS, run_idxA, run_idxArr, run_idxStr, run_extract, run_lng, run_load, run_strOfBytes, run_lenC, run_mkFn, run_mnmx, pickV_true, pickV_false, nilckV_ptr, beqV_bool, negV_int, notV_bool, cvIntV_int, cvStrV_str, fieldAddrV_ptr, lngV_str, lngV_nils, lngV_slc, bin_add, bin_sub, bin_mul, bin_eql, bin_neq, bin_lss, bin_leq, bin_gtr, bin_geq, mnmxV2max, mnmxV2min, resVal, resVals, ARes.val, wp_loop, echoOk_nil, wp_call, true_and, and_true, List.map_cons, List.map_nil, wp_store, wp_append, bindX_some, run_bslice1, bs1V_int, bs1V_slc, bs1V_nils, val_slc, val_ptr, Nat.zero_add, Nat.add_zero, Int.reduceEq, Int.reduceLT, Int.reduceLE, Nat.reduceAdd, nileq_ptr, nilne_ptr, nileq_nilp, nilne_nilp, nileq_slc, nilne_slc, nileq_nils, nilne_nils, run_build0, run_box, run_bslice0, run_slS, Option.map_some, Option.map_none]
        rfl
      · intro m' e' H2 hinv'
        obtain ⟨rfl, j, rfl, hj, f5, f6, f7, f8⟩ := (hJ _ _ _).1 hinv'
        by_cases h5 : (j : Int) < q
        · obtain ⟨x, hx⟩ : ∃ x, l[j]? = some x := ⟨_, List.getElem?_eq_getElem (by omega)⟩
          obtain ⟨x1, x2⟩ := ll3 x (List.mem_of_getElem? hx)
          have yb := IsSl.at ibk (i := j) (by omega) (by omega) .i64
          have zb := IsSl.int ibk (i := j) (a := x) (by simpa using hx)
          have d3 : ¬ x < 0 := by omega
          have d4 : ¬ 9999 < x := by omega
          have hw2 : IntKind.wrap .i64 ((j : Int) + 1) = ((j + 1 : Nat) : Int) := by rw [wrapI64 (by omega) (by omega)]; rfl
          simp only [f5, f6, f7, f8, la, lb, h4, xb, gb, lb2, h5, yb, zb, d3, d4, hw2, wp_skip, wp_ops, wp_seq, wp_cond, wp_block, wp_exit, wp_ret, wops_nil, wops_cons, stepX_r, stepX_a, stepX_e, bindO_some, bindA_some, nextV_eq, nextA_eq, nextE_eq, seqK_normal, seqK_exit, seqK_ret, blockK_normal, blockK_exit, blockK_ret, loopK_normal, loopK_exit, loopK_ret, condK_true, condK_false, fnK_normal, fnK_ret, bindR_some, want_none, want_some, wantV_true, wantV_false, Env.get_put, Env.get_init, Opd.ev, List.getD_cons_succ, List.getD_cons_zero, Option.some.injEq, reduceCtorEq, Nat.reduceEqDiff, ↓reduceIte, Bool.not_true, Bool.not_false, Bool.false_eq_true, decide_true, decide_false, run_mv, run_pick, run_nilck, run_bin, run_beq, run_nileq, run_seq, run_neg, run_not, run_cvInt, run_cvRune, run_cvStr, run_mkIface, run_field, run_fieldAddr, run_idxS, run_idxA, run_idxArr, run_idxStr, run_extract, run_lng, run_load, run_strOfBytes, run_lenC, run_mkFn, run_mnmx, pickV_true, pickV_false, nilckV_ptr, beqV_bool, negV_int, notV_bool, cvIntV_int, cvStrV_str, fieldAddrV_ptr, lngV_str, lngV_nils, lngV_slc, bin_add, bin_sub, bin_mul, bin_eql, bin_neq, bin_lss, bin_leq, bin_gtr, bin_geq, mnmxV2max, mnmxV2min, resVal, resVals, ARes.val, wp_loop, echoOk_nil, wp_call, true_and, and_true, List.map_cons, List.map_nil, wp_store, wp_append, bindX_some, run_bslice1, bs1V_int, bs1V_slc, bs1V_nils, val_slc, val_ptr, Nat.zero_add, Nat.add_zero, Int.reduceEq, Int.reduceLT, Int.reduceLE, Nat.reduceAdd, nileq_ptr, nilne_ptr, nileq_nilp, nilne_nilp, nileq_slc, nilne_slc, nileq_nils, nilne_nils, run_build0, run_box, run_bslice0, run_slS, Option.map_some, Option.map_none]
          refine ⟨q - (j + 1), by omega, (hJ _ _ _).2 ⟨rfl, j + 1, rfl, by omega, ?_⟩⟩
          simp only [f5, f6, f7, f8, wp_skip, wp_ops, wp_seq, wp_cond, wp_block, wp_exit, wp_ret, wops_nil, wops_cons, stepX_r, stepX_a, stepX_e, bindO_some, bindA_some, nextV_eq, nextA_eq, nextE_eq, seqK_normal, seqK_exit, seqK_ret, blockK_normal, blockK_exit, blockK_ret, loopK_normal, loopK_exit, loopK_ret, condK_true, condK_false, fnK_normal, fnK_ret, bindR_some, want_none, want_some, wantV_true, wantV_false, Env.get_put, Env.get_init, Opd.ev, List.getD_cons_succ, List.getD_cons_zero, Option.some.injEq, reduceCtorEq, Nat.reduceEqDiff, ↓reduceIte, Bool.not_true, Bool.not_false, Bool.false_eq_true, decide_true, decide_false, run_mv, run_pick, run_nilck, run_bin, run_beq, run_nileq, run_seq, run_neg, run_not, run_cvInt, run_cvRune, run_cvStr, run_mkIface, run_field, run_fieldAddr, run_idxS, run_idxA, run_idxArr, run_idxStr, run_extract, run_lng, run_load, run_strOfBytes, run_lenC, run_mkFn, run_mnmx, pickV_true, pickV_false, nilckV_ptr, beqV_bool, negV_int, notV_bool, cvIntV_int, cvStrV_str, fieldAddrV_ptr, lngV_str, lngV_nils, lngV_slc, bin_add, bin_sub, bin_mul, bin_eql, bin_neq, bin_lss, bin_leq, bin_gtr, bin_geq, mnmxV2max, mnmxV2min, resVal, resVals, ARes.val, wp_loop, echoOk_nil, wp_call, true_and, and_true, List.map_cons, List.map_nil, wp_store, wp_append, bindX_some, run_bslice1, bs1V_int, bs1V_slc, bs1V_nils, val_slc, val_ptr, Nat.zero_add, Nat.add_zero, Int.reduceEq, Int.reduceLT, Int.reduceLE, Nat.reduceAdd, nileq_ptr, nilne_ptr, nileq_nilp, nilne_nilp, nileq_slc, nilne_slc, nileq_nils, nilne_nils, run_build0, run_box, run_bslice0, run_slS, Option.map_some, Option.map_none]
        · simp only [f5, f6, f7, f8, la, lb, h4, xb, gb, lb2, h5, hw, wp_skip, wp_ops, wp_seq, wp_cond, wp_block, wp_exit, wp_ret, wops_nil, wops_cons, stepX_r, stepX_a, stepX_e, bindO_some, bindA_some, nextV_eq, nextA_eq, nextE_eq, seqK_normal, seqK_exit, seqK_ret, blockK_normal, blockK_exit, blockK_ret, loopK_normal, loopK_exit, loopK_ret, condK_true, condK_false, fnK_normal, fnK_ret, bindR_some, want_none, want_some, wantV_true, wantV_false, Env.get_put, Env.get_init, Opd.ev, List.getD_cons_succ, List.getD_cons_zero, Option.some.injEq, reduceCtorEq, Nat.reduceEqDiff, ↓reduceIte, Bool.not_true, Bool.not_false, Bool.false_eq_true, decide_true, decide_false, run_mv, run_pick, run_nilck, run_bin, run_beq, run_nileq, run_seq, run_neg, run_not, run_cvInt, run_cvRune, run_cvStr, run_mkIface, run_field, run_fieldAddr, run_idxS, run_idxA, run_idxArr, run_idxStr, run_extract, run_lng, run_load, run_strOfBytes, run_lenC, run_mkFn, run_mnmx, pickV_true, pickV_false, nilckV_ptr, beqV_bool, negV_int, notV_bool, cvIntV_int, cvStrV_str, fieldAddrV_ptr, lngV_str, lngV_nils, lngV_slc, bin_add, bin_sub, bin_mul, bin_eql, bin_neq, bin_lss, bin_leq, bin_gtr, bin_geq, mnmxV2max, mnmxV2min, resVal, resVals, ARes.val, wp_loop, echoOk_nil, wp_call, true_and, and_true, List.map_cons, List.map_nil, wp_store, wp_append, bindX_some, run_bslice1, bs1V_int, bs1V_slc, bs1V_nils, val_slc, val_ptr, Nat.zero_add, Nat.add_zero, Int.reduceEq, Int.reduceLT, Int.reduceLE, Nat.reduceAdd, nileq_ptr, nilne_ptr, nileq_nilp, nilne_nilp, nileq_slc, nilne_slc, nileq_nils, nilne_nils, run_build0, run_box, run_bslice0, run_slS, Option.map_some, Option.map_none]
          refine ⟨n - (k + 1), by omega, (hI _ _ _).2 ⟨rfl, k + 1, rfl, by omega, ?_⟩⟩
          simp only [f5, f6, f7, f8, wp_skip, wp_ops, wp_seq, wp_cond, wp_block, wp_exit, wp_ret, wops_nil, wops_cons, stepX_r, stepX_a, stepX_e, bindO_some, bindA_some, nextV_eq, nextA_eq, nextE_eq, seqK_normal, seqK_exit, seqK_ret, blockK_normal, blockK_exit, blockK_ret, loopK_normal, loopK_exit, loopK_ret, condK_true, condK_false, fnK_normal, fnK_ret, bindR_some, want_none, want_some, wantV_true, wantV_false, Env.get_put, Env.get_init, Opd.ev, List.getD_cons_succ, List.getD_cons_zero, Option.some.injEq, reduceCtorEq, Nat.reduceEqDiff, ↓reduceIte, Bool.not_true, Bool.not_false, Bool.false_eq_true, decide_true, decide_false, run_mv, run_pick, run_nilck, run_bin, run_beq, run_nileq, run_seq, run_neg, run_not, run_cvInt, run_cvRune, run_cvStr, run_mkIface, run_field, run_fieldAddr, run_idxS, run_idxA, run_idxArr, run_idxStr, run_extract, run_lng, run_load, run_strOfBytes, run_lenC, run_mkFn, run_mnmx, pickV_true, pickV_false, nilckV_ptr, beqV_bool, negV_int, notV_bool, cvIntV_int, cvStrV_str, fieldAddrV_ptr, lngV_str, lngV_nils, lngV_slc, bin_add, bin_sub, bin_mul, bin_eql, bin_neq, bin_lss, bin_leq, bin_gtr, bin_geq, mnmxV2max, mnmxV2min, resVal, resVals, ARes.val, wp_loop, echoOk_nil, wp_call, true_and, and_true, List.map_cons, List.map_nil, wp_store, wp_append, bindX_some, run_bslice1, bs1V_int, bs1V_slc, bs1V_nils, val_slc, val_ptr, Nat.zero_add, Nat.add_zero, Int.reduceEq, Int.reduceLT, Int.reduceLE, Nat.reduceAdd, nileq_ptr, nilne_ptr, nileq_nilp, nilne_nilp, nileq_slc, nilne_slc, nileq_nils, nilne_nils, run_build0, run_box, run_bslice0, run_slS, Option.map_some, Option.map_none]
    · simp only [e5, e6, e7, la, lb, h4, hw1, wp_skip, wp_ops, wp_seq, wp_cond, wp_block, wp_exit, wp_ret, wops_nil, wops_cons, stepX_r, stepX_a, stepX_e, bindO_some, bindA_some, nextV_eq, nextA_eq, nextE_eq, seqK_normal, seqK_exit, seqK_ret, blockK_normal, blockK_exit, blockK_ret, loopK_normal, loopK_exit, loopK_ret, condK_true, condK_false, fnK_normal, fnK_ret, bindR_some, want_none, want_some, wantV_true, wantV_false, Env.get_put, Env.get_init, Opd.ev, List.getD_cons_succ, List.getD_cons_zero, Option.some.injEq, reduceCtorEq, Nat.reduceEqDiff, ↓reduceIte, Bool.not_true, Bool.not_false, Bool.false_eq_true, decide_true, decide_false, run_mv, run_pick, run_nilck, run_bin, run_beq, run_nileq, run_seq, run_neg, run_not, run_cvInt, run_cvRune, run_cvStr, run_mkIface, run_field, run_fieldAddr, run_idxS, run_idxA, run_idxArr, run_idxStr, run_extract, run_lng, run_load, run_strOfBytes, run_lenC, run_mkFn, run_mnmx, pickV_true, pickV_false, nilckV_ptr, beqV_bool, negV_int, notV_bool, cvIntV_int, cvStrV_str, fieldAddrV_ptr, lngV_str, lngV_nils, lngV_slc, bin_add, bin_sub, bin_mul, bin_eql, bin_neq, bin_lss, bin_leq, bin_gtr, bin_geq, mnmxV2max, mnmxV2min, resVal, resVals, ARes.val, wp_loop, echoOk_nil, wp_call, true_and, and_true, List.map_cons, List.map_nil, wp_store, wp_append, bindX_some, run_bslice1, bs1V_int, bs1V_slc, bs1V_nils, val_slc, val_ptr, Nat.zero_add, Nat.add_zero, Int.reduceEq, Int.reduceLT, Int.reduceLE, Nat.reduceAdd, nileq_ptr, nilne_ptr, nileq_nilp, nilne_nilp, nileq_slc, nilne_slc, nileq_nils, nilne_nils, run_build0, run_box, run_bslice0, run_slS, Option.map_some, Option.map_none]
      have gl := good_len g1
      rw [hA] at gl
      refine (same_spec q10 (ho 10 rfl) hw2 ia gl.1 gl.2).mono ?_
      rintro rc H5 ⟨rfl, rfl⟩
      simp only [wp_skip, wp_ops, wp_seq, wp_cond, wp_block, wp_exit, wp_ret, wops_nil, wops_cons, stepX_r, stepX_a, stepX_e, bindO_some, bindA_some, nextV_eq, nextA_eq, nextE_eq, seqK_normal, seqK_exit, seqK_ret, blockK_normal, blockK_exit, blockK_ret, loopK_normal, loopK_exit, loopK_ret, condK_true, condK_false, fnK_normal, fnK_ret, bindR_some, want_none, want_some, wantV_true, wantV_false, Env.get_put, Env.get_init, Opd.ev, List.getD_cons_succ, List.getD_cons_zero, Option.some.injEq, reduceCtorEq, Nat.reduceEqDiff, ↓reduceIte, Bool.not_true, Bool.not_false, Bool.false_eq_true, decide_true, decide_false, run_mv, run_pick, run_nilck, run_bin, run_beq, run_nileq, run_seq, run_neg, run_not, run_cvInt, run_cvRune, run_cvStr, run_mkIface, run_field, run_fieldAddr, run_idxS, run_idxA, run_idxArr, run_idxStr, run_extract, run_lng, run_load, run_strOfBytes, run_lenC, run_mkFn, run_mnmx, pickV_true, pickV_false, nilckV_ptr, beqV_bool, negV_int, notV_bool, cvIntV_int, cvStrV_str, fieldAddrV_ptr, lngV_str, lngV_nils, lngV_slc, bin_add, bin_sub, bin_mul, bin_eql, bin_neq, bin_lss, bin_leq, bin_gtr, bin_geq, mnmxV2max, mnmxV2min, resVal, resVals, ARes.val, wp_loop, echoOk_nil, wp_call, true_and, and_true, List.map_cons, List.map_nil, wp_store, wp_append, bindX_some, run_bslice1, bs1V_int, bs1V_slc, bs1V_nils, val_slc, val_ptr, Nat.zero_add, Nat.add_zero, Int.reduceEq, Int.reduceLT, Int.reduceLE, Nat.reduceAdd, nileq_ptr, nilne_ptr, nileq_nilp, nilne_nilp, nileq_slc, nilne_slc, nileq_nils, nilne_nils, run_build0, run_box, run_bslice0, run_slS, Option.map_some, Option.map_none]
end Go.Proofs.Ytbokakhpdlkkkaa.AM
