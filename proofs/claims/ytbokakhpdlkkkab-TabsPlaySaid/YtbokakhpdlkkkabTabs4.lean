/-
  Next, Prev and all of stops that are there, walked on the abstract machine.
-/
import Derived.Test.YtbokakhpdlkkkabTabs3
set_option linter.unusedVariables false
set_option linter.unusedSimpArgs false
namespace Go.Proofs.Ytbokakhpdlkkkab.AM
open Go
theorem Il.loopS {base n0 : Nat} {H : AHeap} {l : List Cel} {v : AV} {x : List Int} (h : Il base n0 H l v x) {b : Nat} {R : ALoop} (hb : H.get b = some (.loop R)) (R' : ALoop) : Il base n0 (H.set b (.loop R')) l v x := by
  rcases h with ⟨h1, h2, h⟩ | ⟨b, h1, h2, h3, h⟩
  · exact .inl ⟨h1, h2, h.loopS hb _⟩
  · exact .inr ⟨b, h1, h2, h3, h.loopS hb _⟩
/-- a list and a block for the number that comes -/
theorem Il.tmp {base n0 : Nat} {H : AHeap} {l : List Cel} {v : AV} {x : List Int} (h : Il base n0 H l v x) {y : Int} :
    ∃ H', H.alloc (.row ⟨[.int .i64 y], 0, false, true⟩) = H' ∧ Il base n0 H' (⟨H.next, 1, [.int .i64 y]⟩ :: l) v x ∧ (∀ c, c < H.next → H'.get c = H.get c) ∧ H'.next = H.next + 1 := by
  refine ⟨_, rfl, ?_, fun c hc => by rw [AHeap.get_alloc, if_neg (by omega)], rfl⟩
  rcases h with ⟨h1, h2, h⟩ | ⟨b, h1, h2, h3, h⟩
  · exact .inl ⟨h1, h2, h.alloc _ _ _ (.inl rfl)⟩
  · exact .inr ⟨b, h1, h2, h3, (h.alloc _ _ _ (.inl rfl)).swap⟩
/-- the list is put where it is kept -/
theorem Il.put {base n0 : Nat} {H : AHeap} {l : List Cel} {v : AV} {x : List Int} {t : Cel} {s k : Nat} {cs : List AV} {o : Nat} (h : Il base n0 H (t :: ⟨s, k, cs⟩ :: l) v x) (hv : v.one = true) (ho : o < cs.length) :
    ∃ H', storeE H 1 (.ptr s o) v = some (.undef, H') ∧ Il base n0 H' (⟨s, k, cs.set o v⟩ :: l) v x ∧ (∀ c, c ≠ s → H'.get c = H.get c) ∧ H'.next = H.next := by
  rcases h with ⟨h1, h2, h⟩ | ⟨b, h1, h2, h3, h⟩
  · obtain ⟨H', s1, b1, f1, n1⟩ := (h.drop).storeF hv ho
    exact ⟨H', s1, .inl ⟨h1, h2, b1⟩, f1, n1⟩
  · obtain ⟨H', s1, b1, f1, n1⟩ := (h.swap.drop.swap).storeF hv ho
    exact ⟨H', s1, .inr ⟨b, h1, h2, h3, b1.swap⟩, f1, n1⟩
theorem Il.one {base n0 : Nat} {H : AHeap} {l : List Cel} {v : AV} {x : List Int} (h : Il base n0 H l v x) : v.one = true := by
  rcases h with ⟨_, rfl, _⟩ | ⟨b, _, _, rfl, _⟩ <;> rfl
theorem Il.sl {base n0 : Nat} {H : AHeap} {l : List Cel} {v : AV} {x : List Int} (h : Il base n0 H l v x) : IsSl IsInt H v x := by
  rcases h with ⟨rfl, rfl, _⟩ | ⟨b, _, _, rfl, h⟩
  · exact .inl ⟨rfl, rfl⟩
  · obtain ⟨B, r, c⟩ := h.rowOf (b := b) (k := 1) (cs := ints x) (by simp)
    refine .inr ⟨b, 0, x.length, B, rfl, r, fun i y hy => ⟨.int .i64 y, ?_, rfl⟩⟩
    rw [c, Nat.zero_add, ints, List.getElem?_map, hy]; rfl
def above (x : Int) (l : List Int) : List Int := l.filter (fun s => decide (x < s))
def below (x : Int) (l : List Int) : List Int := l.filter (fun s => decide (s < x))
def cntN (n : Int) : Nat := (max n 1).toNat
def nextP (L : List Bool) (x n : Int) : Int := ((above x (stops L))[cntN n - 1]?).getD (max ((L.length : Int) - 1) 0)
def prevP (L : List Bool) (x n : Int) : Int := let P := below x (stops L); if P.length < cntN n then 0 else (P[P.length - cntN n]?).getD 0
theorem above_app (x : Int) (a b : List Int) : above x (a ++ b) = above x a ++ above x b := List.filter_append ..
theorem below_app (x : Int) (a b : List Int) : below x (a ++ b) = below x a ++ below x b := List.filter_append ..
theorem above_one (x y : Int) : above x [y] = if x < y then [y] else [] := by unfold above; by_cases h : x < y <;> simp [h]
theorem below_one (x y : Int) : below x [y] = if y < x then [y] else [] := by unfold below; by_cases h : y < x <;> simp [h]
theorem pre_filter {p : Int → Bool} {a b : List Int} (h : a <+: b) : a.filter p <+: b.filter p := h.filter p
theorem pre_get {a b : List Int} (h : a <+: b) {i : Nat} {x : Int} (hx : a[i]? = some x) : b[i]? = some x := by
  obtain ⟨c, rfl⟩ := h
  rw [List.getElem?_append_left (List.getElem?_eq_some_iff.1 hx).1]
  exact hx
theorem stops_len (L : List Bool) : (stops L).length ≤ L.length := stopsF_len L 0
theorem keep_setS {base : Nat} {H : AHeap} {b : Nat} (hb : base ≤ b) (o : AObj) : Keep base H (H.set b o) := fun c hc => by rw [AHeap.get_set, if_neg (by omega)]
section
variable {Q : Prog} (tq : TabQ2 Q) {H : AHeap}
include tq
set_option maxHeartbeats 8000000 in
theorem next_spec (hf : Fr H) {p : Nat} {v : AV} {L : List Bool} (rs : RdS H p v L) (h1 : 1 ≤ L.length) (h2 : L.length ≤ 1000) {x n : Int} (hn : n ≤ 9223372036854775807) :
    FnTo Q 32 [.ptr p 0, .int .i64 x, .int .i64 n] H (fun r H' => r = .int .i64 (nextP L x n) ∧ Gr H H') := by
  refine fn_wp (tq.no 32 rfl _) tq.q32 (by simp [A32]) ?_
  obtain ⟨m, hm⟩ : ∃ m : Nat, (m : Int) = max n 1 := ⟨(max n 1).toNat, by omega⟩
  have hcn : cntN n = m := by unfold cntN; omega
  obtain ⟨H1, s1, g1, k1⟩ := (Hp.nil H hf).make [.int .i64 x] 1
  obtain ⟨H2, s2, g2, k2⟩ := g1.make [.int .i64 n] 1
  obtain ⟨H3, s3, g3, k3⟩ := g2.make [.int .i64 0] 1
  have ln := g3.load (b := H1.next) (k := 1) (cs := [.int .i64 n]) (by simp) (o := 0) rfl
  obtain ⟨H4, s4, g4, k4, n4⟩ := (g3.swap).store (o := 0) (v := .int .i64 (max n 1)) rfl (by simp)
  have gr4 : Gr H H4 := ⟨((k1.trans k2).trans k3).trans k4, g4.bn, g4.fr⟩
  have rs4 := rs.grow hf gr4
  have ld4 := rs4.ld
  have len4 := rs4.sl.len
  have w1 : IntKind.wrap .i64 ((L.length : Int) - 1) = (L.length : Int) - 1 := wrapI64 (by omega) (by omega)
  simp only [A32, boxV_int, run_allocL, s1, s2, s3, ln, s4, ld4, len4, w1, wp_skip, wp_ops, wp_seq, wp_cond, wp_block, wp_exit, wp_ret, wops_nil, wops_cons, stepX_r, stepX_a, stepX_e, bindO_some, bindA_some, nextV_eq, nextA_eq, nextE_eq, seqK_normal, seqK_exit, seqK_ret, blockK_normal, blockK_exit, blockK_ret, loopK_normal, loopK_exit, loopK_ret, condK_true, condK_false, fnK_normal, fnK_ret, bindR_some, want_none, want_some, wantV_true, wantV_false, Env.get_put, Env.get_init, Opd.ev, List.getD_cons_succ, List.getD_cons_zero, Option.some.injEq, reduceCtorEq, Nat.reduceEqDiff, ↓reduceIte, Bool.not_true, Bool.not_false, Bool.false_eq_true, decide_true, decide_false, run_mv, run_pick, run_nilck, run_bin, run_beq, run_nileq, run_seq, run_neg, run_not, run_cvInt, run_cvRune, run_cvStr, run_mkIface, run_field, run_fieldAddr, run_idxS, run_idxA, run_idxArr, run_idxStr, run_extract, run_lng, run_load, run_strOfBytes, run_lenC, run_mkFn, run_mnmx, pickV_true, pickV_false, nilckV_ptr, beqV_bool, negV_int, notV_bool, cvIntV_int, cvStrV_str, fieldAddrV_ptr, lngV_str, lngV_nils, lngV_slc, bin_add, bin_sub, bin_mul, bin_eql, bin_neq, bin_lss, bin_leq, bin_gtr, bin_geq, mnmxV2max, mnmxV2min, resVal, resVals, ARes.val, wp_loop, echoOk_nil, wp_call, true_and, and_true, List.map_cons, List.map_nil, wp_store, wp_append, bindX_some, run_bslice1, bs1V_int, bs1V_slc, bs1V_nils, val_slc, val_ptr, Nat.zero_add, Nat.add_zero, Int.reduceEq, Int.reduceLT, Int.reduceLE, Nat.reduceAdd, nileq_ptr, nilne_ptr, nileq_nilp, nilne_nilp, nileq_slc, nilne_slc, nileq_nils, nilne_nils, run_build0, run_box, run_bslice0, run_slS, Option.map_some, Option.map_none]
  refine (all_spec0 tq (boxV_ptr p 0)).mono ?_
  rintro r H5 ⟨rfl, rfl⟩
  obtain ⟨H5, s5, g5, k5⟩ := g4.make [.ptr p 0] 1
  rw [s5]
  have n2 : H2.next = H1.next + 1 := by rw [← s2]; rfl
  have n1 : H1.next = H.next + 1 := by rw [← s1]; rfl
  have n3 : H3.next = H2.next + 1 := by rw [← s3]; rfl
  have n5 : H5.next = H4.next + 1 := by rw [← s5]; rfl
  have gr5 : Gr H H5 := ⟨gr4.keep.trans k5, g5.bn, g5.fr⟩
  have lc5 := g5.load (b := H4.next) (k := 1) (cs := [.ptr p 0]) (by simp) (o := 0) rfl
  simp only [wp_rangeF, wp_skip, wp_ops, wp_seq, wp_cond, wp_block, wp_exit, wp_ret, wops_nil, wops_cons, stepX_r, stepX_a, stepX_e, bindO_some, bindA_some, nextV_eq, nextA_eq, nextE_eq, seqK_normal, seqK_exit, seqK_ret, blockK_normal, blockK_exit, blockK_ret, loopK_normal, loopK_exit, loopK_ret, condK_true, condK_false, fnK_normal, fnK_ret, bindR_some, want_none, want_some, wantV_true, wantV_false, Env.get_put, Env.get_init, Opd.ev, List.getD_cons_succ, List.getD_cons_zero, Option.some.injEq, reduceCtorEq, Nat.reduceEqDiff, ↓reduceIte, Bool.not_true, Bool.not_false, Bool.false_eq_true, decide_true, decide_false, run_mv, run_pick, run_nilck, run_bin, run_beq, run_nileq, run_seq, run_neg, run_not, run_cvInt, run_cvRune, run_cvStr, run_mkIface, run_field, run_fieldAddr, run_idxS, run_idxA, run_idxArr, run_idxStr, run_extract, run_lng, run_load, run_strOfBytes, run_lenC, run_mkFn, run_mnmx, pickV_true, pickV_false, nilckV_ptr, beqV_bool, negV_int, notV_bool, cvIntV_int, cvStrV_str, fieldAddrV_ptr, lngV_str, lngV_nils, lngV_slc, bin_add, bin_sub, bin_mul, bin_eql, bin_neq, bin_lss, bin_leq, bin_gtr, bin_geq, mnmxV2max, mnmxV2min, resVal, resVals, ARes.val, wp_loop, echoOk_nil, wp_call, true_and, and_true, List.map_cons, List.map_nil, wp_store, wp_append, bindX_some, run_bslice1, bs1V_int, bs1V_slc, bs1V_nils, val_slc, val_ptr, Nat.zero_add, Nat.add_zero, Int.reduceEq, Int.reduceLT, Int.reduceLE, Nat.reduceAdd, nileq_ptr, nilne_ptr, nileq_nilp, nilne_nilp, nileq_slc, nilne_slc, nileq_nils, nilne_nils, run_build0, run_box, run_bslice0, run_slS, Option.map_some, Option.map_none]
  have hm1 : 1 ≤ m := by omega
  obtain ⟨I, hI⟩ : ∃ I : Nat → List Int → AHeap → Prop, ∀ cb acc H', I cb acc H' ↔ ((above x acc).length < m ∧ Keep H.next H H' ∧ Hp H.next H' [⟨H1.next, 1, [.int .i64 ((m - (above x acc).length : Nat) : Int)]⟩, ⟨H2.next, 1, [.int .i64 0]⟩, ⟨H.next, 1, [.int .i64 x]⟩, ⟨H4.next, 1, [.ptr p 0]⟩]) := ⟨_, fun _ _ _ => Iff.rfl⟩
  obtain ⟨J, hJ⟩ : ∃ J : Nat → List Int → AEx → AHeap → Prop, ∀ cb acc y H', J cb acc y H' ↔ (y = .ret ∧ Keep H.next H H' ∧ ∃ z, (above x acc)[m - 1]? = some z ∧ Hp H.next H' [⟨H2.next, 1, [.int .i64 z]⟩, ⟨H1.next, 1, [.int .i64 0]⟩, ⟨H.next, 1, [.int .i64 x]⟩, ⟨H4.next, 1, [.ptr p 0]⟩]) := ⟨_, fun _ _ _ _ => Iff.rfl⟩
  refine range_stops tq g5.fr lc5 (by omega) (rs.grow hf gr5) h1 (by omega) rfl rfl rfl I J ?_ ?_ ?_ ?_ ?_ ?_
  · intro cb acc H6 R0 R1 hl h6
    obtain ⟨a1, a2, a3⟩ := (hI _ _ _).1 h6
    exact (hI _ _ _).2 ⟨a1, a2.trans (keep_setS (by omega) _), a3.loopS hl _⟩
  · intro cb acc y H6 R0 R1 hl h6
    obtain ⟨a1, a2, z, a3, a4⟩ := (hJ _ _ _ _).1 h6
    exact (hJ _ _ _ _).2 ⟨a1, a2.trans (keep_setS (by omega) _), z, a3, a4.loopS hl _⟩
  · intro H6 cb g6 hc1 hc2
    refine (hI _ _ _).2 ⟨by simp [above]; omega, ?_, ?_⟩
    · intro b hb
      rw [g6.keep b (by show b < H5.next + 1; omega), AHeap.get_alloc, if_neg (by omega)]
      exact gr5.keep b hb
    · have gb := (g5.loopA _).keep g6.keep g6.next g6.fr
      have : ((m - (above x []).length : Nat) : Int) = max n 1 := by simp [above]; omega
      rw [this]
      exact gb.perm (List.perm_append_comm (l₁ := [_]) (l₂ := [_, _, _]))
  · intro cb acc z H0 H6 hl h6 hc1 hc2 hpre
    obtain ⟨a1, a2, a3⟩ := (hI _ _ _).1 h6
    have lx := a3.load (b := H.next) (k := 1) (cs := [.int .i64 x]) (by simp) (o := 0) rfl
    have lm := a3.load (b := H1.next) (k := 1) (cs := [.int .i64 ((m - (above x acc).length : Nat) : Int)]) (by simp) (o := 0) rfl
    by_cases d : x < z
    · obtain ⟨k, hk⟩ : ∃ k : Nat, m - (above x acc).length = k + 1 := ⟨m - (above x acc).length - 1, by omega⟩
      rw [hk] at lm a3
      have w2 : IntKind.wrap .i64 (((k + 1 : Nat) : Int) - 1) = (k : Int) := by rw [wrapI64 (by omega) (by omega)]; omega
      obtain ⟨H7, s7, b7, f7, n7⟩ := a3.storeF (o := 0) (v := .int .i64 (k : Int)) rfl (by simp)
      have lm7 := b7.load (b := H1.next) (k := 1) (cs := [.int .i64 (k : Int)]) (by simp) (o := 0) rfl
      have e7 : above x (acc ++ [z]) = above x acc ++ [z] := by rw [above_app, above_one, if_pos d]
      by_cases d2 : (k : Int) = 0
      · have d2' : decide ((k : Int) = 0) = true := by simp [d2]
        obtain ⟨H8, s8, b8, f8, n8⟩ := (b7.swap).storeF (o := 0) (v := .int .i64 z) rfl (by simp)
        simp only [putAll, lx, lm, d, w2, s7, lm7, d2', s8, wp_skip, wp_ops, wp_seq, wp_cond, wp_block, wp_exit, wp_ret, wops_nil, wops_cons, stepX_r, stepX_a, stepX_e, bindO_some, bindA_some, nextV_eq, nextA_eq, nextE_eq, seqK_normal, seqK_exit, seqK_ret, blockK_normal, blockK_exit, blockK_ret, loopK_normal, loopK_exit, loopK_ret, condK_true, condK_false, fnK_normal, fnK_ret, bindR_some, want_none, want_some, wantV_true, wantV_false, Env.get_put, Env.get_init, Opd.ev, List.getD_cons_succ, List.getD_cons_zero, Option.some.injEq, reduceCtorEq, Nat.reduceEqDiff, ↓reduceIte, Bool.not_true, Bool.not_false, Bool.false_eq_true, decide_true, decide_false, run_mv, run_pick, run_nilck, run_bin, run_beq, run_nileq, run_seq, run_neg, run_not, run_cvInt, run_cvRune, run_cvStr, run_mkIface, run_field, run_fieldAddr, run_idxS, run_idxA, run_idxArr, run_idxStr, run_extract, run_lng, run_load, run_strOfBytes, run_lenC, run_mkFn, run_mnmx, pickV_true, pickV_false, nilckV_ptr, beqV_bool, negV_int, notV_bool, cvIntV_int, cvStrV_str, fieldAddrV_ptr, lngV_str, lngV_nils, lngV_slc, bin_add, bin_sub, bin_mul, bin_eql, bin_neq, bin_lss, bin_leq, bin_gtr, bin_geq, mnmxV2max, mnmxV2min, resVal, resVals, ARes.val, wp_loop, echoOk_nil, wp_call, true_and, and_true, List.map_cons, List.map_nil, wp_store, wp_append, bindX_some, run_bslice1, bs1V_int, bs1V_slc, bs1V_nils, val_slc, val_ptr, Nat.zero_add, Nat.add_zero, Int.reduceEq, Int.reduceLT, Int.reduceLE, Nat.reduceAdd, nileq_ptr, nilne_ptr, nileq_nilp, nilne_nilp, nileq_slc, nilne_slc, nileq_nils, nilne_nils, run_build0, run_box, run_bslice0, run_slS, Option.map_some, Option.map_none]
        refine ⟨by omega, by rw [f8 cb (by omega), f7 cb (by omega)], by rw [f8 _ (by omega), f7 _ (by omega)]; exact hl, .inr ⟨by simp, (hJ _ _ _ _).2 ⟨rfl, ?_, z, ?_, by rw [d2] at b8; exact b8⟩⟩⟩
        · exact fun b hb => by rw [f8 b (by omega), f7 b (by omega)]; exact a2 b hb
        · have hk0 : k = 0 := by omega
          rw [e7, List.getElem?_append_right (by omega)]
          have : m - 1 - (above x acc).length = 0 := by omega
          rw [this]; rfl
      · have d2' : decide ((k : Int) = 0) = false := by simpa using d2
        simp only [putAll, lx, lm, d, w2, s7, lm7, d2', wp_skip, wp_ops, wp_seq, wp_cond, wp_block, wp_exit, wp_ret, wops_nil, wops_cons, stepX_r, stepX_a, stepX_e, bindO_some, bindA_some, nextV_eq, nextA_eq, nextE_eq, seqK_normal, seqK_exit, seqK_ret, blockK_normal, blockK_exit, blockK_ret, loopK_normal, loopK_exit, loopK_ret, condK_true, condK_false, fnK_normal, fnK_ret, bindR_some, want_none, want_some, wantV_true, wantV_false, Env.get_put, Env.get_init, Opd.ev, List.getD_cons_succ, List.getD_cons_zero, Option.some.injEq, reduceCtorEq, Nat.reduceEqDiff, ↓reduceIte, Bool.not_true, Bool.not_false, Bool.false_eq_true, decide_true, decide_false, run_mv, run_pick, run_nilck, run_bin, run_beq, run_nileq, run_seq, run_neg, run_not, run_cvInt, run_cvRune, run_cvStr, run_mkIface, run_field, run_fieldAddr, run_idxS, run_idxA, run_idxArr, run_idxStr, run_extract, run_lng, run_load, run_strOfBytes, run_lenC, run_mkFn, run_mnmx, pickV_true, pickV_false, nilckV_ptr, beqV_bool, negV_int, notV_bool, cvIntV_int, cvStrV_str, fieldAddrV_ptr, lngV_str, lngV_nils, lngV_slc, bin_add, bin_sub, bin_mul, bin_eql, bin_neq, bin_lss, bin_leq, bin_gtr, bin_geq, mnmxV2max, mnmxV2min, resVal, resVals, ARes.val, wp_loop, echoOk_nil, wp_call, true_and, and_true, List.map_cons, List.map_nil, wp_store, wp_append, bindX_some, run_bslice1, bs1V_int, bs1V_slc, bs1V_nils, val_slc, val_ptr, Nat.zero_add, Nat.add_zero, Int.reduceEq, Int.reduceLT, Int.reduceLE, Nat.reduceAdd, nileq_ptr, nilne_ptr, nileq_nilp, nilne_nilp, nileq_slc, nilne_slc, nileq_nils, nilne_nils, run_build0, run_box, run_bslice0, run_slS, Option.map_some, Option.map_none]
        refine ⟨by omega, f7 cb (by omega), by rw [f7 _ (by omega)]; exact hl, .inl ((hI _ _ _).2 ⟨?_, ?_, ?_⟩)⟩
        · rw [e7]; simp; omega
        · exact fun b hb => by rw [f7 b (by omega)]; exact a2 b hb
        · have : m - (above x (acc ++ [z])).length = k := by rw [e7]; simp; omega
          rw [this]
          exact b7
    · have e7 : above x (acc ++ [z]) = above x acc := by rw [above_app, above_one, if_neg d, List.append_nil]
      simp only [putAll, lx, lm, d, wp_skip, wp_ops, wp_seq, wp_cond, wp_block, wp_exit, wp_ret, wops_nil, wops_cons, stepX_r, stepX_a, stepX_e, bindO_some, bindA_some, nextV_eq, nextA_eq, nextE_eq, seqK_normal, seqK_exit, seqK_ret, blockK_normal, blockK_exit, blockK_ret, loopK_normal, loopK_exit, loopK_ret, condK_true, condK_false, fnK_normal, fnK_ret, bindR_some, want_none, want_some, wantV_true, wantV_false, Env.get_put, Env.get_init, Opd.ev, List.getD_cons_succ, List.getD_cons_zero, Option.some.injEq, reduceCtorEq, Nat.reduceEqDiff, ↓reduceIte, Bool.not_true, Bool.not_false, Bool.false_eq_true, decide_true, decide_false, run_mv, run_pick, run_nilck, run_bin, run_beq, run_nileq, run_seq, run_neg, run_not, run_cvInt, run_cvRune, run_cvStr, run_mkIface, run_field, run_fieldAddr, run_idxS, run_idxA, run_idxArr, run_idxStr, run_extract, run_lng, run_load, run_strOfBytes, run_lenC, run_mkFn, run_mnmx, pickV_true, pickV_false, nilckV_ptr, beqV_bool, negV_int, notV_bool, cvIntV_int, cvStrV_str, fieldAddrV_ptr, lngV_str, lngV_nils, lngV_slc, bin_add, bin_sub, bin_mul, bin_eql, bin_neq, bin_lss, bin_leq, bin_gtr, bin_geq, mnmxV2max, mnmxV2min, resVal, resVals, ARes.val, wp_loop, echoOk_nil, wp_call, true_and, and_true, List.map_cons, List.map_nil, wp_store, wp_append, bindX_some, run_bslice1, bs1V_int, bs1V_slc, bs1V_nils, val_slc, val_ptr, Nat.zero_add, Nat.add_zero, Int.reduceEq, Int.reduceLT, Int.reduceLE, Nat.reduceAdd, nileq_ptr, nilne_ptr, nileq_nilp, nilne_nilp, nileq_slc, nilne_slc, nileq_nils, nilne_nils, run_build0, run_box, run_bslice0, run_slS, Option.map_some, Option.map_none]
      exact ⟨Nat.le_refl _, hl, .inl ((hI _ _ _).2 (by rw [e7]; exact ⟨a1, a2, a3⟩))⟩
  · intro cb H6 h6
    obtain ⟨a1, a2, a3⟩ := (hI _ _ _).1 h6
    obtain ⟨H7, s7, b7, k7, n7⟩ := (a3.swap).store (o := 0) (v := .int .i64 (max ((L.length : Int) - 1) 0)) rfl (by simp)
    have l7 := b7.load (b := H2.next) (k := 1) (cs := [.int .i64 (max ((L.length : Int) - 1) 0)]) (by simp) (o := 0) rfl
    simp only [s7, l7, resVal, resVals, ARes.val, wp_skip, wp_ops, wp_seq, wp_cond, wp_block, wp_exit, wp_ret, wops_nil, wops_cons, stepX_r, stepX_a, stepX_e, bindO_some, bindA_some, nextV_eq, nextA_eq, nextE_eq, seqK_normal, seqK_exit, seqK_ret, blockK_normal, blockK_exit, blockK_ret, loopK_normal, loopK_exit, loopK_ret, condK_true, condK_false, fnK_normal, fnK_ret, bindR_some, want_none, want_some, wantV_true, wantV_false, Env.get_put, Env.get_init, Opd.ev, List.getD_cons_succ, List.getD_cons_zero, Option.some.injEq, reduceCtorEq, Nat.reduceEqDiff, ↓reduceIte, Bool.not_true, Bool.not_false, Bool.false_eq_true, decide_true, decide_false, run_mv, run_pick, run_nilck, run_bin, run_beq, run_nileq, run_seq, run_neg, run_not, run_cvInt, run_cvRune, run_cvStr, run_mkIface, run_field, run_fieldAddr, run_idxS, run_idxA, run_idxArr, run_idxStr, run_extract, run_lng, run_load, run_strOfBytes, run_lenC, run_mkFn, run_mnmx, pickV_true, pickV_false, nilckV_ptr, beqV_bool, negV_int, notV_bool, cvIntV_int, cvStrV_str, fieldAddrV_ptr, lngV_str, lngV_nils, lngV_slc, bin_add, bin_sub, bin_mul, bin_eql, bin_neq, bin_lss, bin_leq, bin_gtr, bin_geq, mnmxV2max, mnmxV2min, resVal, resVals, ARes.val, wp_loop, echoOk_nil, wp_call, true_and, and_true, List.map_cons, List.map_nil, wp_store, wp_append, bindX_some, run_bslice1, bs1V_int, bs1V_slc, bs1V_nils, val_slc, val_ptr, Nat.zero_add, Nat.add_zero, Int.reduceEq, Int.reduceLT, Int.reduceLE, Nat.reduceAdd, nileq_ptr, nilne_ptr, nileq_nilp, nilne_nilp, nileq_slc, nilne_slc, nileq_nils, nilne_nils, run_build0, run_box, run_bslice0, run_slS, Option.map_some, Option.map_none]
    refine ⟨?_, a2.trans k7, b7.bn, b7.fr⟩
    simp only [nextP, hcn]
    rw [List.getElem?_eq_none (by omega)]
    rfl
  · intro cb acc y H6 hpre h6
    obtain ⟨rfl, a2, z, a3, a4⟩ := (hJ _ _ _ _).1 h6
    have l7 := a4.load (b := H2.next) (k := 1) (cs := [.int .i64 z]) (by simp) (o := 0) rfl
    simp only [l7, resVal, resVals, ARes.val, wp_skip, wp_ops, wp_seq, wp_cond, wp_block, wp_exit, wp_ret, wops_nil, wops_cons, stepX_r, stepX_a, stepX_e, bindO_some, bindA_some, nextV_eq, nextA_eq, nextE_eq, seqK_normal, seqK_exit, seqK_ret, blockK_normal, blockK_exit, blockK_ret, loopK_normal, loopK_exit, loopK_ret, condK_true, condK_false, fnK_normal, fnK_ret, bindR_some, want_none, want_some, wantV_true, wantV_false, Env.get_put, Env.get_init, Opd.ev, List.getD_cons_succ, List.getD_cons_zero, Option.some.injEq, reduceCtorEq, Nat.reduceEqDiff, ↓reduceIte, Bool.not_true, Bool.not_false, Bool.false_eq_true, decide_true, decide_false, run_mv, run_pick, run_nilck, run_bin, run_beq, run_nileq, run_seq, run_neg, run_not, run_cvInt, run_cvRune, run_cvStr, run_mkIface, run_field, run_fieldAddr, run_idxS, run_idxA, run_idxArr, run_idxStr, run_extract, run_lng, run_load, run_strOfBytes, run_lenC, run_mkFn, run_mnmx, pickV_true, pickV_false, nilckV_ptr, beqV_bool, negV_int, notV_bool, cvIntV_int, cvStrV_str, fieldAddrV_ptr, lngV_str, lngV_nils, lngV_slc, bin_add, bin_sub, bin_mul, bin_eql, bin_neq, bin_lss, bin_leq, bin_gtr, bin_geq, mnmxV2max, mnmxV2min, resVal, resVals, ARes.val, wp_loop, echoOk_nil, wp_call, true_and, and_true, List.map_cons, List.map_nil, wp_store, wp_append, bindX_some, run_bslice1, bs1V_int, bs1V_slc, bs1V_nils, val_slc, val_ptr, Nat.zero_add, Nat.add_zero, Int.reduceEq, Int.reduceLT, Int.reduceLE, Nat.reduceAdd, nileq_ptr, nilne_ptr, nileq_nilp, nilne_nilp, nileq_slc, nilne_slc, nileq_nils, nilne_nils, run_build0, run_box, run_bslice0, run_slS, Option.map_some, Option.map_none]
    refine ⟨?_, a2, a4.bn, a4.fr⟩
    simp only [nextP, hcn]
    rw [show (above x (stops L))[m - 1]? = some z from pre_get (pre_filter hpre) a3]
    rfl
set_option maxHeartbeats 8000000 in
theorem prev_spec (hf : Fr H) {p : Nat} {v : AV} {L : List Bool} (rs : RdS H p v L) (h1 : 1 ≤ L.length) (h2 : L.length ≤ 1000) {x n : Int} (hn : n ≤ 9223372036854775807) :
    FnTo Q 34 [.ptr p 0, .int .i64 x, .int .i64 n] H (fun r H' => r = .int .i64 (prevP L x n) ∧ Gr H H') := by
  refine fn_wp (tq.no 34 rfl _) tq.q34 (by simp [A34]) ?_
  obtain ⟨m, hm⟩ : ∃ m : Nat, (m : Int) = max n 1 := ⟨(max n 1).toNat, by omega⟩
  have hcn : cntN n = m := by unfold cntN; omega
  have hm1 : 1 ≤ m := by omega
  obtain ⟨H1, s1, g1, k1⟩ := (Hp.nil H hf).make [.int .i64 x] 1
  obtain ⟨H2, s2, g2, k2⟩ := g1.make [.nils] 1
  have gr2 : Gr H H2 := ⟨k1.trans k2, g2.bn, g2.fr⟩
  simp only [A34, boxV_int, run_allocL, s1, s2, wp_skip, wp_ops, wp_seq, wp_cond, wp_block, wp_exit, wp_ret, wops_nil, wops_cons, stepX_r, stepX_a, stepX_e, bindO_some, bindA_some, nextV_eq, nextA_eq, nextE_eq, seqK_normal, seqK_exit, seqK_ret, blockK_normal, blockK_exit, blockK_ret, loopK_normal, loopK_exit, loopK_ret, condK_true, condK_false, fnK_normal, fnK_ret, bindR_some, want_none, want_some, wantV_true, wantV_false, Env.get_put, Env.get_init, Opd.ev, List.getD_cons_succ, List.getD_cons_zero, Option.some.injEq, reduceCtorEq, Nat.reduceEqDiff, ↓reduceIte, Bool.not_true, Bool.not_false, Bool.false_eq_true, decide_true, decide_false, run_mv, run_pick, run_nilck, run_bin, run_beq, run_nileq, run_seq, run_neg, run_not, run_cvInt, run_cvRune, run_cvStr, run_mkIface, run_field, run_fieldAddr, run_idxS, run_idxA, run_idxArr, run_idxStr, run_extract, run_lng, run_load, run_strOfBytes, run_lenC, run_mkFn, run_mnmx, pickV_true, pickV_false, nilckV_ptr, beqV_bool, negV_int, notV_bool, cvIntV_int, cvStrV_str, fieldAddrV_ptr, lngV_str, lngV_nils, lngV_slc, bin_add, bin_sub, bin_mul, bin_eql, bin_neq, bin_lss, bin_leq, bin_gtr, bin_geq, mnmxV2max, mnmxV2min, resVal, resVals, ARes.val, wp_loop, echoOk_nil, wp_call, true_and, and_true, List.map_cons, List.map_nil, wp_store, wp_append, bindX_some, run_bslice1, bs1V_int, bs1V_slc, bs1V_nils, val_slc, val_ptr, Nat.zero_add, Nat.add_zero, Int.reduceEq, Int.reduceLT, Int.reduceLE, Nat.reduceAdd, nileq_ptr, nilne_ptr, nileq_nilp, nilne_nilp, nileq_slc, nilne_slc, nileq_nils, nilne_nils, run_build0, run_box, run_bslice0, run_slS, Option.map_some, Option.map_none]
  refine (all_spec0 tq (boxV_ptr p 0)).mono ?_
  rintro r H5 ⟨rfl, rfl⟩
  obtain ⟨H5, s5, g5, k5⟩ := g2.make [.ptr p 0] 1
  rw [s5]
  have n1 : H1.next = H.next + 1 := by rw [← s1]; rfl
  have n2 : H2.next = H1.next + 1 := by rw [← s2]; rfl
  have n5 : H5.next = H2.next + 1 := by rw [← s5]; rfl
  have gr5 : Gr H H5 := ⟨gr2.keep.trans k5, g5.bn, g5.fr⟩
  have lc5 := g5.load (b := H2.next) (k := 1) (cs := [.ptr p 0]) (by simp) (o := 0) rfl
  simp only [wp_rangeF, wp_skip, wp_ops, wp_seq, wp_cond, wp_block, wp_exit, wp_ret, wops_nil, wops_cons, stepX_r, stepX_a, stepX_e, bindO_some, bindA_some, nextV_eq, nextA_eq, nextE_eq, seqK_normal, seqK_exit, seqK_ret, blockK_normal, blockK_exit, blockK_ret, loopK_normal, loopK_exit, loopK_ret, condK_true, condK_false, fnK_normal, fnK_ret, bindR_some, want_none, want_some, wantV_true, wantV_false, Env.get_put, Env.get_init, Opd.ev, List.getD_cons_succ, List.getD_cons_zero, Option.some.injEq, reduceCtorEq, Nat.reduceEqDiff, ↓reduceIte, Bool.not_true, Bool.not_false, Bool.false_eq_true, decide_true, decide_false, run_mv, run_pick, run_nilck, run_bin, run_beq, run_nileq, run_seq, run_neg, run_not, run_cvInt, run_cvRune, run_cvStr, run_mkIface, run_field, run_fieldAddr, run_idxS, run_idxA, run_idxArr, run_idxStr, run_extract, run_lng, run_load, run_strOfBytes, run_lenC, run_mkFn, run_mnmx, pickV_true, pickV_false, nilckV_ptr, beqV_bool, negV_int, notV_bool, cvIntV_int, cvStrV_str, fieldAddrV_ptr, lngV_str, lngV_nils, lngV_slc, bin_add, bin_sub, bin_mul, bin_eql, bin_neq, bin_lss, bin_leq, bin_gtr, bin_geq, mnmxV2max, mnmxV2min, resVal, resVals, ARes.val, wp_loop, echoOk_nil, wp_call, true_and, and_true, List.map_cons, List.map_nil, wp_store, wp_append, bindX_some, run_bslice1, bs1V_int, bs1V_slc, bs1V_nils, val_slc, val_ptr, Nat.zero_add, Nat.add_zero, Int.reduceEq, Int.reduceLT, Int.reduceLE, Nat.reduceAdd, nileq_ptr, nilne_ptr, nileq_nilp, nilne_nilp, nileq_slc, nilne_slc, nileq_nils, nilne_nils, run_build0, run_box, run_bslice0, run_slS, Option.map_some, Option.map_none]
  obtain ⟨I, hI⟩ : ∃ I : Nat → List Int → AHeap → Prop, ∀ cb acc H', I cb acc H' ↔ (Keep H.next H H' ∧ acc.length ≤ L.length ∧ ∃ v, Il H.next cb H' [⟨H1.next, 1, [v]⟩, ⟨H.next, 1, [.int .i64 x]⟩, ⟨H2.next, 1, [.ptr p 0]⟩] v (below x acc)) := ⟨_, fun _ _ _ => Iff.rfl⟩
  refine range_stops tq g5.fr lc5 (by omega) (rs.grow hf gr5) h1 (by omega) rfl rfl rfl I (fun _ _ _ _ => False) ?_ ?_ ?_ ?_ ?_ ?_
  · intro cb acc H6 R0 R1 hl h6
    obtain ⟨a2, a3, v, a4⟩ := (hI _ _ _).1 h6
    exact (hI _ _ _).2 ⟨a2.trans (keep_setS (by omega) _), a3, v, a4.loopS hl _⟩
  · intro cb acc y H6 R0 R1 hl h6
    exact h6
  · intro H6 cb g6 hc1 hc2
    refine (hI _ _ _).2 ⟨?_, by simp, .nils, .inl ⟨rfl, rfl, ?_⟩⟩
    · intro b hb
      rw [g6.keep b (by show b < H5.next + 1; omega), AHeap.get_alloc, if_neg (by omega)]
      exact gr5.keep b hb
    · have gb := (g5.loopA _).keep g6.keep g6.next g6.fr
      exact gb.perm (List.perm_append_comm (l₁ := [_]) (l₂ := [_, _]))
  · intro cb acc z H0 H6 hl h6 hc1 hc2 hpre
    obtain ⟨a2, a0, v, a3⟩ := (hI _ _ _).1 h6
    have hlen : (acc ++ [z]).length ≤ L.length := Nat.le_trans hpre.length_le (stops_len L)
    have hlb : (below x acc).length ≤ acc.length := List.length_filter_le ..
    have lx := a3.hp.load (b := H.next) (k := 1) (cs := [.int .i64 x]) (by simp) (o := 0) rfl
    have lv := a3.hp.load (b := H1.next) (k := 1) (cs := [v]) (by simp) (o := 0) rfl
    by_cases d : z < x
    · have e7 : below x (acc ++ [z]) = below x acc ++ [z] := by rw [below_app, below_one, if_pos d]
      obtain ⟨H7, s7, b7, f7, n7⟩ := a3.tmp (y := z)
      have lv7 := b7.hp.load (b := H1.next) (k := 1) (cs := [v]) (by simp) (o := 0) rfl
      obtain ⟨w, H8, s8, b8, k8, f8, n8⟩ := b7.push (by omega) (by omega)
      obtain ⟨H9, s9, b9, f9, n9⟩ := b8.put (o := 0) b8.one (by simp)
      simp only [putAll, lx, lv, d, bs1V_int, s7, lv7, s8, s9, wp_skip, wp_ops, wp_seq, wp_cond, wp_block, wp_exit, wp_ret, wops_nil, wops_cons, stepX_r, stepX_a, stepX_e, bindO_some, bindA_some, nextV_eq, nextA_eq, nextE_eq, seqK_normal, seqK_exit, seqK_ret, blockK_normal, blockK_exit, blockK_ret, loopK_normal, loopK_exit, loopK_ret, condK_true, condK_false, fnK_normal, fnK_ret, bindR_some, want_none, want_some, wantV_true, wantV_false, Env.get_put, Env.get_init, Opd.ev, List.getD_cons_succ, List.getD_cons_zero, Option.some.injEq, reduceCtorEq, Nat.reduceEqDiff, ↓reduceIte, Bool.not_true, Bool.not_false, Bool.false_eq_true, decide_true, decide_false, run_mv, run_pick, run_nilck, run_bin, run_beq, run_nileq, run_seq, run_neg, run_not, run_cvInt, run_cvRune, run_cvStr, run_mkIface, run_field, run_fieldAddr, run_idxS, run_idxA, run_idxArr, run_idxStr, run_extract, run_lng, run_load, run_strOfBytes, run_lenC, run_mkFn, run_mnmx, pickV_true, pickV_false, nilckV_ptr, beqV_bool, negV_int, notV_bool, cvIntV_int, cvStrV_str, fieldAddrV_ptr, lngV_str, lngV_nils, lngV_slc, bin_add, bin_sub, bin_mul, bin_eql, bin_neq, bin_lss, bin_leq, bin_gtr, bin_geq, mnmxV2max, mnmxV2min, resVal, resVals, ARes.val, wp_loop, echoOk_nil, wp_call, true_and, and_true, List.map_cons, List.map_nil, wp_store, wp_append, bindX_some, run_bslice1, bs1V_int, bs1V_slc, bs1V_nils, val_slc, val_ptr, Nat.zero_add, Nat.add_zero, Int.reduceEq, Int.reduceLT, Int.reduceLE, Nat.reduceAdd, nileq_ptr, nilne_ptr, nileq_nilp, nilne_nilp, nileq_slc, nilne_slc, nileq_nils, nilne_nils, run_build0, run_box, run_bslice0, run_slS, Option.map_some, Option.map_none]
      refine ⟨by omega, by rw [f9 cb (by omega), f8 cb (by omega), f7 cb (by omega)], by rw [f9 _ (by omega), f8 _ (by omega), f7 _ (by omega)]; exact hl, .inl ((hI _ _ _).2 ⟨?_, by omega, w, by rw [e7]; exact b9⟩)⟩
      intro b hb
      have := a3.hp.bn
      rw [f9 b (by omega), f8 b (by omega), f7 b (by omega)]
      exact a2 b hb
    · have e7 : below x (acc ++ [z]) = below x acc := by rw [below_app, below_one, if_neg d, List.append_nil]
      simp only [putAll, lx, d, wp_skip, wp_ops, wp_seq, wp_cond, wp_block, wp_exit, wp_ret, wops_nil, wops_cons, stepX_r, stepX_a, stepX_e, bindO_some, bindA_some, nextV_eq, nextA_eq, nextE_eq, seqK_normal, seqK_exit, seqK_ret, blockK_normal, blockK_exit, blockK_ret, loopK_normal, loopK_exit, loopK_ret, condK_true, condK_false, fnK_normal, fnK_ret, bindR_some, want_none, want_some, wantV_true, wantV_false, Env.get_put, Env.get_init, Opd.ev, List.getD_cons_succ, List.getD_cons_zero, Option.some.injEq, reduceCtorEq, Nat.reduceEqDiff, ↓reduceIte, Bool.not_true, Bool.not_false, Bool.false_eq_true, decide_true, decide_false, run_mv, run_pick, run_nilck, run_bin, run_beq, run_nileq, run_seq, run_neg, run_not, run_cvInt, run_cvRune, run_cvStr, run_mkIface, run_field, run_fieldAddr, run_idxS, run_idxA, run_idxArr, run_idxStr, run_extract, run_lng, run_load, run_strOfBytes, run_lenC, run_mkFn, run_mnmx, pickV_true, pickV_false, nilckV_ptr, beqV_bool, negV_int, notV_bool, cvIntV_int, cvStrV_str, fieldAddrV_ptr, lngV_str, lngV_nils, lngV_slc, bin_add, bin_sub, bin_mul, bin_eql, bin_neq, bin_lss, bin_leq, bin_gtr, bin_geq, mnmxV2max, mnmxV2min, resVal, resVals, ARes.val, wp_loop, echoOk_nil, wp_call, true_and, and_true, List.map_cons, List.map_nil, wp_store, wp_append, bindX_some, run_bslice1, bs1V_int, bs1V_slc, bs1V_nils, val_slc, val_ptr, Nat.zero_add, Nat.add_zero, Int.reduceEq, Int.reduceLT, Int.reduceLE, Nat.reduceAdd, nileq_ptr, nilne_ptr, nileq_nilp, nilne_nilp, nileq_slc, nilne_slc, nileq_nils, nilne_nils, run_build0, run_box, run_bslice0, run_slS, Option.map_some, Option.map_none]
      exact ⟨Nat.le_refl _, hl, .inl ((hI _ _ _).2 (by rw [e7]; exact ⟨a2, by omega, v, a3⟩))⟩
  · intro cb H6 h6
    obtain ⟨a2, a0, v, a3⟩ := (hI _ _ _).1 h6
    have lv := a3.hp.load (b := H1.next) (k := 1) (cs := [v]) (by simp) (o := 0) rfl
    have ll := a3.sl.len
    have hgr : Gr H H6 := ⟨a2, a3.hp.bn, a3.hp.fr⟩
    have hlb : (below x (stops L)).length ≤ (stops L).length := List.length_filter_le ..
    by_cases d : ((below x (stops L)).length : Int) < max n 1
    · simp only [lv, ll, d, wp_skip, wp_ops, wp_seq, wp_cond, wp_block, wp_exit, wp_ret, wops_nil, wops_cons, stepX_r, stepX_a, stepX_e, bindO_some, bindA_some, nextV_eq, nextA_eq, nextE_eq, seqK_normal, seqK_exit, seqK_ret, blockK_normal, blockK_exit, blockK_ret, loopK_normal, loopK_exit, loopK_ret, condK_true, condK_false, fnK_normal, fnK_ret, bindR_some, want_none, want_some, wantV_true, wantV_false, Env.get_put, Env.get_init, Opd.ev, List.getD_cons_succ, List.getD_cons_zero, Option.some.injEq, reduceCtorEq, Nat.reduceEqDiff, ↓reduceIte, Bool.not_true, Bool.not_false, Bool.false_eq_true, decide_true, decide_false, run_mv, run_pick, run_nilck, run_bin, run_beq, run_nileq, run_seq, run_neg, run_not, run_cvInt, run_cvRune, run_cvStr, run_mkIface, run_field, run_fieldAddr, run_idxS, run_idxA, run_idxArr, run_idxStr, run_extract, run_lng, run_load, run_strOfBytes, run_lenC, run_mkFn, run_mnmx, pickV_true, pickV_false, nilckV_ptr, beqV_bool, negV_int, notV_bool, cvIntV_int, cvStrV_str, fieldAddrV_ptr, lngV_str, lngV_nils, lngV_slc, bin_add, bin_sub, bin_mul, bin_eql, bin_neq, bin_lss, bin_leq, bin_gtr, bin_geq, mnmxV2max, mnmxV2min, resVal, resVals, ARes.val, wp_loop, echoOk_nil, wp_call, true_and, and_true, List.map_cons, List.map_nil, wp_store, wp_append, bindX_some, run_bslice1, bs1V_int, bs1V_slc, bs1V_nils, val_slc, val_ptr, Nat.zero_add, Nat.add_zero, Int.reduceEq, Int.reduceLT, Int.reduceLE, Nat.reduceAdd, nileq_ptr, nilne_ptr, nileq_nilp, nilne_nilp, nileq_slc, nilne_slc, nileq_nils, nilne_nils, run_build0, run_box, run_bslice0, run_slS, Option.map_some, Option.map_none]
      refine ⟨?_, hgr⟩
      simp only [prevP, hcn]
      rw [if_pos (by omega)]
    · have w1 : IntKind.wrap .i64 (((below x (stops L)).length : Int) - max n 1) = (((below x (stops L)).length - m : Nat) : Int) := by rw [wrapI64 (by omega) (by omega)]; omega
      have at1 := a3.sl.at (i := (((below x (stops L)).length - m : Nat) : Int)) (by omega) (by omega) .i64
      obtain ⟨a, ha⟩ : ∃ a, (below x (stops L))[(below x (stops L)).length - m]? = some a := ⟨_, List.getElem?_eq_getElem (by omega)⟩
      have g1 := a3.sl.int (i := (((below x (stops L)).length - m : Nat) : Int)) (by rw [Int.toNat_natCast]; exact ha)
      simp only [lv, ll, d, w1, at1, g1, wp_skip, wp_ops, wp_seq, wp_cond, wp_block, wp_exit, wp_ret, wops_nil, wops_cons, stepX_r, stepX_a, stepX_e, bindO_some, bindA_some, nextV_eq, nextA_eq, nextE_eq, seqK_normal, seqK_exit, seqK_ret, blockK_normal, blockK_exit, blockK_ret, loopK_normal, loopK_exit, loopK_ret, condK_true, condK_false, fnK_normal, fnK_ret, bindR_some, want_none, want_some, wantV_true, wantV_false, Env.get_put, Env.get_init, Opd.ev, List.getD_cons_succ, List.getD_cons_zero, Option.some.injEq, reduceCtorEq, Nat.reduceEqDiff, ↓reduceIte, Bool.not_true, Bool.not_false, Bool.false_eq_true, decide_true, decide_false, run_mv, run_pick, run_nilck, run_bin, run_beq, run_nileq, run_seq, run_neg, run_not, run_cvInt, run_cvRune, run_cvStr, run_mkIface, run_field, run_fieldAddr, run_idxS, run_idxA, run_idxArr, run_idxStr, run_extract, run_lng, run_load, run_strOfBytes, run_lenC, run_mkFn, run_mnmx, pickV_true, pickV_false, nilckV_ptr, beqV_bool, negV_int, notV_bool, cvIntV_int, cvStrV_str, fieldAddrV_ptr, lngV_str, lngV_nils, lngV_slc, bin_add, bin_sub, bin_mul, bin_eql, bin_neq, bin_lss, bin_leq, bin_gtr, bin_geq, mnmxV2max, mnmxV2min, resVal, resVals, ARes.val, wp_loop, echoOk_nil, wp_call, true_and, and_true, List.map_cons, List.map_nil, wp_store, wp_append, bindX_some, run_bslice1, bs1V_int, bs1V_slc, bs1V_nils, val_slc, val_ptr, Nat.zero_add, Nat.add_zero, Int.reduceEq, Int.reduceLT, Int.reduceLE, Nat.reduceAdd, nileq_ptr, nilne_ptr, nileq_nilp, nilne_nilp, nileq_slc, nilne_slc, nileq_nils, nilne_nils, run_build0, run_box, run_bslice0, run_slS, Option.map_some, Option.map_none]
      refine ⟨?_, hgr⟩
      simp only [prevP, hcn]
      rw [if_neg (by omega), ha]
      rfl
  · intro cb acc y H6 hpre h6
    exact h6.elim
set_option maxHeartbeats 8000000 in
theorem all_spec (hf : Fr H) {p : Nat} {v : AV} {L : List Bool} (rs : RdS H p v L) (h1 : 1 ≤ L.length) (h2 : L.length ≤ 900) :
    FnTo Q 31 [.ptr p 0, .int .i64 1000] H (fun r H' => IsSl IsInt H' r (stops L) ∧ Gr H H') := by
  refine fn_wp (tq.no 31 rfl _) tq.q31 (by simp [A31]) ?_
  obtain ⟨H1, s1, g1, k1⟩ := (Hp.nil H hf).make [.int .i64 1000] 1
  obtain ⟨H2, s2, g2, k2⟩ := g1.make [.nils] 1
  have gr2 : Gr H H2 := ⟨k1.trans k2, g2.bn, g2.fr⟩
  have l9 := g2.load (b := H.next) (k := 1) (cs := [.int .i64 1000]) (by simp) (o := 0) rfl
  have c1 : ¬ (1000 : Int) < 1 := by omega
  simp only [A31, boxV_int, run_allocL, s1, s2, l9, c1, wp_skip, wp_ops, wp_seq, wp_cond, wp_block, wp_exit, wp_ret, wops_nil, wops_cons, stepX_r, stepX_a, stepX_e, bindO_some, bindA_some, nextV_eq, nextA_eq, nextE_eq, seqK_normal, seqK_exit, seqK_ret, blockK_normal, blockK_exit, blockK_ret, loopK_normal, loopK_exit, loopK_ret, condK_true, condK_false, fnK_normal, fnK_ret, bindR_some, want_none, want_some, wantV_true, wantV_false, Env.get_put, Env.get_init, Opd.ev, List.getD_cons_succ, List.getD_cons_zero, Option.some.injEq, reduceCtorEq, Nat.reduceEqDiff, ↓reduceIte, Bool.not_true, Bool.not_false, Bool.false_eq_true, decide_true, decide_false, run_mv, run_pick, run_nilck, run_bin, run_beq, run_nileq, run_seq, run_neg, run_not, run_cvInt, run_cvRune, run_cvStr, run_mkIface, run_field, run_fieldAddr, run_idxS, run_idxA, run_idxArr, run_idxStr, run_extract, run_lng, run_load, run_strOfBytes, run_lenC, run_mkFn, run_mnmx, pickV_true, pickV_false, nilckV_ptr, beqV_bool, negV_int, notV_bool, cvIntV_int, cvStrV_str, fieldAddrV_ptr, lngV_str, lngV_nils, lngV_slc, bin_add, bin_sub, bin_mul, bin_eql, bin_neq, bin_lss, bin_leq, bin_gtr, bin_geq, mnmxV2max, mnmxV2min, resVal, resVals, ARes.val, wp_loop, echoOk_nil, wp_call, true_and, and_true, List.map_cons, List.map_nil, wp_store, wp_append, bindX_some, run_bslice1, bs1V_int, bs1V_slc, bs1V_nils, val_slc, val_ptr, Nat.zero_add, Nat.add_zero, Int.reduceEq, Int.reduceLT, Int.reduceLE, Nat.reduceAdd, nileq_ptr, nilne_ptr, nileq_nilp, nilne_nilp, nileq_slc, nilne_slc, nileq_nils, nilne_nils, run_build0, run_box, run_bslice0, run_slS, Option.map_some, Option.map_none]
  refine (all_spec0 tq (boxV_ptr p 0)).mono ?_
  rintro r H5 ⟨rfl, rfl⟩
  obtain ⟨H5, s5, g5, k5⟩ := g2.make [.ptr p 0] 1
  rw [s5]
  simp only [nileq_fn, wp_skip, wp_ops, wp_seq, wp_cond, wp_block, wp_exit, wp_ret, wops_nil, wops_cons, stepX_r, stepX_a, stepX_e, bindO_some, bindA_some, nextV_eq, nextA_eq, nextE_eq, seqK_normal, seqK_exit, seqK_ret, blockK_normal, blockK_exit, blockK_ret, loopK_normal, loopK_exit, loopK_ret, condK_true, condK_false, fnK_normal, fnK_ret, bindR_some, want_none, want_some, wantV_true, wantV_false, Env.get_put, Env.get_init, Opd.ev, List.getD_cons_succ, List.getD_cons_zero, Option.some.injEq, reduceCtorEq, Nat.reduceEqDiff, ↓reduceIte, Bool.not_true, Bool.not_false, Bool.false_eq_true, decide_true, decide_false, run_mv, run_pick, run_nilck, run_bin, run_beq, run_nileq, run_seq, run_neg, run_not, run_cvInt, run_cvRune, run_cvStr, run_mkIface, run_field, run_fieldAddr, run_idxS, run_idxA, run_idxArr, run_idxStr, run_extract, run_lng, run_load, run_strOfBytes, run_lenC, run_mkFn, run_mnmx, pickV_true, pickV_false, nilckV_ptr, beqV_bool, negV_int, notV_bool, cvIntV_int, cvStrV_str, fieldAddrV_ptr, lngV_str, lngV_nils, lngV_slc, bin_add, bin_sub, bin_mul, bin_eql, bin_neq, bin_lss, bin_leq, bin_gtr, bin_geq, mnmxV2max, mnmxV2min, resVal, resVals, ARes.val, wp_loop, echoOk_nil, wp_call, true_and, and_true, List.map_cons, List.map_nil, wp_store, wp_append, bindX_some, run_bslice1, bs1V_int, bs1V_slc, bs1V_nils, val_slc, val_ptr, Nat.zero_add, Nat.add_zero, Int.reduceEq, Int.reduceLT, Int.reduceLE, Nat.reduceAdd, nileq_ptr, nilne_ptr, nileq_nilp, nilne_nilp, nileq_slc, nilne_slc, nileq_nils, nilne_nils, run_build0, run_box, run_bslice0, run_slS, Option.map_some, Option.map_none]
  refine (all_spec0 tq (boxV_ptr p 0)).mono ?_
  rintro r H6 ⟨rfl, rfl⟩
  obtain ⟨H6, s6, g6, k6⟩ := g5.make [.ptr p 0] 1
  rw [s6]
  have n1 : H1.next = H.next + 1 := by rw [← s1]; rfl
  have n2 : H2.next = H1.next + 1 := by rw [← s2]; rfl
  have n5 : H5.next = H2.next + 1 := by rw [← s5]; rfl
  have n6 : H6.next = H5.next + 1 := by rw [← s6]; rfl
  have gr6 : Gr H H6 := ⟨(gr2.keep.trans k5).trans k6, g6.bn, g6.fr⟩
  have lc6 := g6.load (b := H5.next) (k := 1) (cs := [.ptr p 0]) (by simp) (o := 0) rfl
  simp only [wp_rangeF, wp_skip, wp_ops, wp_seq, wp_cond, wp_block, wp_exit, wp_ret, wops_nil, wops_cons, stepX_r, stepX_a, stepX_e, bindO_some, bindA_some, nextV_eq, nextA_eq, nextE_eq, seqK_normal, seqK_exit, seqK_ret, blockK_normal, blockK_exit, blockK_ret, loopK_normal, loopK_exit, loopK_ret, condK_true, condK_false, fnK_normal, fnK_ret, bindR_some, want_none, want_some, wantV_true, wantV_false, Env.get_put, Env.get_init, Opd.ev, List.getD_cons_succ, List.getD_cons_zero, Option.some.injEq, reduceCtorEq, Nat.reduceEqDiff, ↓reduceIte, Bool.not_true, Bool.not_false, Bool.false_eq_true, decide_true, decide_false, run_mv, run_pick, run_nilck, run_bin, run_beq, run_nileq, run_seq, run_neg, run_not, run_cvInt, run_cvRune, run_cvStr, run_mkIface, run_field, run_fieldAddr, run_idxS, run_idxA, run_idxArr, run_idxStr, run_extract, run_lng, run_load, run_strOfBytes, run_lenC, run_mkFn, run_mnmx, pickV_true, pickV_false, nilckV_ptr, beqV_bool, negV_int, notV_bool, cvIntV_int, cvStrV_str, fieldAddrV_ptr, lngV_str, lngV_nils, lngV_slc, bin_add, bin_sub, bin_mul, bin_eql, bin_neq, bin_lss, bin_leq, bin_gtr, bin_geq, mnmxV2max, mnmxV2min, resVal, resVals, ARes.val, wp_loop, echoOk_nil, wp_call, true_and, and_true, List.map_cons, List.map_nil, wp_store, wp_append, bindX_some, run_bslice1, bs1V_int, bs1V_slc, bs1V_nils, val_slc, val_ptr, Nat.zero_add, Nat.add_zero, Int.reduceEq, Int.reduceLT, Int.reduceLE, Nat.reduceAdd, nileq_ptr, nilne_ptr, nileq_nilp, nilne_nilp, nileq_slc, nilne_slc, nileq_nils, nilne_nils, run_build0, run_box, run_bslice0, run_slS, Option.map_some, Option.map_none]
  obtain ⟨I, hI⟩ : ∃ I : Nat → List Int → AHeap → Prop, ∀ cb acc H', I cb acc H' ↔ (Keep H.next H H' ∧ acc.length ≤ L.length ∧ ∃ v, Il H.next cb H' [⟨H1.next, 1, [v]⟩, ⟨H.next, 1, [.int .i64 1000]⟩] v acc) := ⟨_, fun _ _ _ => Iff.rfl⟩
  refine range_stops tq g6.fr lc6 (by omega) (rs.grow hf gr6) h1 (by omega) rfl rfl rfl I (fun _ _ _ _ => False) ?_ ?_ ?_ ?_ ?_ ?_
  · intro cb acc H6 R0 R1 hl h6
    obtain ⟨a2, a3, v, a4⟩ := (hI _ _ _).1 h6
    exact (hI _ _ _).2 ⟨a2.trans (keep_setS (by omega) _), a3, v, a4.loopS hl _⟩
  · intro cb acc y H6 R0 R1 hl h6
    exact h6
  · intro H7 cb g7 hc1 hc2
    refine (hI _ _ _).2 ⟨?_, by simp, .nils, .inl ⟨rfl, rfl, ?_⟩⟩
    · intro b hb
      rw [g7.keep b (by show b < H6.next + 1; omega), AHeap.get_alloc, if_neg (by omega)]
      exact gr6.keep b hb
    · have gb := (g6.loopA _).keep g7.keep g7.next g7.fr
      exact gb.drop.drop
  · intro cb acc z H0 H6 hl h6 hc1 hc2 hpre
    obtain ⟨a2, a0, v, a3⟩ := (hI _ _ _).1 h6
    have hlen : (acc ++ [z]).length ≤ L.length := Nat.le_trans hpre.length_le (stops_len L)
    obtain ⟨H7, s7, b7, f7, n7⟩ := a3.tmp (y := z)
    have lv := a3.hp.load (b := H1.next) (k := 1) (cs := [v]) (by simp) (o := 0) rfl
    have lv7 := b7.hp.load (b := H1.next) (k := 1) (cs := [v]) (by simp) (o := 0) rfl
    obtain ⟨w, H8, s8, b8, k8, f8, n8⟩ := b7.push (by omega) (by omega)
    obtain ⟨H9, s9, b9, f9, n9⟩ := b8.put (o := 0) b8.one (by simp)
    have lw9 := b9.hp.load (b := H1.next) (k := 1) (cs := [w]) (by simp) (o := 0) rfl
    have lx := b9.hp.load (b := H.next) (k := 1) (cs := [.int .i64 1000]) (by simp) (o := 0) rfl
    have ll := b9.sl.len
    have c3 : decide (((acc ++ [z]).length : Int) = 1000) = false := by simp only [decide_eq_false_iff_not]; omega
    simp only [putAll, lv, bs1V_int, s7, lv7, s8, s9, lw9, lx, ll, c3, wp_skip, wp_ops, wp_seq, wp_cond, wp_block, wp_exit, wp_ret, wops_nil, wops_cons, stepX_r, stepX_a, stepX_e, bindO_some, bindA_some, nextV_eq, nextA_eq, nextE_eq, seqK_normal, seqK_exit, seqK_ret, blockK_normal, blockK_exit, blockK_ret, loopK_normal, loopK_exit, loopK_ret, condK_true, condK_false, fnK_normal, fnK_ret, bindR_some, want_none, want_some, wantV_true, wantV_false, Env.get_put, Env.get_init, Opd.ev, List.getD_cons_succ, List.getD_cons_zero, Option.some.injEq, reduceCtorEq, Nat.reduceEqDiff, ↓reduceIte, Bool.not_true, Bool.not_false, Bool.false_eq_true, decide_true, decide_false, run_mv, run_pick, run_nilck, run_bin, run_beq, run_nileq, run_seq, run_neg, run_not, run_cvInt, run_cvRune, run_cvStr, run_mkIface, run_field, run_fieldAddr, run_idxS, run_idxA, run_idxArr, run_idxStr, run_extract, run_lng, run_load, run_strOfBytes, run_lenC, run_mkFn, run_mnmx, pickV_true, pickV_false, nilckV_ptr, beqV_bool, negV_int, notV_bool, cvIntV_int, cvStrV_str, fieldAddrV_ptr, lngV_str, lngV_nils, lngV_slc, bin_add, bin_sub, bin_mul, bin_eql, bin_neq, bin_lss, bin_leq, bin_gtr, bin_geq, mnmxV2max, mnmxV2min, resVal, resVals, ARes.val, wp_loop, echoOk_nil, wp_call, true_and, and_true, List.map_cons, List.map_nil, wp_store, wp_append, bindX_some, run_bslice1, bs1V_int, bs1V_slc, bs1V_nils, val_slc, val_ptr, Nat.zero_add, Nat.add_zero, Int.reduceEq, Int.reduceLT, Int.reduceLE, Nat.reduceAdd, nileq_ptr, nilne_ptr, nileq_nilp, nilne_nilp, nileq_slc, nilne_slc, nileq_nils, nilne_nils, run_build0, run_box, run_bslice0, run_slS, Option.map_some, Option.map_none]
    refine ⟨by omega, by rw [f9 cb (by omega), f8 cb (by omega), f7 cb (by omega)], by rw [f9 _ (by omega), f8 _ (by omega), f7 _ (by omega)]; exact hl, .inl ((hI _ _ _).2 ⟨?_, by omega, w, b9⟩)⟩
    intro b hb
    have := a3.hp.bn
    rw [f9 b (by omega), f8 b (by omega), f7 b (by omega)]
    exact a2 b hb
  · intro cb H6 h6
    obtain ⟨a2, a0, v, a3⟩ := (hI _ _ _).1 h6
    have lv := a3.hp.load (b := H1.next) (k := 1) (cs := [v]) (by simp) (o := 0) rfl
    simp only [lv, wp_skip, wp_ops, wp_seq, wp_cond, wp_block, wp_exit, wp_ret, wops_nil, wops_cons, stepX_r, stepX_a, stepX_e, bindO_some, bindA_some, nextV_eq, nextA_eq, nextE_eq, seqK_normal, seqK_exit, seqK_ret, blockK_normal, blockK_exit, blockK_ret, loopK_normal, loopK_exit, loopK_ret, condK_true, condK_false, fnK_normal, fnK_ret, bindR_some, want_none, want_some, wantV_true, wantV_false, Env.get_put, Env.get_init, Opd.ev, List.getD_cons_succ, List.getD_cons_zero, Option.some.injEq, reduceCtorEq, Nat.reduceEqDiff, ↓reduceIte, Bool.not_true, Bool.not_false, Bool.false_eq_true, decide_true, decide_false, run_mv, run_pick, run_nilck, run_bin, run_beq, run_nileq, run_seq, run_neg, run_not, run_cvInt, run_cvRune, run_cvStr, run_mkIface, run_field, run_fieldAddr, run_idxS, run_idxA, run_idxArr, run_idxStr, run_extract, run_lng, run_load, run_strOfBytes, run_lenC, run_mkFn, run_mnmx, pickV_true, pickV_false, nilckV_ptr, beqV_bool, negV_int, notV_bool, cvIntV_int, cvStrV_str, fieldAddrV_ptr, lngV_str, lngV_nils, lngV_slc, bin_add, bin_sub, bin_mul, bin_eql, bin_neq, bin_lss, bin_leq, bin_gtr, bin_geq, mnmxV2max, mnmxV2min, resVal, resVals, ARes.val, wp_loop, echoOk_nil, wp_call, true_and, and_true, List.map_cons, List.map_nil, wp_store, wp_append, bindX_some, run_bslice1, bs1V_int, bs1V_slc, bs1V_nils, val_slc, val_ptr, Nat.zero_add, Nat.add_zero, Int.reduceEq, Int.reduceLT, Int.reduceLE, Nat.reduceAdd, nileq_ptr, nilne_ptr, nileq_nilp, nilne_nilp, nileq_slc, nilne_slc, nileq_nils, nilne_nils, run_build0, run_box, run_bslice0, run_slS, Option.map_some, Option.map_none]
    exact ⟨a3.sl, a2, a3.hp.bn, a3.hp.fr⟩
  · intro cb acc y H6 hpre h6
    exact h6.elim
end
end Go.Proofs.Ytbokakhpdlkkkab.AM
