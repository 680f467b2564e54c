/-
  Stops that are there: slices.Clone, the iterator that All hands out, Next; walked on the abstract machine.
-/
import Derived.Test.YtbokakhpdlkkkabTabsNil0
set_option linter.unusedVariables false
set_option linter.unusedSimpArgs false
namespace Go.Proofs.Ytbokakhpdlkkkab.AM
open Go
/-! ### Heaps: what stays -/
theorem Hp.storeF {base : Nat} {H : AHeap} {l : List Cel} {b k : Nat} {cs : List AV} (h : Hp base H (⟨b, k, cs⟩ :: l)) {o : Nat} {v : AV} (hv : v.one = true) (ho : o < cs.length) :
    ∃ H', storeE H 1 (.ptr b o) v = some (.undef, H') ∧ Hp base H' (⟨b, k, cs.set o v⟩ :: l) ∧ (∀ c, c ≠ b → H'.get c = H.get c) ∧ H'.next = H.next := by
  obtain ⟨es, h1, h2⟩ := (h.has ⟨b, k, cs⟩ (by simp)).row
  simp only at h1 h2
  have hc : v.cells = [v] := by cases v <;> first | rfl | (simp [AV.one] at hv)
  refine ⟨H.set b (.row ⟨cs.set o v, es, false, true⟩), ?_, h.set _ _ h2, fun c hc => AHeap.get_set_ne _ _ _ _ hc, rfl⟩
  simp only [storeE, EOp.run, Opd.ev, hc, List.length_cons, List.length_nil, Nat.zero_add, if_true, storeA, h1, List.all_cons, hv, List.all_nil, Bool.and_true, and_true, over]
  simp [Nat.succ_le_of_lt ho]
theorem Keep.of {base b : Nat} {H H' : AHeap} (h : ∀ c, c ≠ b → H'.get c = H.get c) (hb : base ≤ b) : Keep base H H' := fun c hc => h c (by omega)
/-! ### Stops -/
def IsBoo (_ : AHeap) (x : Bool) (c : AV) : Prop := c = .bool x
def stopsF (i : Int) : List Bool → List Int
  | [] => []
  | b :: L => if b then i :: stopsF (i + 1) L else stopsF (i + 1) L
def stops (L : List Bool) : List Int := stopsF 0 L
theorem stopsF_split (L : List Bool) : ∀ (i : Int) (k : Nat), stopsF i L = stopsF i (L.take k) ++ stopsF (i + k) (L.drop k) := by
  induction L with
  | nil => intro i k; simp [stopsF]
  | cons b L ih =>
    intro i k
    cases k with
    | zero => simp [stopsF]
    | succ k =>
      have := ih (i + 1) k
      simp only [List.take_succ_cons, List.drop_succ_cons, stopsF]
      rw [this, show i + 1 + (k : Int) = i + ((k + 1 : Nat) : Int) by omega]
      split <;> simp
theorem stops_take {L : List Bool} {k : Nat} {b : Bool} (h : L[k]? = some b) : stopsF 0 (L.take (k + 1)) = if b then stopsF 0 (L.take k) ++ [(k : Int)] else stopsF 0 (L.take k) := by
  have hk : k < L.length := (List.getElem?_eq_some_iff.1 h).1
  have h1 := stopsF_split (L.take (k + 1)) 0 k
  rw [List.take_take, Nat.min_eq_left (by omega)] at h1
  rw [h1]
  have h2 : (L.take (k + 1)).drop k = [b] := by
    rw [List.take_add_one, h, Option.toList_some, List.drop_append]
    simp [List.drop_eq_nil_of_le (show (L.take k).length ≤ k by simp; omega), Nat.min_eq_left (Nat.le_of_lt hk)]
  rw [h2]
  simp only [stopsF, Int.zero_add]
  cases b <;> simp
theorem stops_pre (L : List Bool) (k : Nat) : stopsF 0 (L.take k) <+: stops L := by
  unfold stops
  rw [stopsF_split L 0 k]
  exact List.prefix_append _ _
theorem stopsF_bound (L : List Bool) : ∀ (i : Int), ∀ x ∈ stopsF i L, i ≤ x ∧ x < i + L.length := by
  induction L with
  | nil => intro i x hx; simp [stopsF] at hx
  | cons b L ih =>
    intro i x hx
    simp only [stopsF] at hx
    have h2 : ∀ x ∈ stopsF (i + 1) L, i ≤ x ∧ x < i + ((b :: L).length : Nat) := fun x hx => by
      have := ih (i + 1) x hx
      simp only [List.length_cons]; omega
    split at hx
    · rcases List.mem_cons.1 hx with rfl | hx
      · simp only [List.length_cons]; omega
      · exact h2 x hx
    · exact h2 x hx
theorem stopsF_len (L : List Bool) : ∀ (i : Int), (stopsF i L).length ≤ L.length := by
  induction L with
  | nil => intro i; simp [stopsF]
  | cons b L ih =>
    intro i
    simp only [stopsF]
    have := ih (i + 1)
    split <;> simp <;> omega
/-- stops that are read alone -/
structure RdS (H : AHeap) (p : Nat) (v : AV) (L : List Bool) : Prop where
  ld : loadV H Option.none (.ptr p 0) = some v
  sl : IsSl IsBoo H v L
  lt : p < H.next
theorem row_lt {H : AHeap} (hf : Fr H) {b : Nat} {B : Blk} (h : H.row b = some B) : b < H.next := Nat.lt_of_not_le fun hh => by
  have := hf b hh
  simp [AHeap.row, this] at h
theorem IsSl.grow {α : Type} {R : AHeap → α → AV → Prop} {H H' : AHeap} {v : AV} {l : List α} (hR : ∀ x c, R H x c → R H' x c) (h : IsSl R H v l) (hf : Fr H) (g : Gr H H') : IsSl R H' v l := by
  rcases h with h | ⟨b, o, cap, B, h1, h2, h3⟩
  · exact .inl h
  · refine .inr ⟨b, o, cap, B, h1, by rw [g.keep.row (row_lt hf h2)]; exact h2, fun i x hx => ?_⟩
    obtain ⟨c, k1, k2⟩ := h3 i x hx
    exact ⟨c, k1, hR _ _ k2⟩
theorem RdS.grow {H H' : AHeap} {p : Nat} {v : AV} {L : List Bool} (h : RdS H p v L) (hf : Fr H) (g : Gr H H') : RdS H' p v L :=
  ⟨by simp only [loadV, ROp.run, Opd.ev, g.keep.row h.lt]; exact h.ld, IsSl.grow (R := IsBoo) (H := H) (fun _ _ h => h) h.sl hf g, Nat.lt_of_lt_of_le h.lt g.next⟩
theorem sl_src {H : AHeap} {v : AV} {L : List Bool} (h : IsSl IsBoo H v L) (hL : L ≠ []) : ∃ b o cap, v = .slc b o L.length cap ∧ srcCells H 1 v = some (L.length, L.map .bool) := by
  rcases h with ⟨_, rfl⟩ | ⟨b, o, cap, B, rfl, h2, h3⟩
  · exact absurd rfl hL
  · refine ⟨b, o, cap, rfl, ?_⟩
    have hl : ¬ L.length = 0 := fun hh => hL (List.eq_nil_of_length_eq_zero hh)
    have hcut : cut B.cells o (L.length * 1) = some (L.map .bool) := by
      unfold cut
      have hlen : o + L.length ≤ B.cells.length := by
        obtain ⟨x, hx⟩ : ∃ x, L[L.length - 1]? = some x := ⟨_, List.getElem?_eq_getElem (by omega)⟩
        obtain ⟨c, k1, _⟩ := h3 _ _ hx
        have := (List.getElem?_eq_some_iff.1 k1).1
        omega
      rw [if_pos (by omega)]
      congr 1
      apply List.ext_getElem?
      intro i
      by_cases hi : i < L.length
      · rw [List.getElem?_take_of_lt (by omega), List.getElem?_drop]
        obtain ⟨x, hx⟩ : ∃ x, L[i]? = some x := ⟨_, List.getElem?_eq_getElem hi⟩
        obtain ⟨c, k1, k2⟩ := h3 _ _ hx
        rw [k1, k2, List.getElem?_map, hx]; rfl
      · rw [List.getElem?_eq_none (by simp; omega), List.getElem?_eq_none (by simp; omega)]
    simp only [srcCells, if_neg hl, h2, hcut]
section
variable {Q : Prog} (tq : TabQ2 Q) {H : AHeap}
include tq
set_option maxHeartbeats 2000000 in
/-- a copy in a block of its own -/
theorem clone_spec (hf : Fr H) {v : AV} {L : List Bool} (h : IsSl IsBoo H v L) (h1 : 1 ≤ L.length) (h2 : L.length ≤ 1000000) :
    FnTo Q 45 [v] H (fun r H' => Gr H H' ∧ ∃ cb es, H.next ≤ cb ∧ cb < H'.next ∧ r = .slc cb 0 L.length L.length ∧ H'.get cb = some (.row ⟨L.map .bool, es, false, true⟩)) := by
  refine fn_wp (tq.no 45 rfl _) tq.q45 (by simp [A45]) ?_
  have hL : L ≠ [] := fun hh => by rw [hh] at h1; simp at h1
  obtain ⟨b, o, cap, rfl, hsrc⟩ := sl_src h hL
  obtain ⟨H1, s1, hp1, k1⟩ := (Hp.nil H hf).make [] 1
  have hsrc1 : srcCells H1 1 (.slc b o L.length cap) = some (L.length, L.map .bool) := by
    have g1 : Gr H H1 := ⟨k1, hp1.bn, hp1.fr⟩
    exact (sl_src (IsSl.grow (R := IsBoo) (H := H) (H' := H1) (fun _ _ h => h) h hf g1) hL).choose_spec.choose_spec.choose_spec.2
  have ha : appendE H1 1 1 (.slc H.next 0 0 0) (.slc b o L.length cap) = some (.slc H1.next 0 L.length L.length, H1.alloc (.row ⟨L.map .bool, 1, false, true⟩)) := by
    have r1 : H1.row H.next = some ⟨[], 0, false, true⟩ := by rw [← s1]; simp only [AHeap.row, AHeap.get_alloc, if_true]
    have hall : (L.map AV.bool).all AV.one = true := by simp [List.all_eq_true, AV.one]
    simp only [appendE, EOp.run, Opd.ev, hsrc1, appendA, r1, hall]
    rw [if_neg (by simp), if_neg (by omega), if_neg (by simp; omega)]
    simp [cut]
  simp only [A45, s1, ha, wp_skip, wp_ops, wp_seq, wp_cond, wp_block, wp_exit, wp_ret, wops_nil, wops_cons, stepX_r, stepX_a, stepX_e, bindO_some, bindA_some, nextV_eq, nextA_eq, nextE_eq, seqK_normal, seqK_exit, seqK_ret, blockK_normal, blockK_exit, blockK_ret, loopK_normal, loopK_exit, loopK_ret, condK_true, condK_false, fnK_normal, fnK_ret, bindR_some, want_none, want_some, wantV_true, wantV_false, Env.get_put, Env.get_init, Opd.ev, List.getD_cons_succ, List.getD_cons_zero, Option.some.injEq, reduceCtorEq, Nat.reduceEqDiff, ↓reduceIte, Bool.not_true, Bool.not_false, Bool.false_eq_true, decide_true, decide_false, run_mv, run_pick, run_nilck, run_bin, run_beq, run_nileq, run_seq, run_neg, run_not, run_cvInt, run_cvRune, run_cvStr, run_mkIface, run_field, run_fieldAddr, run_idxS, run_idxA, run_idxArr, run_idxStr, run_extract, run_lng, run_load, run_strOfBytes, run_lenC, run_mkFn, run_mnmx, pickV_true, pickV_false, nilckV_ptr, beqV_bool, negV_int, notV_bool, cvIntV_int, cvStrV_str, fieldAddrV_ptr, lngV_str, lngV_nils, lngV_slc, bin_add, bin_sub, bin_mul, bin_eql, bin_neq, bin_lss, bin_leq, bin_gtr, bin_geq, mnmxV2max, mnmxV2min, resVal, resVals, ARes.val, wp_loop, echoOk_nil, wp_call, true_and, and_true, List.map_cons, List.map_nil, wp_store, wp_append, bindX_some, run_bslice1, bs1V_int, bs1V_slc, bs1V_nils, val_slc, val_ptr, Nat.zero_add, Nat.add_zero, Int.reduceEq, Int.reduceLT, Int.reduceLE, Nat.reduceAdd, nileq_ptr, nilne_ptr, nileq_nilp, nilne_nilp, nileq_slc, nilne_slc, nileq_nils, nilne_nils, run_build0, run_box, run_bslice0, run_slS, Option.map_some, Option.map_none]
  refine ⟨⟨fun c hc => ?_, ?_, fun c hc => ?_⟩, H1.next, 1, hp1.bn, Nat.lt_succ_self _, rfl, by rw [AHeap.get_alloc, if_pos rfl]⟩
  · have := hp1.bn
    rw [AHeap.get_alloc, if_neg (by omega)]; exact k1 c hc
  · rw [AHeap.next_alloc]; have := hp1.bn; omega
  · rw [AHeap.next_alloc] at hc
    rw [AHeap.get_alloc, if_neg (by omega)]; exact hp1.fr c (by omega)
set_option maxHeartbeats 4000000 in
/-- the iterator: to whom it is handed is told each stop, rising, until he has enough -/
theorem all1_spec (hf : Fr H) {yb c p : Nat} {v : AV} {L : List Bool} (hc : loadV H Option.none (.ptr c 0) = some (.ptr p 0)) (hcl : c < H.next) (rs : RdS H p v L) (h1 : 1 ≤ L.length) (h2 : L.length ≤ 1000000)
    (I J : Nat → List Int → AHeap → Prop) (h0 : ∀ H1 cb, Gr H H1 → H.next ≤ cb → cb < H1.next → I cb [] H1) 
    (hY : ∀ cb acc x H1, I cb acc H1 → H.next ≤ cb → cb < H1.next → (acc ++ [x]) <+: stops L → CTo Q (.yld yb) [.int .i64 x] H1 (fun r H2 => H1.next ≤ H2.next ∧ H2.get cb = H1.get cb ∧ ((r = .bool true ∧ I cb (acc ++ [x]) H2) ∨ (r = .bool false ∧ J cb (acc ++ [x]) H2)))) :
    FnTo Q 44 [.yld yb, .ptr c 0] H (fun r H' => ∃ cb, I cb (stops L) H' ∨ ∃ acc, acc <+: stops L ∧ J cb acc H') := by
  refine fn_wp (tq.no 44 rfl _) tq.q44 (by simp [A44]) ?_
  have ld := rs.ld
  simp only [A44, hc, ld, wp_skip, wp_ops, wp_seq, wp_cond, wp_block, wp_exit, wp_ret, wops_nil, wops_cons, stepX_r, stepX_a, stepX_e, bindO_some, bindA_some, nextV_eq, nextA_eq, nextE_eq, seqK_normal, seqK_exit, seqK_ret, blockK_normal, blockK_exit, blockK_ret, loopK_normal, loopK_exit, loopK_ret, condK_true, condK_false, fnK_normal, fnK_ret, bindR_some, want_none, want_some, wantV_true, wantV_false, Env.get_put, Env.get_init, Opd.ev, List.getD_cons_succ, List.getD_cons_zero, Option.some.injEq, reduceCtorEq, Nat.reduceEqDiff, ↓reduceIte, Bool.not_true, Bool.not_false, Bool.false_eq_true, decide_true, decide_false, run_mv, run_pick, run_nilck, run_bin, run_beq, run_nileq, run_seq, run_neg, run_not, run_cvInt, run_cvRune, run_cvStr, run_mkIface, run_field, run_fieldAddr, run_idxS, run_idxA, run_idxArr, run_idxStr, run_extract, run_lng, run_load, run_strOfBytes, run_lenC, run_mkFn, run_mnmx, pickV_true, pickV_false, nilckV_ptr, beqV_bool, negV_int, notV_bool, cvIntV_int, cvStrV_str, fieldAddrV_ptr, lngV_str, lngV_nils, lngV_slc, bin_add, bin_sub, bin_mul, bin_eql, bin_neq, bin_lss, bin_leq, bin_gtr, bin_geq, mnmxV2max, mnmxV2min, resVal, resVals, ARes.val, wp_loop, echoOk_nil, wp_call, true_and, and_true, List.map_cons, List.map_nil, wp_store, wp_append, bindX_some, run_bslice1, bs1V_int, bs1V_slc, bs1V_nils, val_slc, val_ptr, Nat.zero_add, Nat.add_zero, Int.reduceEq, Int.reduceLT, Int.reduceLE, Nat.reduceAdd, nileq_ptr, nilne_ptr, nileq_nilp, nilne_nilp, nileq_slc, nilne_slc, nileq_nils, nilne_nils, run_build0, run_box, run_bslice0, run_slS, Option.map_some, Option.map_none]
  refine (clone_spec tq hf rs.sl h1 h2).mono ?_
  rintro r H1 ⟨g1, cb, es, hcb1, hcb2, rfl, hcb⟩
  simp only [wp_skip, wp_ops, wp_seq, wp_cond, wp_block, wp_exit, wp_ret, wops_nil, wops_cons, stepX_r, stepX_a, stepX_e, bindO_some, bindA_some, nextV_eq, nextA_eq, nextE_eq, seqK_normal, seqK_exit, seqK_ret, blockK_normal, blockK_exit, blockK_ret, loopK_normal, loopK_exit, loopK_ret, condK_true, condK_false, fnK_normal, fnK_ret, bindR_some, want_none, want_some, wantV_true, wantV_false, Env.get_put, Env.get_init, Opd.ev, List.getD_cons_succ, List.getD_cons_zero, Option.some.injEq, reduceCtorEq, Nat.reduceEqDiff, ↓reduceIte, Bool.not_true, Bool.not_false, Bool.false_eq_true, decide_true, decide_false, run_mv, run_pick, run_nilck, run_bin, run_beq, run_nileq, run_seq, run_neg, run_not, run_cvInt, run_cvRune, run_cvStr, run_mkIface, run_field, run_fieldAddr, run_idxS, run_idxA, run_idxArr, run_idxStr, run_extract, run_lng, run_load, run_strOfBytes, run_lenC, run_mkFn, run_mnmx, pickV_true, pickV_false, nilckV_ptr, beqV_bool, negV_int, notV_bool, cvIntV_int, cvStrV_str, fieldAddrV_ptr, lngV_str, lngV_nils, lngV_slc, bin_add, bin_sub, bin_mul, bin_eql, bin_neq, bin_lss, bin_leq, bin_gtr, bin_geq, mnmxV2max, mnmxV2min, resVal, resVals, ARes.val, wp_loop, echoOk_nil, wp_call, true_and, and_true, List.map_cons, List.map_nil, wp_store, wp_append, bindX_some, run_bslice1, bs1V_int, bs1V_slc, bs1V_nils, val_slc, val_ptr, Nat.zero_add, Nat.add_zero, Int.reduceEq, Int.reduceLT, Int.reduceLE, Nat.reduceAdd, nileq_ptr, nilne_ptr, nileq_nilp, nilne_nilp, nileq_slc, nilne_slc, nileq_nils, nilne_nils, run_build0, run_box, run_bslice0, run_slS, Option.map_some, Option.map_none]
  obtain ⟨W, hW⟩ : ∃ W : Nat → Env → AHeap → Prop, ∀ m e H2, W m e H2 ↔ (cb < H2.next ∧ H2.get cb = some (.row ⟨L.map .bool, es, false, true⟩) ∧ ∃ k : Nat, m = L.length - k ∧ k ≤ L.length ∧ I cb (stopsF 0 (L.take k)) H2 ∧ Env.get e 0 = .yld yb ∧ Env.get e 11 = .slc cb 0 L.length L.length ∧ Env.get e 12 = .int .i64 L.length ∧ Env.get e 13 = .int .i64 k) := ⟨_, fun _ _ _ => Iff.rfl⟩
  refine loop_by W L.length ?_ ?_
  · refine (hW _ _ _).2 ⟨hcb2, hcb, 0, rfl, by omega, by simpa [stopsF] using h0 H1 cb g1 hcb1 hcb2, ?_⟩
    simp only [wp_skip, wp_ops, wp_seq, wp_cond, wp_block, wp_exit, wp_ret, wops_nil, wops_cons, stepX_r, stepX_a, stepX_e, bindO_some, bindA_some, nextV_eq, nextA_eq, nextE_eq, seqK_normal, seqK_exit, seqK_ret, blockK_normal, blockK_exit, blockK_ret, loopK_normal, loopK_exit, loopK_ret, condK_true, condK_false, fnK_normal, fnK_ret, bindR_some, want_none, want_some, wantV_true, wantV_false, Env.get_put, Env.get_init, Opd.ev, List.getD_cons_succ, List.getD_cons_zero, Option.some.injEq, reduceCtorEq, Nat.reduceEqDiff, ↓reduceIte, Bool.not_true, Bool.not_false, Bool.false_eq_true, decide_true, decide_false, run_mv, run_pick, run_nilck, run_bin, run_beq, run_nileq, run_seq, run_neg, run_not, run_cvInt, run_cvRune, run_cvStr, run_mkIface, run_field, run_fieldAddr, run_idxS, run_idxA, run_idxArr, run_idxStr, run_extract, run_lng, run_load, run_strOfBytes, run_lenC, run_mkFn, run_mnmx, pickV_true, pickV_false, nilckV_ptr, beqV_bool, negV_int, notV_bool, cvIntV_int, cvStrV_str, fieldAddrV_ptr, lngV_str, lngV_nils, lngV_slc, bin_add, bin_sub, bin_mul, bin_eql, bin_neq, bin_lss, bin_leq, bin_gtr, bin_geq, mnmxV2max, mnmxV2min, resVal, resVals, ARes.val, wp_loop, echoOk_nil, wp_call, true_and, and_true, List.map_cons, List.map_nil, wp_store, wp_append, bindX_some, run_bslice1, bs1V_int, bs1V_slc, bs1V_nils, val_slc, val_ptr, Nat.zero_add, Nat.add_zero, Int.reduceEq, Int.reduceLT, Int.reduceLE, Nat.reduceAdd, nileq_ptr, nilne_ptr, nileq_nilp, nilne_nilp, nileq_slc, nilne_slc, nileq_nils, nilne_nils, run_build0, run_box, run_bslice0, run_slS, Option.map_some, Option.map_none]
    rfl
  · intro m e H2 hinv
    obtain ⟨n2, gcb, k, rfl, hk, hI, e0, e11, e12, e13⟩ := (hW _ _ _).1 hinv
    by_cases d1 : (k : Int) < L.length
    · obtain ⟨b, hb⟩ : ∃ b, L[k]? = some b := ⟨_, List.getElem?_eq_getElem (by omega)⟩
      have xi : idxSV 1 (.slc cb 0 L.length L.length) (.int .i64 k) = some (.ptr cb (0 + k)) := idxSV_slc (by omega)
      have hr : H2.row cb = some ⟨L.map .bool, es, false, true⟩ := by simp only [AHeap.row, gcb, if_true]
      have ld2 : loadV H2 Option.none (.ptr cb k) = some (.bool b) := by
        simp only [loadV, ROp.run, Opd.ev, hr, List.getElem?_map, hb, Option.map_some]
      have w1 : IntKind.wrap .i64 ((k : Int) + 1) = ((k + 1 : Nat) : Int) := by rw [wrapI64 (by omega) (by omega)]; rfl
      have st := stops_take hb
      cases b with
      | false =>
        simp only [e0, e11, e12, e13, d1, xi, ld2, w1, wp_skip, wp_ops, wp_seq, wp_cond, wp_block, wp_exit, wp_ret, wops_nil, wops_cons, stepX_r, stepX_a, stepX_e, bindO_some, bindA_some, nextV_eq, nextA_eq, nextE_eq, seqK_normal, seqK_exit, seqK_ret, blockK_normal, blockK_exit, blockK_ret, loopK_normal, loopK_exit, loopK_ret, condK_true, condK_false, fnK_normal, fnK_ret, bindR_some, want_none, want_some, wantV_true, wantV_false, Env.get_put, Env.get_init, Opd.ev, List.getD_cons_succ, List.getD_cons_zero, Option.some.injEq, reduceCtorEq, Nat.reduceEqDiff, ↓reduceIte, Bool.not_true, Bool.not_false, Bool.false_eq_true, decide_true, decide_false, run_mv, run_pick, run_nilck, run_bin, run_beq, run_nileq, run_seq, run_neg, run_not, run_cvInt, run_cvRune, run_cvStr, run_mkIface, run_field, run_fieldAddr, run_idxS, run_idxA, run_idxArr, run_idxStr, run_extract, run_lng, run_load, run_strOfBytes, run_lenC, run_mkFn, run_mnmx, pickV_true, pickV_false, nilckV_ptr, beqV_bool, negV_int, notV_bool, cvIntV_int, cvStrV_str, fieldAddrV_ptr, lngV_str, lngV_nils, lngV_slc, bin_add, bin_sub, bin_mul, bin_eql, bin_neq, bin_lss, bin_leq, bin_gtr, bin_geq, mnmxV2max, mnmxV2min, resVal, resVals, ARes.val, wp_loop, echoOk_nil, wp_call, true_and, and_true, List.map_cons, List.map_nil, wp_store, wp_append, bindX_some, run_bslice1, bs1V_int, bs1V_slc, bs1V_nils, val_slc, val_ptr, Nat.zero_add, Nat.add_zero, Int.reduceEq, Int.reduceLT, Int.reduceLE, Nat.reduceAdd, nileq_ptr, nilne_ptr, nileq_nilp, nilne_nilp, nileq_slc, nilne_slc, nileq_nils, nilne_nils, run_build0, run_box, run_bslice0, run_slS, Option.map_some, Option.map_none]
        refine ⟨L.length - (k + 1), by omega, (hW _ _ _).2 ⟨n2, gcb, k + 1, rfl, by omega, ?_, ?_⟩⟩
        · rw [st]; exact hI
        · simp only [e0, e11, e12, e13, wp_skip, wp_ops, wp_seq, wp_cond, wp_block, wp_exit, wp_ret, wops_nil, wops_cons, stepX_r, stepX_a, stepX_e, bindO_some, bindA_some, nextV_eq, nextA_eq, nextE_eq, seqK_normal, seqK_exit, seqK_ret, blockK_normal, blockK_exit, blockK_ret, loopK_normal, loopK_exit, loopK_ret, condK_true, condK_false, fnK_normal, fnK_ret, bindR_some, want_none, want_some, wantV_true, wantV_false, Env.get_put, Env.get_init, Opd.ev, List.getD_cons_succ, List.getD_cons_zero, Option.some.injEq, reduceCtorEq, Nat.reduceEqDiff, ↓reduceIte, Bool.not_true, Bool.not_false, Bool.false_eq_true, decide_true, decide_false, run_mv, run_pick, run_nilck, run_bin, run_beq, run_nileq, run_seq, run_neg, run_not, run_cvInt, run_cvRune, run_cvStr, run_mkIface, run_field, run_fieldAddr, run_idxS, run_idxA, run_idxArr, run_idxStr, run_extract, run_lng, run_load, run_strOfBytes, run_lenC, run_mkFn, run_mnmx, pickV_true, pickV_false, nilckV_ptr, beqV_bool, negV_int, notV_bool, cvIntV_int, cvStrV_str, fieldAddrV_ptr, lngV_str, lngV_nils, lngV_slc, bin_add, bin_sub, bin_mul, bin_eql, bin_neq, bin_lss, bin_leq, bin_gtr, bin_geq, mnmxV2max, mnmxV2min, resVal, resVals, ARes.val, wp_loop, echoOk_nil, wp_call, true_and, and_true, List.map_cons, List.map_nil, wp_store, wp_append, bindX_some, run_bslice1, bs1V_int, bs1V_slc, bs1V_nils, val_slc, val_ptr, Nat.zero_add, Nat.add_zero, Int.reduceEq, Int.reduceLT, Int.reduceLE, Nat.reduceAdd, nileq_ptr, nilne_ptr, nileq_nilp, nilne_nilp, nileq_slc, nilne_slc, nileq_nils, nilne_nils, run_build0, run_box, run_bslice0, run_slS, Option.map_some, Option.map_none]
      | true =>
        simp only [e0, e11, e12, e13, d1, xi, ld2, w1, EOp.wp, wp_skip, wp_ops, wp_seq, wp_cond, wp_block, wp_exit, wp_ret, wops_nil, wops_cons, stepX_r, stepX_a, stepX_e, bindO_some, bindA_some, nextV_eq, nextA_eq, nextE_eq, seqK_normal, seqK_exit, seqK_ret, blockK_normal, blockK_exit, blockK_ret, loopK_normal, loopK_exit, loopK_ret, condK_true, condK_false, fnK_normal, fnK_ret, bindR_some, want_none, want_some, wantV_true, wantV_false, Env.get_put, Env.get_init, Opd.ev, List.getD_cons_succ, List.getD_cons_zero, Option.some.injEq, reduceCtorEq, Nat.reduceEqDiff, ↓reduceIte, Bool.not_true, Bool.not_false, Bool.false_eq_true, decide_true, decide_false, run_mv, run_pick, run_nilck, run_bin, run_beq, run_nileq, run_seq, run_neg, run_not, run_cvInt, run_cvRune, run_cvStr, run_mkIface, run_field, run_fieldAddr, run_idxS, run_idxA, run_idxArr, run_idxStr, run_extract, run_lng, run_load, run_strOfBytes, run_lenC, run_mkFn, run_mnmx, pickV_true, pickV_false, nilckV_ptr, beqV_bool, negV_int, notV_bool, cvIntV_int, cvStrV_str, fieldAddrV_ptr, lngV_str, lngV_nils, lngV_slc, bin_add, bin_sub, bin_mul, bin_eql, bin_neq, bin_lss, bin_leq, bin_gtr, bin_geq, mnmxV2max, mnmxV2min, resVal, resVals, ARes.val, wp_loop, echoOk_nil, wp_call, true_and, and_true, List.map_cons, List.map_nil, wp_store, wp_append, bindX_some, run_bslice1, bs1V_int, bs1V_slc, bs1V_nils, val_slc, val_ptr, Nat.zero_add, Nat.add_zero, Int.reduceEq, Int.reduceLT, Int.reduceLE, Nat.reduceAdd, nileq_ptr, nilne_ptr, nileq_nilp, nilne_nilp, nileq_slc, nilne_slc, nileq_nils, nilne_nils, run_build0, run_box, run_bslice0, run_slS, Option.map_some, Option.map_none]
        have hpre : (stopsF 0 (L.take k) ++ [(k : Int)]) <+: stops L := by
          have := stops_pre L (k + 1)
          rw [st] at this
          exact this
        refine (hY cb _ _ H2 hI hcb1 n2 hpre).mono ?_
        rintro r H3 ⟨n3, c3, ⟨rfl, hI3⟩ | ⟨rfl, hJ3⟩⟩
        · simp only [e0, e11, e12, e13, w1, nextE_eq, wp_skip, wp_ops, wp_seq, wp_cond, wp_block, wp_exit, wp_ret, wops_nil, wops_cons, stepX_r, stepX_a, stepX_e, bindO_some, bindA_some, nextV_eq, nextA_eq, nextE_eq, seqK_normal, seqK_exit, seqK_ret, blockK_normal, blockK_exit, blockK_ret, loopK_normal, loopK_exit, loopK_ret, condK_true, condK_false, fnK_normal, fnK_ret, bindR_some, want_none, want_some, wantV_true, wantV_false, Env.get_put, Env.get_init, Opd.ev, List.getD_cons_succ, List.getD_cons_zero, Option.some.injEq, reduceCtorEq, Nat.reduceEqDiff, ↓reduceIte, Bool.not_true, Bool.not_false, Bool.false_eq_true, decide_true, decide_false, run_mv, run_pick, run_nilck, run_bin, run_beq, run_nileq, run_seq, run_neg, run_not, run_cvInt, run_cvRune, run_cvStr, run_mkIface, run_field, run_fieldAddr, run_idxS, run_idxA, run_idxArr, run_idxStr, run_extract, run_lng, run_load, run_strOfBytes, run_lenC, run_mkFn, run_mnmx, pickV_true, pickV_false, nilckV_ptr, beqV_bool, negV_int, notV_bool, cvIntV_int, cvStrV_str, fieldAddrV_ptr, lngV_str, lngV_nils, lngV_slc, bin_add, bin_sub, bin_mul, bin_eql, bin_neq, bin_lss, bin_leq, bin_gtr, bin_geq, mnmxV2max, mnmxV2min, resVal, resVals, ARes.val, wp_loop, echoOk_nil, wp_call, true_and, and_true, List.map_cons, List.map_nil, wp_store, wp_append, bindX_some, run_bslice1, bs1V_int, bs1V_slc, bs1V_nils, val_slc, val_ptr, Nat.zero_add, Nat.add_zero, Int.reduceEq, Int.reduceLT, Int.reduceLE, Nat.reduceAdd, nileq_ptr, nilne_ptr, nileq_nilp, nilne_nilp, nileq_slc, nilne_slc, nileq_nils, nilne_nils, run_build0, run_box, run_bslice0, run_slS, Option.map_some, Option.map_none]
          refine ⟨L.length - (k + 1), by omega, (hW _ _ _).2 ⟨Nat.lt_of_lt_of_le n2 n3, by rw [c3]; exact gcb, k + 1, rfl, by omega, ?_, ?_⟩⟩
          · rw [st]; exact hI3
          · simp only [e0, e11, e12, e13, wp_skip, wp_ops, wp_seq, wp_cond, wp_block, wp_exit, wp_ret, wops_nil, wops_cons, stepX_r, stepX_a, stepX_e, bindO_some, bindA_some, nextV_eq, nextA_eq, nextE_eq, seqK_normal, seqK_exit, seqK_ret, blockK_normal, blockK_exit, blockK_ret, loopK_normal, loopK_exit, loopK_ret, condK_true, condK_false, fnK_normal, fnK_ret, bindR_some, want_none, want_some, wantV_true, wantV_false, Env.get_put, Env.get_init, Opd.ev, List.getD_cons_succ, List.getD_cons_zero, Option.some.injEq, reduceCtorEq, Nat.reduceEqDiff, ↓reduceIte, Bool.not_true, Bool.not_false, Bool.false_eq_true, decide_true, decide_false, run_mv, run_pick, run_nilck, run_bin, run_beq, run_nileq, run_seq, run_neg, run_not, run_cvInt, run_cvRune, run_cvStr, run_mkIface, run_field, run_fieldAddr, run_idxS, run_idxA, run_idxArr, run_idxStr, run_extract, run_lng, run_load, run_strOfBytes, run_lenC, run_mkFn, run_mnmx, pickV_true, pickV_false, nilckV_ptr, beqV_bool, negV_int, notV_bool, cvIntV_int, cvStrV_str, fieldAddrV_ptr, lngV_str, lngV_nils, lngV_slc, bin_add, bin_sub, bin_mul, bin_eql, bin_neq, bin_lss, bin_leq, bin_gtr, bin_geq, mnmxV2max, mnmxV2min, resVal, resVals, ARes.val, wp_loop, echoOk_nil, wp_call, true_and, and_true, List.map_cons, List.map_nil, wp_store, wp_append, bindX_some, run_bslice1, bs1V_int, bs1V_slc, bs1V_nils, val_slc, val_ptr, Nat.zero_add, Nat.add_zero, Int.reduceEq, Int.reduceLT, Int.reduceLE, Nat.reduceAdd, nileq_ptr, nilne_ptr, nileq_nilp, nilne_nilp, nileq_slc, nilne_slc, nileq_nils, nilne_nils, run_build0, run_box, run_bslice0, run_slS, Option.map_some, Option.map_none]
        · simp only [e0, e11, e12, e13, w1, nextE_eq, resNil, wp_skip, wp_ops, wp_seq, wp_cond, wp_block, wp_exit, wp_ret, wops_nil, wops_cons, stepX_r, stepX_a, stepX_e, bindO_some, bindA_some, nextV_eq, nextA_eq, nextE_eq, seqK_normal, seqK_exit, seqK_ret, blockK_normal, blockK_exit, blockK_ret, loopK_normal, loopK_exit, loopK_ret, condK_true, condK_false, fnK_normal, fnK_ret, bindR_some, want_none, want_some, wantV_true, wantV_false, Env.get_put, Env.get_init, Opd.ev, List.getD_cons_succ, List.getD_cons_zero, Option.some.injEq, reduceCtorEq, Nat.reduceEqDiff, ↓reduceIte, Bool.not_true, Bool.not_false, Bool.false_eq_true, decide_true, decide_false, run_mv, run_pick, run_nilck, run_bin, run_beq, run_nileq, run_seq, run_neg, run_not, run_cvInt, run_cvRune, run_cvStr, run_mkIface, run_field, run_fieldAddr, run_idxS, run_idxA, run_idxArr, run_idxStr, run_extract, run_lng, run_load, run_strOfBytes, run_lenC, run_mkFn, run_mnmx, pickV_true, pickV_false, nilckV_ptr, beqV_bool, negV_int, notV_bool, cvIntV_int, cvStrV_str, fieldAddrV_ptr, lngV_str, lngV_nils, lngV_slc, bin_add, bin_sub, bin_mul, bin_eql, bin_neq, bin_lss, bin_leq, bin_gtr, bin_geq, mnmxV2max, mnmxV2min, resVal, resVals, ARes.val, wp_loop, echoOk_nil, wp_call, true_and, and_true, List.map_cons, List.map_nil, wp_store, wp_append, bindX_some, run_bslice1, bs1V_int, bs1V_slc, bs1V_nils, val_slc, val_ptr, Nat.zero_add, Nat.add_zero, Int.reduceEq, Int.reduceLT, Int.reduceLE, Nat.reduceAdd, nileq_ptr, nilne_ptr, nileq_nilp, nilne_nilp, nileq_slc, nilne_slc, nileq_nils, nilne_nils, run_build0, run_box, run_bslice0, run_slS, Option.map_some, Option.map_none]
          exact ⟨cb, .inr ⟨_, hpre, hJ3⟩⟩
    · simp only [e0, e11, e12, e13, d1, resNil, wp_skip, wp_ops, wp_seq, wp_cond, wp_block, wp_exit, wp_ret, wops_nil, wops_cons, stepX_r, stepX_a, stepX_e, bindO_some, bindA_some, nextV_eq, nextA_eq, nextE_eq, seqK_normal, seqK_exit, seqK_ret, blockK_normal, blockK_exit, blockK_ret, loopK_normal, loopK_exit, loopK_ret, condK_true, condK_false, fnK_normal, fnK_ret, bindR_some, want_none, want_some, wantV_true, wantV_false, Env.get_put, Env.get_init, Opd.ev, List.getD_cons_succ, List.getD_cons_zero, Option.some.injEq, reduceCtorEq, Nat.reduceEqDiff, ↓reduceIte, Bool.not_true, Bool.not_false, Bool.false_eq_true, decide_true, decide_false, run_mv, run_pick, run_nilck, run_bin, run_beq, run_nileq, run_seq, run_neg, run_not, run_cvInt, run_cvRune, run_cvStr, run_mkIface, run_field, run_fieldAddr, run_idxS, run_idxA, run_idxArr, run_idxStr, run_extract, run_lng, run_load, run_strOfBytes, run_lenC, run_mkFn, run_mnmx, pickV_true, pickV_false, nilckV_ptr, beqV_bool, negV_int, notV_bool, cvIntV_int, cvStrV_str, fieldAddrV_ptr, lngV_str, lngV_nils, lngV_slc, bin_add, bin_sub, bin_mul, bin_eql, bin_neq, bin_lss, bin_leq, bin_gtr, bin_geq, mnmxV2max, mnmxV2min, resVal, resVals, ARes.val, wp_loop, echoOk_nil, wp_call, true_and, and_true, List.map_cons, List.map_nil, wp_store, wp_append, bindX_some, run_bslice1, bs1V_int, bs1V_slc, bs1V_nils, val_slc, val_ptr, Nat.zero_add, Nat.add_zero, Int.reduceEq, Int.reduceLT, Int.reduceLE, Nat.reduceAdd, nileq_ptr, nilne_ptr, nileq_nilp, nilne_nilp, nileq_slc, nilne_slc, nileq_nils, nilne_nils, run_build0, run_box, run_bslice0, run_slS, Option.map_some, Option.map_none]
      refine ⟨cb, .inl ?_⟩
      have : L.take k = L := List.take_of_length_le (by omega)
      rw [this] at hI
      exact hI
end
end Go.Proofs.Ytbokakhpdlkkkab.AM
