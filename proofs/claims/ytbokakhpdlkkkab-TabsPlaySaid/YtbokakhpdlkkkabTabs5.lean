/-
  New, Resize, Set, Clear, ClearAll of stops in blocks of their own, walked on the abstract machine.
-/
import Derived.Test.YtbokakhpdlkkkabTabs4
set_option linter.unusedVariables false
set_option linter.unusedSimpArgs false
namespace Go.Proofs.Ytbokakhpdlkkkab.AM
open Go
def tabAt (i : Nat) : Bool := decide (0 < i ∧ i % 8 = 0)
def widthN (w : Int) : Nat := (min (max w 1) 400).toNat
def cellsN (L : List Bool) (n : Nat) : List Bool := (List.range n).map fun i => (L[i]?).getD (tabAt i)
def rsz (L : List Bool) (w : Int) : List Bool := cellsN L (widthN w)
def inb (L : List Bool) (x : Int) : Bool := decide (0 ≤ x ∧ x < L.length)
def setA (L : List Bool) (x : Int) : Bool × List Bool := if inb L x && !(L.getD x.toNat false) then (true, L.set x.toNat true) else (false, L)
def clrA (L : List Bool) (x : Int) : Bool × List Bool := if inb L x && L.getD x.toNat false then (true, L.set x.toNat false) else (false, L)
def noneA (L : List Bool) : List Bool := L.map fun _ => false
theorem widthN_le (w : Int) : 1 ≤ widthN w ∧ widthN w ≤ 400 := by unfold widthN; omega
theorem rsz_len (L : List Bool) (w : Int) : (rsz L w).length = widthN w := by simp [rsz, cellsN]
theorem cellsN_succ (L : List Bool) (n : Nat) : cellsN L (n + 1) = cellsN L n ++ [(L[n]?).getD (tabAt n)] := by simp [cellsN, List.range_succ]
theorem cellsN_take {L : List Bool} {n : Nat} (h : n ≤ L.length) : cellsN L n = L.take n := by
  apply List.ext_getElem?
  intro i
  by_cases hi : i < n
  · simp [cellsN, List.getElem?_take, hi, List.getElem?_range, List.getElem?_eq_getElem (show i < L.length by omega)]
  · rw [List.getElem?_eq_none (by simp [cellsN]; omega), List.getElem?_eq_none (by simp; omega)]
/-- bools in a block of their own; behind them there may be room -/
def Bl (base : Nat) (H : AHeap) (l : List Cel) (v : AV) (L : List Bool) : Prop :=
  (L = [] ∧ v = .nils ∧ Hp base H l) ∨ ∃ b pad, L ≠ [] ∧ v = .slc b 0 L.length (L.length + pad.length) ∧ Hp base H (⟨b, 1, L.map .bool ++ pad⟩ :: l)
theorem Bl.hp {base : Nat} {H : AHeap} {l : List Cel} {v : AV} {L : List Bool} (h : Bl base H l v L) : Hp base H l := by
  rcases h with ⟨_, _, h⟩ | ⟨b, _, _, _, h⟩
  · exact h
  · exact h.drop
theorem Bl.one {base : Nat} {H : AHeap} {l : List Cel} {v : AV} {L : List Bool} (h : Bl base H l v L) : v.one = true := by
  rcases h with ⟨_, rfl, _⟩ | ⟨b, _, _, rfl, _⟩ <;> rfl
theorem Bl.sl {base : Nat} {H : AHeap} {l : List Cel} {v : AV} {L : List Bool} (h : Bl base H l v L) : IsSl IsBoo H v L := by
  rcases h with ⟨rfl, rfl, _⟩ | ⟨b, pad, _, rfl, h⟩
  · exact .inl ⟨rfl, rfl⟩
  · obtain ⟨B, r, c⟩ := h.rowOf (b := b) (k := 1) (cs := L.map .bool ++ pad) (by simp)
    refine .inr ⟨b, 0, _, B, rfl, r, fun i y hy => ⟨.bool y, ?_, rfl⟩⟩
    have hi : i < L.length := (List.getElem?_eq_some_iff.1 hy).1
    rw [c, Nat.zero_add, List.getElem?_append_left (by simpa using hi), List.getElem?_map, hy]; rfl
theorem Bl.tmp {base : Nat} {H : AHeap} {l : List Cel} {v : AV} {L : List Bool} (h : Bl base H l v L) {y : Bool} :
    ∃ H', H.alloc (.row ⟨[.bool y], 0, false, true⟩) = H' ∧ Bl base H' (⟨H.next, 1, [.bool y]⟩ :: l) v L ∧ Keep base H H' := by
  refine ⟨_, rfl, ?_, h.hp.keep_alloc _⟩
  rcases h with ⟨h1, h2, h⟩ | ⟨b, pad, h2, h3, h⟩
  · exact .inl ⟨h1, h2, h.alloc _ _ _ (.inl rfl)⟩
  · exact .inr ⟨b, pad, h2, h3, (h.alloc _ _ _ (.inl rfl)).swap⟩
theorem Bl.put {base : Nat} {H : AHeap} {l : List Cel} {v : AV} {L : List Bool} {s k : Nat} {cs : List AV} {o : Nat} (h : Bl base H (⟨s, k, cs⟩ :: l) v L) (hv : v.one = true) (ho : o < cs.length) :
    ∃ H', storeE H 1 (.ptr s o) v = some (.undef, H') ∧ Bl base H' (⟨s, k, cs.set o v⟩ :: l) v L ∧ Keep base H H' := by
  rcases h with ⟨h1, h2, h⟩ | ⟨b, pad, h2, h3, h⟩
  · obtain ⟨H', s1, b1, f1, n1⟩ := h.store hv ho
    exact ⟨H', s1, .inl ⟨h1, h2, b1⟩, f1⟩
  · obtain ⟨H', s1, b1, f1, n1⟩ := (h.swap).store hv ho
    exact ⟨H', s1, .inr ⟨b, pad, h2, h3, b1.swap⟩, f1⟩
theorem Bl.drop {base : Nat} {H : AHeap} {l : List Cel} {x : Cel} {v : AV} {L : List Bool} (h : Bl base H (x :: l) v L) : Bl base H l v L := by
  rcases h with ⟨h1, h2, h⟩ | ⟨b, pad, h2, h3, h⟩
  · exact .inl ⟨h1, h2, h.drop⟩
  · exact .inr ⟨b, pad, h2, h3, h.swap.drop⟩
theorem Bl.cut {base : Nat} {H : AHeap} {l : List Cel} {v : AV} {L : List Bool} (h : Bl base H l v L) {k : Nat} (hk : k ≤ L.length) (h0 : 0 < k ∨ L = []) :
    ∃ w, slSV H 1 v Option.none (some (.int .i64 k)) = some w ∧ Bl base H l w (L.take k) := by
  rcases h with ⟨rfl, rfl, h⟩ | ⟨b, pad, h2, rfl, h⟩
  · have : k = 0 := by simpa using hk
    subst this
    exact ⟨.nils, rfl, .inl ⟨by simp, rfl, h⟩⟩
  · have h0 : 0 < k := h0.resolve_right h2
    obtain ⟨es, h1, h3⟩ := h.has _ (List.mem_cons_self ..)
    simp only at h1 h3
    have hl : (L.take k).length = k := by simp; omega
    refine ⟨.slc b 0 k (L.length + pad.length), ?_, .inr ⟨b, (L.drop k).map .bool ++ pad, ?_, ?_, ?_⟩⟩
    · simp only [slSV, ROp.run, Opd.ev, Option.map_some, Option.map_none, bounds, bound, if_pos (show 0 ≤ (k : Int) ∧ (k : Int) ≤ ((L.length + pad.length : Nat) : Int) by omega), Int.toNat_natCast, h1, if_pos h3]
      simp
    · intro hh; rw [hh] at hl; simp at hl; omega
    · rw [hl]; simp; omega
    · rw [← List.append_assoc, ← List.map_append, List.take_append_drop]; exact h
theorem storeA_of {H H' : AHeap} {b o : Nat} {v : AV} (hv : v.one = true) (h : storeE H 1 (.ptr b o) v = some (.undef, H')) : storeA H b o [v] = some H' := by
  have hc : v.cells = [v] := by cases v <;> first | rfl | (simp [AV.one] at hv)
  simp only [storeE, EOp.run, Opd.ev, hc, List.length_cons, List.length_nil, Nat.zero_add, if_true] at h
  split at h
  · simp only [Option.some.injEq, Prod.mk.injEq, true_and] at h
    rw [← h]; assumption
  · cases h
theorem Bl.push {base : Nat} {H : AHeap} {l : List Cel} {v : AV} {L : List Bool} {y : Bool} {tb : Nat} (h : Bl base H (⟨tb, 1, [.bool y]⟩ :: l) v L) (hs : L.length ≤ 1000000) :
    ∃ w H', appendE H 1 1 v (.slc tb 0 1 1) = some (w, H') ∧ Bl base H' (⟨tb, 1, [.bool y]⟩ :: l) w (L ++ [y]) ∧ Keep base H H' := by
  rcases h with ⟨rfl, rfl, h⟩ | ⟨b, pad, hne, rfl, h⟩
  · obtain ⟨B, r4, c4⟩ := h.rowOf (cs := [.bool y]) (List.mem_cons_self ..)
    obtain ⟨H5, s5, h5, k5⟩ := h.append0 (bytes := 1) (o2 := 0) (c2 := 1) (v := .bool y) r4 (by rw [c4]; rfl) rfl (by omega) (by omega)
    exact ⟨_, H5, s5, .inr ⟨H.next, [], by simp, by simp, by simpa using h5⟩, k5⟩
  · obtain ⟨B, r4, c4⟩ := h.rowOf (b := tb) (k := 1) (cs := [.bool y]) (by simp)
    cases pad with
    | nil =>
      obtain ⟨H5, s5, h5, k5⟩ := h.append1 (bytes := 1) (o2 := 0) (c2 := 1) (v := .bool y) (n := L.length) (by simp) r4 (by rw [c4]; rfl) rfl (by omega) (by omega)
      exact ⟨_, H5, s5, .inr ⟨H.next, [], by simp, by simp, by simpa using h5⟩, k5⟩
    | cons z pad =>
      obtain ⟨H5, s5, h5, k5, n5⟩ := h.store (o := L.length) (v := .bool y) rfl (by simp)
      have sA := storeA_of rfl s5
      have hcut2 : AM.cut B.cells 0 (1 * 1) = some [.bool y] := by rw [c4]; rfl
      have hsrc : srcCells H 1 (.slc tb 0 1 1) = some (1, [.bool y]) := by
        simp only [srcCells, Nat.one_ne_zero, if_false, r4, hcut2]
      refine ⟨.slc b 0 (L.length + 1) (L.length + (z :: pad).length), H5, ?_, .inr ⟨b, pad, by simp, by simp; omega, ?_⟩, k5⟩
      · simp only [appendE, EOp.run, Opd.ev, hsrc, appendA]
        rw [if_neg (by simp [AV.one]), if_pos (by simp), if_neg (by omega)]
        simp [sA]
      · have : (L.map AV.bool ++ z :: pad).set L.length (.bool y) = (L ++ [y]).map AV.bool ++ pad := by
          rw [List.set_append_right _ _ (by simp)]; simp
        rw [this] at h5; exact h5
theorem Bl.setAt {base : Nat} {H : AHeap} {l : List Cel} {v : AV} {L : List Bool} (h : Bl base H l v L) {x : Nat} (hx : x < L.length) (y : Bool) :
    ∃ H', storeE H 1 (atOf v x) (.bool y) = some (.undef, H') ∧ Bl base H' l v (L.set x y) ∧ Keep base H H' := by
  rcases h with ⟨rfl, rfl, h⟩ | ⟨b, pad, hne, rfl, h⟩
  · simp at hx
  · obtain ⟨H5, s5, h5, k5, n5⟩ := h.store (o := x) (v := .bool y) rfl (by simp; omega)
    refine ⟨H5, by simpa [atOf] using s5, .inr ⟨b, pad, ?_, by simp, ?_⟩, k5⟩
    · intro hh
      have := congrArg List.length hh
      simp at this; exact hne this
    · have : (L.map AV.bool ++ pad).set x (.bool y) = (L.set x y).map AV.bool ++ pad := by
        rw [List.set_append_left _ _ (by simpa using hx), List.map_set]
      rw [this] at h5; exact h5
def clearE (H : AHeap) (zero : List AV) (s : AV) : Option (AV × AHeap) := EOp.run noCall H .nil (.clear zero (.c s))
theorem wp_clear (Q : Prog) (H : AHeap) (e : Env) (K : AV → AHeap → Prop) (zero : List AV) (s : Opd) : EOp.wp Q H e K (.clear zero s) = bindX (clearE H zero (s.ev e)) K := rfl
theorem over_app : ∀ (vs a b c : List AV), vs.length = b.length → over (a ++ (b ++ c)) a.length vs = a ++ (vs ++ c)
  | [], a, b, c, h => by
    have : b = [] := List.eq_nil_of_length_eq_zero h.symm
    subst this; rfl
  | v :: vs, a, b, c, h => by
    cases b with
    | nil => simp at h
    | cons x b =>
      have h1 := over_app vs (a ++ [v]) b c (by simpa using h)
      have h2 : (a ++ (x :: b ++ c)).set a.length v = a ++ [v] ++ (b ++ c) := by
        rw [List.set_append_right _ _ (Nat.le_refl _)]; simp
      simp only [over]
      rw [h2]
      simp only [List.length_append, List.length_cons, List.length_nil, Nat.zero_add] at h1
      rw [h1]; simp
theorem bs1V_bool (y : Bool) : bs1V (.bool y) = some (.row ⟨[.bool y], 0, false, true⟩, .slc 1 1) := rfl
theorem zeros_bool (n : Nat) : zeros [.bool false] n = List.replicate n (.bool false) := by
  unfold zeros
  apply List.ext_getElem?
  intro i
  by_cases hi : i < n
  · rw [List.getElem?_map, List.getElem?_range hi, List.getElem?_replicate, if_pos hi]
    simp [Nat.mod_one]
  · rw [List.getElem?_eq_none (by simp; omega), List.getElem?_eq_none (by simp; omega)]
theorem Bl.clear {base : Nat} {H : AHeap} {l : List Cel} {v : AV} {L : List Bool} (h : Bl base H l v L) :
    ∃ H', clearE H [.bool false] v = some (.undef, H') ∧ Bl base H' l v (noneA L) ∧ Keep base H H' := by
  rcases h with ⟨rfl, rfl, h⟩ | ⟨b, pad, hne, rfl, h⟩
  · exact ⟨H, rfl, .inl ⟨rfl, rfl, h⟩, Keep.refl _ _⟩
  · obtain ⟨es, h1, h2⟩ := (h.has _ (List.mem_cons_self ..)).row
    simp only at h1 h2
    have hl : L.length ≠ 0 := fun hh => hne (List.eq_nil_of_length_eq_zero hh)
    have hov : over (L.map AV.bool ++ pad) 0 (List.replicate L.length (.bool false)) = (noneA L).map AV.bool ++ pad := by
      have := over_app (List.replicate L.length (.bool false)) [] (L.map AV.bool) pad (by simp)
      simp only [List.nil_append, List.length_nil] at this
      rw [this]
      congr 1
      simp only [noneA, List.map_map]
      apply List.ext_getElem?
      intro i
      by_cases hi : i < L.length
      · rw [List.getElem?_replicate, if_pos hi, List.getElem?_map, List.getElem?_eq_getElem hi]; rfl
      · rw [List.getElem?_eq_none (by simp; omega), List.getElem?_eq_none (by simp; omega)]
    refine ⟨H.set b (.row ⟨(noneA L).map AV.bool ++ pad, es, false, true⟩), ?_, .inr ⟨b, pad, ?_, by simp [noneA], h.set _ _ h2⟩, h.keep_set _⟩
    · simp only [clearE, EOp.run, Opd.ev, List.length_cons, List.length_nil, Nat.zero_add, Nat.mul_one, zeros_bool]
      rw [if_neg hl]
      simp only [storeA, h1, List.length_replicate, hov]
      simp [AV.one]
    · intro hh
      have := congrArg List.length hh
      simp [noneA] at this; exact hne this
def St (base : Nat) (H : AHeap) (p : Nat) (L : List Bool) (l : List Cel) : Prop := ∃ v, Bl base H (⟨p, 1, [v]⟩ :: l) v L
theorem St.rd {base : Nat} {H : AHeap} {p : Nat} {L : List Bool} {l : List Cel} (h : St base H p L l) : ∃ v, RdS H p v L := by
  obtain ⟨v, h⟩ := h
  exact ⟨v, h.hp.load (List.mem_cons_self ..) rfl, h.sl, h.hp.lt (List.mem_cons_self ..)⟩
theorem St.fr {base : Nat} {H : AHeap} {p : Nat} {L : List Bool} {l : List Cel} (h : St base H p L l) : Fr H := by
  obtain ⟨v, h⟩ := h
  exact h.hp.fr
theorem St.hp {base : Nat} {H : AHeap} {p : Nat} {L : List Bool} {l : List Cel} (h : St base H p L l) : Hp base H l := by
  obtain ⟨v, h⟩ := h
  exact h.hp.drop
theorem St.keep {base : Nat} {H H' : AHeap} {p : Nat} {L : List Bool} {l : List Cel} (h : St base H p L l) (g : Gr H H') : St base H' p L l := by
  obtain ⟨v, h⟩ := h
  refine ⟨v, ?_⟩
  rcases h with ⟨h1, h2, h⟩ | ⟨b, pad, h2, h3, h⟩
  · exact .inl ⟨h1, h2, h.keep g.keep g.next g.fr⟩
  · exact .inr ⟨b, pad, h2, h3, h.keep g.keep g.next g.fr⟩
section
variable {Q : Prog} (tq : TabQ2 Q) {H : AHeap} {base p : Nat} {L : List Bool} {l : List Cel}
include tq
set_option maxHeartbeats 2000000 in
theorem is_spec (h : St base H p L l) (x : Int) : FnTo Q 41 [.ptr p 0, .int .i64 x] H (fun r H' => r = .bool (inb L x) ∧ H' = H) := by
  refine fn_wp (tq.no 41 rfl _) tq.q41 (by simp [A41]) ?_
  obtain ⟨v, h⟩ := h
  have ld := h.hp.load (b := p) (k := 1) (cs := [v]) (List.mem_cons_self ..) (o := 0) rfl
  have ll := h.sl.len
  by_cases c1 : 0 ≤ x
  · by_cases c2 : x < (L.length : Int)
    · simp only [A41, ld, ll, c1, c2, wp_skip, wp_ops, wp_seq, wp_cond, wp_block, wp_exit, wp_ret, wops_nil, wops_cons, stepX_r, stepX_a, stepX_e, bindO_some, bindA_some, nextV_eq, nextA_eq, nextE_eq, seqK_normal, seqK_exit, seqK_ret, blockK_normal, blockK_exit, blockK_ret, loopK_normal, loopK_exit, loopK_ret, condK_true, condK_false, fnK_normal, fnK_ret, bindR_some, want_none, want_some, wantV_true, wantV_false, Env.get_put, Env.get_init, Opd.ev, List.getD_cons_succ, List.getD_cons_zero, Option.some.injEq, reduceCtorEq, Nat.reduceEqDiff, ↓reduceIte, Bool.not_true, Bool.not_false, Bool.false_eq_true, decide_true, decide_false, run_mv, run_pick, run_nilck, run_bin, run_beq, run_nileq, run_seq, run_neg, run_not, run_cvInt, run_cvRune, run_cvStr, run_mkIface, run_field, run_fieldAddr, run_idxS, run_idxA, run_idxArr, run_idxStr, run_extract, run_lng, run_load, run_strOfBytes, run_lenC, run_mkFn, run_mnmx, pickV_true, pickV_false, nilckV_ptr, beqV_bool, negV_int, notV_bool, cvIntV_int, cvStrV_str, fieldAddrV_ptr, lngV_str, lngV_nils, lngV_slc, bin_add, bin_sub, bin_mul, bin_eql, bin_neq, bin_lss, bin_leq, bin_gtr, bin_geq, mnmxV2max, mnmxV2min, resVal, resVals, ARes.val, wp_loop, echoOk_nil, wp_call, true_and, and_true, List.map_cons, List.map_nil, wp_store, wp_append, bindX_some, run_bslice1, bs1V_int, bs1V_slc, bs1V_nils, val_slc, val_ptr, Nat.zero_add, Nat.add_zero, Int.reduceEq, Int.reduceLT, Int.reduceLE, Nat.reduceAdd, nileq_ptr, nilne_ptr, nileq_nilp, nilne_nilp, nileq_slc, nilne_slc, nileq_nils, nilne_nils, run_build0, run_box, run_bslice0, run_slS, Option.map_some, Option.map_none]
      simp [inb, c1, c2]
    · simp only [A41, ld, ll, c1, c2, wp_skip, wp_ops, wp_seq, wp_cond, wp_block, wp_exit, wp_ret, wops_nil, wops_cons, stepX_r, stepX_a, stepX_e, bindO_some, bindA_some, nextV_eq, nextA_eq, nextE_eq, seqK_normal, seqK_exit, seqK_ret, blockK_normal, blockK_exit, blockK_ret, loopK_normal, loopK_exit, loopK_ret, condK_true, condK_false, fnK_normal, fnK_ret, bindR_some, want_none, want_some, wantV_true, wantV_false, Env.get_put, Env.get_init, Opd.ev, List.getD_cons_succ, List.getD_cons_zero, Option.some.injEq, reduceCtorEq, Nat.reduceEqDiff, ↓reduceIte, Bool.not_true, Bool.not_false, Bool.false_eq_true, decide_true, decide_false, run_mv, run_pick, run_nilck, run_bin, run_beq, run_nileq, run_seq, run_neg, run_not, run_cvInt, run_cvRune, run_cvStr, run_mkIface, run_field, run_fieldAddr, run_idxS, run_idxA, run_idxArr, run_idxStr, run_extract, run_lng, run_load, run_strOfBytes, run_lenC, run_mkFn, run_mnmx, pickV_true, pickV_false, nilckV_ptr, beqV_bool, negV_int, notV_bool, cvIntV_int, cvStrV_str, fieldAddrV_ptr, lngV_str, lngV_nils, lngV_slc, bin_add, bin_sub, bin_mul, bin_eql, bin_neq, bin_lss, bin_leq, bin_gtr, bin_geq, mnmxV2max, mnmxV2min, resVal, resVals, ARes.val, wp_loop, echoOk_nil, wp_call, true_and, and_true, List.map_cons, List.map_nil, wp_store, wp_append, bindX_some, run_bslice1, bs1V_int, bs1V_slc, bs1V_nils, val_slc, val_ptr, Nat.zero_add, Nat.add_zero, Int.reduceEq, Int.reduceLT, Int.reduceLE, Nat.reduceAdd, nileq_ptr, nilne_ptr, nileq_nilp, nilne_nilp, nileq_slc, nilne_slc, nileq_nils, nilne_nils, run_build0, run_box, run_bslice0, run_slS, Option.map_some, Option.map_none]
      simp [inb, c1, c2]
  · simp only [A41, ld, ll, c1, wp_skip, wp_ops, wp_seq, wp_cond, wp_block, wp_exit, wp_ret, wops_nil, wops_cons, stepX_r, stepX_a, stepX_e, bindO_some, bindA_some, nextV_eq, nextA_eq, nextE_eq, seqK_normal, seqK_exit, seqK_ret, blockK_normal, blockK_exit, blockK_ret, loopK_normal, loopK_exit, loopK_ret, condK_true, condK_false, fnK_normal, fnK_ret, bindR_some, want_none, want_some, wantV_true, wantV_false, Env.get_put, Env.get_init, Opd.ev, List.getD_cons_succ, List.getD_cons_zero, Option.some.injEq, reduceCtorEq, Nat.reduceEqDiff, ↓reduceIte, Bool.not_true, Bool.not_false, Bool.false_eq_true, decide_true, decide_false, run_mv, run_pick, run_nilck, run_bin, run_beq, run_nileq, run_seq, run_neg, run_not, run_cvInt, run_cvRune, run_cvStr, run_mkIface, run_field, run_fieldAddr, run_idxS, run_idxA, run_idxArr, run_idxStr, run_extract, run_lng, run_load, run_strOfBytes, run_lenC, run_mkFn, run_mnmx, pickV_true, pickV_false, nilckV_ptr, beqV_bool, negV_int, notV_bool, cvIntV_int, cvStrV_str, fieldAddrV_ptr, lngV_str, lngV_nils, lngV_slc, bin_add, bin_sub, bin_mul, bin_eql, bin_neq, bin_lss, bin_leq, bin_gtr, bin_geq, mnmxV2max, mnmxV2min, resVal, resVals, ARes.val, wp_loop, echoOk_nil, wp_call, true_and, and_true, List.map_cons, List.map_nil, wp_store, wp_append, bindX_some, run_bslice1, bs1V_int, bs1V_slc, bs1V_nils, val_slc, val_ptr, Nat.zero_add, Nat.add_zero, Int.reduceEq, Int.reduceLT, Int.reduceLE, Nat.reduceAdd, nileq_ptr, nilne_ptr, nileq_nilp, nilne_nilp, nileq_slc, nilne_slc, nileq_nils, nilne_nils, run_build0, run_box, run_bslice0, run_slS, Option.map_some, Option.map_none]
    simp [inb, c1]
set_option maxHeartbeats 2000000 in
theorem set_spec (h : St base H p L l) (x : Int) : FnTo Q 23 [.ptr p 0, .int .i64 x] H (fun r H' => r = .bool (setA L x).1 ∧ St base H' p (setA L x).2 l ∧ Keep base H H') := by
  refine fn_wp (tq.no 23 rfl _) tq.q23 (by simp [A23]) ?_
  simp only [A23, wp_skip, wp_ops, wp_seq, wp_cond, wp_block, wp_exit, wp_ret, wops_nil, wops_cons, stepX_r, stepX_a, stepX_e, bindO_some, bindA_some, nextV_eq, nextA_eq, nextE_eq, seqK_normal, seqK_exit, seqK_ret, blockK_normal, blockK_exit, blockK_ret, loopK_normal, loopK_exit, loopK_ret, condK_true, condK_false, fnK_normal, fnK_ret, bindR_some, want_none, want_some, wantV_true, wantV_false, Env.get_put, Env.get_init, Opd.ev, List.getD_cons_succ, List.getD_cons_zero, Option.some.injEq, reduceCtorEq, Nat.reduceEqDiff, ↓reduceIte, Bool.not_true, Bool.not_false, Bool.false_eq_true, decide_true, decide_false, run_mv, run_pick, run_nilck, run_bin, run_beq, run_nileq, run_seq, run_neg, run_not, run_cvInt, run_cvRune, run_cvStr, run_mkIface, run_field, run_fieldAddr, run_idxS, run_idxA, run_idxArr, run_idxStr, run_extract, run_lng, run_load, run_strOfBytes, run_lenC, run_mkFn, run_mnmx, pickV_true, pickV_false, nilckV_ptr, beqV_bool, negV_int, notV_bool, cvIntV_int, cvStrV_str, fieldAddrV_ptr, lngV_str, lngV_nils, lngV_slc, bin_add, bin_sub, bin_mul, bin_eql, bin_neq, bin_lss, bin_leq, bin_gtr, bin_geq, mnmxV2max, mnmxV2min, resVal, resVals, ARes.val, wp_loop, echoOk_nil, wp_call, true_and, and_true, List.map_cons, List.map_nil, wp_store, wp_append, bindX_some, run_bslice1, bs1V_int, bs1V_slc, bs1V_nils, val_slc, val_ptr, Nat.zero_add, Nat.add_zero, Int.reduceEq, Int.reduceLT, Int.reduceLE, Nat.reduceAdd, nileq_ptr, nilne_ptr, nileq_nilp, nilne_nilp, nileq_slc, nilne_slc, nileq_nils, nilne_nils, run_build0, run_box, run_bslice0, run_slS, Option.map_some, Option.map_none]
  refine (is_spec tq h x).mono ?_
  rintro r H' ⟨rfl, rfl⟩
  cases hi : inb L x with
  | false =>
    simp only [wp_skip, wp_ops, wp_seq, wp_cond, wp_block, wp_exit, wp_ret, wops_nil, wops_cons, stepX_r, stepX_a, stepX_e, bindO_some, bindA_some, nextV_eq, nextA_eq, nextE_eq, seqK_normal, seqK_exit, seqK_ret, blockK_normal, blockK_exit, blockK_ret, loopK_normal, loopK_exit, loopK_ret, condK_true, condK_false, fnK_normal, fnK_ret, bindR_some, want_none, want_some, wantV_true, wantV_false, Env.get_put, Env.get_init, Opd.ev, List.getD_cons_succ, List.getD_cons_zero, Option.some.injEq, reduceCtorEq, Nat.reduceEqDiff, ↓reduceIte, Bool.not_true, Bool.not_false, Bool.false_eq_true, decide_true, decide_false, run_mv, run_pick, run_nilck, run_bin, run_beq, run_nileq, run_seq, run_neg, run_not, run_cvInt, run_cvRune, run_cvStr, run_mkIface, run_field, run_fieldAddr, run_idxS, run_idxA, run_idxArr, run_idxStr, run_extract, run_lng, run_load, run_strOfBytes, run_lenC, run_mkFn, run_mnmx, pickV_true, pickV_false, nilckV_ptr, beqV_bool, negV_int, notV_bool, cvIntV_int, cvStrV_str, fieldAddrV_ptr, lngV_str, lngV_nils, lngV_slc, bin_add, bin_sub, bin_mul, bin_eql, bin_neq, bin_lss, bin_leq, bin_gtr, bin_geq, mnmxV2max, mnmxV2min, resVal, resVals, ARes.val, wp_loop, echoOk_nil, wp_call, true_and, and_true, List.map_cons, List.map_nil, wp_store, wp_append, bindX_some, run_bslice1, bs1V_int, bs1V_slc, bs1V_nils, val_slc, val_ptr, Nat.zero_add, Nat.add_zero, Int.reduceEq, Int.reduceLT, Int.reduceLE, Nat.reduceAdd, nileq_ptr, nilne_ptr, nileq_nilp, nilne_nilp, nileq_slc, nilne_slc, nileq_nils, nilne_nils, run_build0, run_box, run_bslice0, run_slS, Option.map_some, Option.map_none]
    have e : setA L x = (false, L) := by simp [setA, hi]
    rw [e]
    exact ⟨rfl, h, Keep.refl _ _⟩
  | true =>
    obtain ⟨c1, c2⟩ : 0 ≤ x ∧ x < (L.length : Int) := by simpa [inb] using hi
    obtain ⟨v, h⟩ := h
    have ld := h.hp.load (b := p) (k := 1) (cs := [v]) (List.mem_cons_self ..) (o := 0) rfl
    have at1 := h.sl.at c1 c2 .i64
    obtain ⟨b, hb⟩ : ∃ b, L[x.toNat]? = some b := ⟨_, List.getElem?_eq_getElem (by omega)⟩
    obtain ⟨c, lc, hc⟩ := h.sl.get hb
    cases hc
    have hD : L.getD x.toNat false = b := by rw [List.getD_eq_getElem?_getD, hb]; rfl
    cases b with
    | true =>
      simp only [ld, at1, lc, wp_skip, wp_ops, wp_seq, wp_cond, wp_block, wp_exit, wp_ret, wops_nil, wops_cons, stepX_r, stepX_a, stepX_e, bindO_some, bindA_some, nextV_eq, nextA_eq, nextE_eq, seqK_normal, seqK_exit, seqK_ret, blockK_normal, blockK_exit, blockK_ret, loopK_normal, loopK_exit, loopK_ret, condK_true, condK_false, fnK_normal, fnK_ret, bindR_some, want_none, want_some, wantV_true, wantV_false, Env.get_put, Env.get_init, Opd.ev, List.getD_cons_succ, List.getD_cons_zero, Option.some.injEq, reduceCtorEq, Nat.reduceEqDiff, ↓reduceIte, Bool.not_true, Bool.not_false, Bool.false_eq_true, decide_true, decide_false, run_mv, run_pick, run_nilck, run_bin, run_beq, run_nileq, run_seq, run_neg, run_not, run_cvInt, run_cvRune, run_cvStr, run_mkIface, run_field, run_fieldAddr, run_idxS, run_idxA, run_idxArr, run_idxStr, run_extract, run_lng, run_load, run_strOfBytes, run_lenC, run_mkFn, run_mnmx, pickV_true, pickV_false, nilckV_ptr, beqV_bool, negV_int, notV_bool, cvIntV_int, cvStrV_str, fieldAddrV_ptr, lngV_str, lngV_nils, lngV_slc, bin_add, bin_sub, bin_mul, bin_eql, bin_neq, bin_lss, bin_leq, bin_gtr, bin_geq, mnmxV2max, mnmxV2min, resVal, resVals, ARes.val, wp_loop, echoOk_nil, wp_call, true_and, and_true, List.map_cons, List.map_nil, wp_store, wp_append, bindX_some, run_bslice1, bs1V_int, bs1V_slc, bs1V_nils, val_slc, val_ptr, Nat.zero_add, Nat.add_zero, Int.reduceEq, Int.reduceLT, Int.reduceLE, Nat.reduceAdd, nileq_ptr, nilne_ptr, nileq_nilp, nilne_nilp, nileq_slc, nilne_slc, nileq_nils, nilne_nils, run_build0, run_box, run_bslice0, run_slS, Option.map_some, Option.map_none]
      have e : setA L x = (false, L) := by simp only [setA, hD]; simp
      rw [e]
      exact ⟨rfl, ⟨v, h⟩, Keep.refl _ _⟩
    | false =>
      obtain ⟨H1, s1, h1, k1⟩ := h.setAt (x := x.toNat) (by omega) true
      have hat : atOf v x = atOf v (x.toNat : Int) := by rw [Int.toNat_of_nonneg c1]
      rw [hat] at at1 lc
      simp only [ld, at1, lc, s1, wp_skip, wp_ops, wp_seq, wp_cond, wp_block, wp_exit, wp_ret, wops_nil, wops_cons, stepX_r, stepX_a, stepX_e, bindO_some, bindA_some, nextV_eq, nextA_eq, nextE_eq, seqK_normal, seqK_exit, seqK_ret, blockK_normal, blockK_exit, blockK_ret, loopK_normal, loopK_exit, loopK_ret, condK_true, condK_false, fnK_normal, fnK_ret, bindR_some, want_none, want_some, wantV_true, wantV_false, Env.get_put, Env.get_init, Opd.ev, List.getD_cons_succ, List.getD_cons_zero, Option.some.injEq, reduceCtorEq, Nat.reduceEqDiff, ↓reduceIte, Bool.not_true, Bool.not_false, Bool.false_eq_true, decide_true, decide_false, run_mv, run_pick, run_nilck, run_bin, run_beq, run_nileq, run_seq, run_neg, run_not, run_cvInt, run_cvRune, run_cvStr, run_mkIface, run_field, run_fieldAddr, run_idxS, run_idxA, run_idxArr, run_idxStr, run_extract, run_lng, run_load, run_strOfBytes, run_lenC, run_mkFn, run_mnmx, pickV_true, pickV_false, nilckV_ptr, beqV_bool, negV_int, notV_bool, cvIntV_int, cvStrV_str, fieldAddrV_ptr, lngV_str, lngV_nils, lngV_slc, bin_add, bin_sub, bin_mul, bin_eql, bin_neq, bin_lss, bin_leq, bin_gtr, bin_geq, mnmxV2max, mnmxV2min, resVal, resVals, ARes.val, wp_loop, echoOk_nil, wp_call, true_and, and_true, List.map_cons, List.map_nil, wp_store, wp_append, bindX_some, run_bslice1, bs1V_int, bs1V_slc, bs1V_nils, val_slc, val_ptr, Nat.zero_add, Nat.add_zero, Int.reduceEq, Int.reduceLT, Int.reduceLE, Nat.reduceAdd, nileq_ptr, nilne_ptr, nileq_nilp, nilne_nilp, nileq_slc, nilne_slc, nileq_nils, nilne_nils, run_build0, run_box, run_bslice0, run_slS, Option.map_some, Option.map_none]
      have e : setA L x = (true, L.set x.toNat true) := by simp only [setA, hi, hD]; simp
      rw [e]
      exact ⟨rfl, ⟨v, h1⟩, k1⟩
set_option maxHeartbeats 2000000 in
theorem clear_spec (h : St base H p L l) (x : Int) : FnTo Q 25 [.ptr p 0, .int .i64 x] H (fun r H' => r = .bool (clrA L x).1 ∧ St base H' p (clrA L x).2 l ∧ Keep base H H') := by
  refine fn_wp (tq.no 25 rfl _) tq.q25 (by simp [A25]) ?_
  simp only [A25, wp_skip, wp_ops, wp_seq, wp_cond, wp_block, wp_exit, wp_ret, wops_nil, wops_cons, stepX_r, stepX_a, stepX_e, bindO_some, bindA_some, nextV_eq, nextA_eq, nextE_eq, seqK_normal, seqK_exit, seqK_ret, blockK_normal, blockK_exit, blockK_ret, loopK_normal, loopK_exit, loopK_ret, condK_true, condK_false, fnK_normal, fnK_ret, bindR_some, want_none, want_some, wantV_true, wantV_false, Env.get_put, Env.get_init, Opd.ev, List.getD_cons_succ, List.getD_cons_zero, Option.some.injEq, reduceCtorEq, Nat.reduceEqDiff, ↓reduceIte, Bool.not_true, Bool.not_false, Bool.false_eq_true, decide_true, decide_false, run_mv, run_pick, run_nilck, run_bin, run_beq, run_nileq, run_seq, run_neg, run_not, run_cvInt, run_cvRune, run_cvStr, run_mkIface, run_field, run_fieldAddr, run_idxS, run_idxA, run_idxArr, run_idxStr, run_extract, run_lng, run_load, run_strOfBytes, run_lenC, run_mkFn, run_mnmx, pickV_true, pickV_false, nilckV_ptr, beqV_bool, negV_int, notV_bool, cvIntV_int, cvStrV_str, fieldAddrV_ptr, lngV_str, lngV_nils, lngV_slc, bin_add, bin_sub, bin_mul, bin_eql, bin_neq, bin_lss, bin_leq, bin_gtr, bin_geq, mnmxV2max, mnmxV2min, resVal, resVals, ARes.val, wp_loop, echoOk_nil, wp_call, true_and, and_true, List.map_cons, List.map_nil, wp_store, wp_append, bindX_some, run_bslice1, bs1V_int, bs1V_slc, bs1V_nils, val_slc, val_ptr, Nat.zero_add, Nat.add_zero, Int.reduceEq, Int.reduceLT, Int.reduceLE, Nat.reduceAdd, nileq_ptr, nilne_ptr, nileq_nilp, nilne_nilp, nileq_slc, nilne_slc, nileq_nils, nilne_nils, run_build0, run_box, run_bslice0, run_slS, Option.map_some, Option.map_none]
  refine (is_spec tq h x).mono ?_
  rintro r H' ⟨rfl, rfl⟩
  cases hi : inb L x with
  | false =>
    simp only [wp_skip, wp_ops, wp_seq, wp_cond, wp_block, wp_exit, wp_ret, wops_nil, wops_cons, stepX_r, stepX_a, stepX_e, bindO_some, bindA_some, nextV_eq, nextA_eq, nextE_eq, seqK_normal, seqK_exit, seqK_ret, blockK_normal, blockK_exit, blockK_ret, loopK_normal, loopK_exit, loopK_ret, condK_true, condK_false, fnK_normal, fnK_ret, bindR_some, want_none, want_some, wantV_true, wantV_false, Env.get_put, Env.get_init, Opd.ev, List.getD_cons_succ, List.getD_cons_zero, Option.some.injEq, reduceCtorEq, Nat.reduceEqDiff, ↓reduceIte, Bool.not_true, Bool.not_false, Bool.false_eq_true, decide_true, decide_false, run_mv, run_pick, run_nilck, run_bin, run_beq, run_nileq, run_seq, run_neg, run_not, run_cvInt, run_cvRune, run_cvStr, run_mkIface, run_field, run_fieldAddr, run_idxS, run_idxA, run_idxArr, run_idxStr, run_extract, run_lng, run_load, run_strOfBytes, run_lenC, run_mkFn, run_mnmx, pickV_true, pickV_false, nilckV_ptr, beqV_bool, negV_int, notV_bool, cvIntV_int, cvStrV_str, fieldAddrV_ptr, lngV_str, lngV_nils, lngV_slc, bin_add, bin_sub, bin_mul, bin_eql, bin_neq, bin_lss, bin_leq, bin_gtr, bin_geq, mnmxV2max, mnmxV2min, resVal, resVals, ARes.val, wp_loop, echoOk_nil, wp_call, true_and, and_true, List.map_cons, List.map_nil, wp_store, wp_append, bindX_some, run_bslice1, bs1V_int, bs1V_slc, bs1V_nils, val_slc, val_ptr, Nat.zero_add, Nat.add_zero, Int.reduceEq, Int.reduceLT, Int.reduceLE, Nat.reduceAdd, nileq_ptr, nilne_ptr, nileq_nilp, nilne_nilp, nileq_slc, nilne_slc, nileq_nils, nilne_nils, run_build0, run_box, run_bslice0, run_slS, Option.map_some, Option.map_none]
    have e : clrA L x = (false, L) := by simp [clrA, hi]
    rw [e]
    exact ⟨rfl, h, Keep.refl _ _⟩
  | true =>
    obtain ⟨c1, c2⟩ : 0 ≤ x ∧ x < (L.length : Int) := by simpa [inb] using hi
    obtain ⟨v, h⟩ := h
    have ld := h.hp.load (b := p) (k := 1) (cs := [v]) (List.mem_cons_self ..) (o := 0) rfl
    have at1 := h.sl.at c1 c2 .i64
    obtain ⟨b, hb⟩ : ∃ b, L[x.toNat]? = some b := ⟨_, List.getElem?_eq_getElem (by omega)⟩
    obtain ⟨c, lc, hc⟩ := h.sl.get hb
    cases hc
    have hD : L.getD x.toNat false = b := by rw [List.getD_eq_getElem?_getD, hb]; rfl
    cases b with
    | false =>
      simp only [ld, at1, lc, wp_skip, wp_ops, wp_seq, wp_cond, wp_block, wp_exit, wp_ret, wops_nil, wops_cons, stepX_r, stepX_a, stepX_e, bindO_some, bindA_some, nextV_eq, nextA_eq, nextE_eq, seqK_normal, seqK_exit, seqK_ret, blockK_normal, blockK_exit, blockK_ret, loopK_normal, loopK_exit, loopK_ret, condK_true, condK_false, fnK_normal, fnK_ret, bindR_some, want_none, want_some, wantV_true, wantV_false, Env.get_put, Env.get_init, Opd.ev, List.getD_cons_succ, List.getD_cons_zero, Option.some.injEq, reduceCtorEq, Nat.reduceEqDiff, ↓reduceIte, Bool.not_true, Bool.not_false, Bool.false_eq_true, decide_true, decide_false, run_mv, run_pick, run_nilck, run_bin, run_beq, run_nileq, run_seq, run_neg, run_not, run_cvInt, run_cvRune, run_cvStr, run_mkIface, run_field, run_fieldAddr, run_idxS, run_idxA, run_idxArr, run_idxStr, run_extract, run_lng, run_load, run_strOfBytes, run_lenC, run_mkFn, run_mnmx, pickV_true, pickV_false, nilckV_ptr, beqV_bool, negV_int, notV_bool, cvIntV_int, cvStrV_str, fieldAddrV_ptr, lngV_str, lngV_nils, lngV_slc, bin_add, bin_sub, bin_mul, bin_eql, bin_neq, bin_lss, bin_leq, bin_gtr, bin_geq, mnmxV2max, mnmxV2min, resVal, resVals, ARes.val, wp_loop, echoOk_nil, wp_call, true_and, and_true, List.map_cons, List.map_nil, wp_store, wp_append, bindX_some, run_bslice1, bs1V_int, bs1V_slc, bs1V_nils, val_slc, val_ptr, Nat.zero_add, Nat.add_zero, Int.reduceEq, Int.reduceLT, Int.reduceLE, Nat.reduceAdd, nileq_ptr, nilne_ptr, nileq_nilp, nilne_nilp, nileq_slc, nilne_slc, nileq_nils, nilne_nils, run_build0, run_box, run_bslice0, run_slS, Option.map_some, Option.map_none]
      have e : clrA L x = (false, L) := by simp only [clrA, hD]; simp
      rw [e]
      exact ⟨rfl, ⟨v, h⟩, Keep.refl _ _⟩
    | true =>
      obtain ⟨H1, s1, h1, k1⟩ := h.setAt (x := x.toNat) (by omega) false
      have hat : atOf v x = atOf v (x.toNat : Int) := by rw [Int.toNat_of_nonneg c1]
      rw [hat] at at1 lc
      simp only [ld, at1, lc, s1, wp_skip, wp_ops, wp_seq, wp_cond, wp_block, wp_exit, wp_ret, wops_nil, wops_cons, stepX_r, stepX_a, stepX_e, bindO_some, bindA_some, nextV_eq, nextA_eq, nextE_eq, seqK_normal, seqK_exit, seqK_ret, blockK_normal, blockK_exit, blockK_ret, loopK_normal, loopK_exit, loopK_ret, condK_true, condK_false, fnK_normal, fnK_ret, bindR_some, want_none, want_some, wantV_true, wantV_false, Env.get_put, Env.get_init, Opd.ev, List.getD_cons_succ, List.getD_cons_zero, Option.some.injEq, reduceCtorEq, Nat.reduceEqDiff, ↓reduceIte, Bool.not_true, Bool.not_false, Bool.false_eq_true, decide_true, decide_false, run_mv, run_pick, run_nilck, run_bin, run_beq, run_nileq, run_seq, run_neg, run_not, run_cvInt, run_cvRune, run_cvStr, run_mkIface, run_field, run_fieldAddr, run_idxS, run_idxA, run_idxArr, run_idxStr, run_extract, run_lng, run_load, run_strOfBytes, run_lenC, run_mkFn, run_mnmx, pickV_true, pickV_false, nilckV_ptr, beqV_bool, negV_int, notV_bool, cvIntV_int, cvStrV_str, fieldAddrV_ptr, lngV_str, lngV_nils, lngV_slc, bin_add, bin_sub, bin_mul, bin_eql, bin_neq, bin_lss, bin_leq, bin_gtr, bin_geq, mnmxV2max, mnmxV2min, resVal, resVals, ARes.val, wp_loop, echoOk_nil, wp_call, true_and, and_true, List.map_cons, List.map_nil, wp_store, wp_append, bindX_some, run_bslice1, bs1V_int, bs1V_slc, bs1V_nils, val_slc, val_ptr, Nat.zero_add, Nat.add_zero, Int.reduceEq, Int.reduceLT, Int.reduceLE, Nat.reduceAdd, nileq_ptr, nilne_ptr, nileq_nilp, nilne_nilp, nileq_slc, nilne_slc, nileq_nils, nilne_nils, run_build0, run_box, run_bslice0, run_slS, Option.map_some, Option.map_none]
      have e : clrA L x = (true, L.set x.toNat false) := by simp only [clrA, hi, hD]; simp
      rw [e]
      exact ⟨rfl, ⟨v, h1⟩, k1⟩
set_option maxHeartbeats 2000000 in
theorem clearAll_spec (h : St base H p L l) : FnTo Q 27 [.ptr p 0] H (fun r H' => St base H' p (noneA L) l ∧ Keep base H H') := by
  refine fn_wp (tq.no 27 rfl _) tq.q27 (by simp [A27]) ?_
  obtain ⟨v, h⟩ := h
  have ld := h.hp.load (b := p) (k := 1) (cs := [v]) (List.mem_cons_self ..) (o := 0) rfl
  obtain ⟨H1, s1, h1, k1⟩ := h.clear
  simp only [A27, ld, wp_clear, s1, resNil, wp_skip, wp_ops, wp_seq, wp_cond, wp_block, wp_exit, wp_ret, wops_nil, wops_cons, stepX_r, stepX_a, stepX_e, bindO_some, bindA_some, nextV_eq, nextA_eq, nextE_eq, seqK_normal, seqK_exit, seqK_ret, blockK_normal, blockK_exit, blockK_ret, loopK_normal, loopK_exit, loopK_ret, condK_true, condK_false, fnK_normal, fnK_ret, bindR_some, want_none, want_some, wantV_true, wantV_false, Env.get_put, Env.get_init, Opd.ev, List.getD_cons_succ, List.getD_cons_zero, Option.some.injEq, reduceCtorEq, Nat.reduceEqDiff, ↓reduceIte, Bool.not_true, Bool.not_false, Bool.false_eq_true, decide_true, decide_false, run_mv, run_pick, run_nilck, run_bin, run_beq, run_nileq, run_seq, run_neg, run_not, run_cvInt, run_cvRune, run_cvStr, run_mkIface, run_field, run_fieldAddr, run_idxS, run_idxA, run_idxArr, run_idxStr, run_extract, run_lng, run_load, run_strOfBytes, run_lenC, run_mkFn, run_mnmx, pickV_true, pickV_false, nilckV_ptr, beqV_bool, negV_int, notV_bool, cvIntV_int, cvStrV_str, fieldAddrV_ptr, lngV_str, lngV_nils, lngV_slc, bin_add, bin_sub, bin_mul, bin_eql, bin_neq, bin_lss, bin_leq, bin_gtr, bin_geq, mnmxV2max, mnmxV2min, resVal, resVals, ARes.val, wp_loop, echoOk_nil, wp_call, true_and, and_true, List.map_cons, List.map_nil, wp_store, wp_append, bindX_some, run_bslice1, bs1V_int, bs1V_slc, bs1V_nils, val_slc, val_ptr, Nat.zero_add, Nat.add_zero, Int.reduceEq, Int.reduceLT, Int.reduceLE, Nat.reduceAdd, nileq_ptr, nilne_ptr, nileq_nilp, nilne_nilp, nileq_slc, nilne_slc, nileq_nils, nilne_nils, run_build0, run_box, run_bslice0, run_slS, Option.map_some, Option.map_none]
  exact ⟨⟨v, h1⟩, k1⟩
set_option maxHeartbeats 4000000 in
theorem resize_spec (h : St base H p L l) (hL : L.length ≤ 400) (w : Int) : FnTo Q 28 [.ptr p 0, .int .i64 w] H (fun r H' => St base H' p (rsz L w) l ∧ Keep base H H') := by
  refine fn_wp (tq.no 28 rfl _) tq.q28 (by simp [A28]) ?_
  obtain ⟨v, h⟩ := h
  have ld := h.hp.load (b := p) (k := 1) (cs := [v]) (List.mem_cons_self ..) (o := 0) rfl
  have ll := h.sl.len
  have hw : min (max w 1) 400 = (widthN w : Int) := by unfold widthN; omega
  obtain ⟨w1, w2⟩ := widthN_le w
  have hmn : min (widthN w : Int) (L.length : Int) = ((min (widthN w) L.length : Nat) : Int) := by omega
  obtain ⟨v1, cv, h1⟩ := h.cut (k := min (widthN w) L.length) (by omega) (by
    by_cases hh : L = []
    · exact .inr hh
    · have : L.length ≠ 0 := fun h => hh (List.eq_nil_of_length_eq_zero h)
      exact .inl (by omega))
  obtain ⟨H2, s2, h2, k2⟩ := h1.put (o := 0) h1.one (by simp)
  have ld2 := h2.hp.load (b := p) (k := 1) (cs := [v1]) (List.mem_cons_self ..) (o := 0) rfl
  have ll2 := h2.sl.len
  simp only [A28, hw, ld, ll, hmn, cv, s2, ld2, ll2, wp_skip, wp_ops, wp_seq, wp_cond, wp_block, wp_exit, wp_ret, wops_nil, wops_cons, stepX_r, stepX_a, stepX_e, bindO_some, bindA_some, nextV_eq, nextA_eq, nextE_eq, seqK_normal, seqK_exit, seqK_ret, blockK_normal, blockK_exit, blockK_ret, loopK_normal, loopK_exit, loopK_ret, condK_true, condK_false, fnK_normal, fnK_ret, bindR_some, want_none, want_some, wantV_true, wantV_false, Env.get_put, Env.get_init, Opd.ev, List.getD_cons_succ, List.getD_cons_zero, Option.some.injEq, reduceCtorEq, Nat.reduceEqDiff, ↓reduceIte, Bool.not_true, Bool.not_false, Bool.false_eq_true, decide_true, decide_false, run_mv, run_pick, run_nilck, run_bin, run_beq, run_nileq, run_seq, run_neg, run_not, run_cvInt, run_cvRune, run_cvStr, run_mkIface, run_field, run_fieldAddr, run_idxS, run_idxA, run_idxArr, run_idxStr, run_extract, run_lng, run_load, run_strOfBytes, run_lenC, run_mkFn, run_mnmx, pickV_true, pickV_false, nilckV_ptr, beqV_bool, negV_int, notV_bool, cvIntV_int, cvStrV_str, fieldAddrV_ptr, lngV_str, lngV_nils, lngV_slc, bin_add, bin_sub, bin_mul, bin_eql, bin_neq, bin_lss, bin_leq, bin_gtr, bin_geq, mnmxV2max, mnmxV2min, resVal, resVals, ARes.val, wp_loop, echoOk_nil, wp_call, true_and, and_true, List.map_cons, List.map_nil, wp_store, wp_append, bindX_some, run_bslice1, bs1V_int, bs1V_slc, bs1V_nils, val_slc, val_ptr, Nat.zero_add, Nat.add_zero, Int.reduceEq, Int.reduceLT, Int.reduceLE, Nat.reduceAdd, nileq_ptr, nilne_ptr, nileq_nilp, nilne_nilp, nileq_slc, nilne_slc, nileq_nils, nilne_nils, run_build0, run_box, run_bslice0, run_slS, Option.map_some, Option.map_none]
  obtain ⟨I, hI⟩ : ∃ I : Nat → Env → AHeap → Prop, ∀ m e H', I m e H' ↔ (Keep base H H' ∧ ∃ i : Nat, m = widthN w - i ∧ i ≤ widthN w ∧ min (widthN w) L.length ≤ i ∧ (∃ v, Bl base H' (⟨p, 1, [v]⟩ :: l) v (cellsN L i)) ∧ Env.get e 0 = .ptr p 0 ∧ Env.get e 1 = .int .i64 (widthN w) ∧ Env.get e 4 = .int .i64 i) := ⟨_, fun _ _ _ => Iff.rfl⟩
  refine loop_by I (widthN w - min (widthN w) L.length) ?_ ?_
  · refine (hI _ _ _).2 ⟨k2, min (widthN w) L.length, rfl, by omega, by omega, ⟨v1, by rw [cellsN_take (by omega)]; exact h2⟩, ?_⟩
    have : (List.take (min (widthN w) L.length) L).length = min (widthN w) L.length := by simp
    simp only [this, wp_skip, wp_ops, wp_seq, wp_cond, wp_block, wp_exit, wp_ret, wops_nil, wops_cons, stepX_r, stepX_a, stepX_e, bindO_some, bindA_some, nextV_eq, nextA_eq, nextE_eq, seqK_normal, seqK_exit, seqK_ret, blockK_normal, blockK_exit, blockK_ret, loopK_normal, loopK_exit, loopK_ret, condK_true, condK_false, fnK_normal, fnK_ret, bindR_some, want_none, want_some, wantV_true, wantV_false, Env.get_put, Env.get_init, Opd.ev, List.getD_cons_succ, List.getD_cons_zero, Option.some.injEq, reduceCtorEq, Nat.reduceEqDiff, ↓reduceIte, Bool.not_true, Bool.not_false, Bool.false_eq_true, decide_true, decide_false, run_mv, run_pick, run_nilck, run_bin, run_beq, run_nileq, run_seq, run_neg, run_not, run_cvInt, run_cvRune, run_cvStr, run_mkIface, run_field, run_fieldAddr, run_idxS, run_idxA, run_idxArr, run_idxStr, run_extract, run_lng, run_load, run_strOfBytes, run_lenC, run_mkFn, run_mnmx, pickV_true, pickV_false, nilckV_ptr, beqV_bool, negV_int, notV_bool, cvIntV_int, cvStrV_str, fieldAddrV_ptr, lngV_str, lngV_nils, lngV_slc, bin_add, bin_sub, bin_mul, bin_eql, bin_neq, bin_lss, bin_leq, bin_gtr, bin_geq, mnmxV2max, mnmxV2min, resVal, resVals, ARes.val, wp_loop, echoOk_nil, wp_call, true_and, and_true, List.map_cons, List.map_nil, wp_store, wp_append, bindX_some, run_bslice1, bs1V_int, bs1V_slc, bs1V_nils, val_slc, val_ptr, Nat.zero_add, Nat.add_zero, Int.reduceEq, Int.reduceLT, Int.reduceLE, Nat.reduceAdd, nileq_ptr, nilne_ptr, nileq_nilp, nilne_nilp, nileq_slc, nilne_slc, nileq_nils, nilne_nils, run_build0, run_box, run_bslice0, run_slS, Option.map_some, Option.map_none]
  · intro m e H3 hinv
    obtain ⟨k3, i, rfl, hi1, hi2, ⟨v3, h3⟩, e0, e1, e4⟩ := (hI _ _ _).1 hinv
    have hlen : (cellsN L i).length = i := by simp [cellsN]
    by_cases d : (i : Int) < widthN w
    · have ld3 := h3.hp.load (b := p) (k := 1) (cs := [v3]) (List.mem_cons_self ..) (o := 0) rfl
      have wa : IntKind.wrap .i64 ((i : Int) + 1) = ((i + 1 : Nat) : Int) := by rw [wrapI64 (by omega) (by omega)]; rfl
      have hnone : L[i]? = Option.none := List.getElem?_eq_none (by omega)
      have rm : binV .rem (.int .i64 i) (.int .i64 8) = some (.int .i64 ((i % 8 : Nat) : Int)) := by
        simp [binV, intBin, Int.tmod_eq_emod_of_nonneg (show (0 : Int) ≤ (i : Int) by omega)]
      obtain ⟨H4, s4, h4, k4⟩ := h3.tmp (y := tabAt i)
      obtain ⟨w5, H5, s5, h5, k5⟩ := h4.push (by rw [hlen]; omega)
      obtain ⟨H6, s6, h6, k6⟩ := h5.drop.put (o := 0) h5.one (by simp)
      have hp5 : H4.next = H4.next := rfl
      have fin : ∀ e', Env.get e' 0 = .ptr p 0 ∧ Env.get e' 1 = .int .i64 (widthN w) ∧ Env.get e' 4 = .int .i64 ((i + 1 : Nat) : Int) → I (widthN w - (i + 1)) e' H6 := by
        rintro e' ⟨a0, a1, a4⟩
        refine (hI _ _ _).2 ⟨((k3.trans k4).trans k5).trans k6, i + 1, rfl, by omega, by omega, ⟨w5, ?_⟩, a0, a1, a4⟩
        rw [cellsN_succ, hnone]; exact h6
      by_cases d0 : 0 < (i : Int)
      · by_cases d8 : i % 8 = 0
        · have ht : tabAt i = true := by simp [tabAt, d8]; omega
          have d8' : decide (((i % 8 : Nat) : Int) = 0) = true := by simp [d8]
          rw [ht] at s4
          simp only [e0, e1, e4, d, ld3, d0, rm, d8', bs1V_bool, s4, s5, s6, wa, wp_skip, wp_ops, wp_seq, wp_cond, wp_block, wp_exit, wp_ret, wops_nil, wops_cons, stepX_r, stepX_a, stepX_e, bindO_some, bindA_some, nextV_eq, nextA_eq, nextE_eq, seqK_normal, seqK_exit, seqK_ret, blockK_normal, blockK_exit, blockK_ret, loopK_normal, loopK_exit, loopK_ret, condK_true, condK_false, fnK_normal, fnK_ret, bindR_some, want_none, want_some, wantV_true, wantV_false, Env.get_put, Env.get_init, Opd.ev, List.getD_cons_succ, List.getD_cons_zero, Option.some.injEq, reduceCtorEq, Nat.reduceEqDiff, ↓reduceIte, Bool.not_true, Bool.not_false, Bool.false_eq_true, decide_true, decide_false, run_mv, run_pick, run_nilck, run_bin, run_beq, run_nileq, run_seq, run_neg, run_not, run_cvInt, run_cvRune, run_cvStr, run_mkIface, run_field, run_fieldAddr, run_idxS, run_idxA, run_idxArr, run_idxStr, run_extract, run_lng, run_load, run_strOfBytes, run_lenC, run_mkFn, run_mnmx, pickV_true, pickV_false, nilckV_ptr, beqV_bool, negV_int, notV_bool, cvIntV_int, cvStrV_str, fieldAddrV_ptr, lngV_str, lngV_nils, lngV_slc, bin_add, bin_sub, bin_mul, bin_eql, bin_neq, bin_lss, bin_leq, bin_gtr, bin_geq, mnmxV2max, mnmxV2min, resVal, resVals, ARes.val, wp_loop, echoOk_nil, wp_call, true_and, and_true, List.map_cons, List.map_nil, wp_store, wp_append, bindX_some, run_bslice1, bs1V_int, bs1V_slc, bs1V_nils, val_slc, val_ptr, Nat.zero_add, Nat.add_zero, Int.reduceEq, Int.reduceLT, Int.reduceLE, Nat.reduceAdd, nileq_ptr, nilne_ptr, nileq_nilp, nilne_nilp, nileq_slc, nilne_slc, nileq_nils, nilne_nils, run_build0, run_box, run_bslice0, run_slS, Option.map_some, Option.map_none]
          exact ⟨_, by omega, fin _ (by simp only [e0, e1, e4, wp_skip, wp_ops, wp_seq, wp_cond, wp_block, wp_exit, wp_ret, wops_nil, wops_cons, stepX_r, stepX_a, stepX_e, bindO_some, bindA_some, nextV_eq, nextA_eq, nextE_eq, seqK_normal, seqK_exit, seqK_ret, blockK_normal, blockK_exit, blockK_ret, loopK_normal, loopK_exit, loopK_ret, condK_true, condK_false, fnK_normal, fnK_ret, bindR_some, want_none, want_some, wantV_true, wantV_false, Env.get_put, Env.get_init, Opd.ev, List.getD_cons_succ, List.getD_cons_zero, Option.some.injEq, reduceCtorEq, Nat.reduceEqDiff, ↓reduceIte, Bool.not_true, Bool.not_false, Bool.false_eq_true, decide_true, decide_false, run_mv, run_pick, run_nilck, run_bin, run_beq, run_nileq, run_seq, run_neg, run_not, run_cvInt, run_cvRune, run_cvStr, run_mkIface, run_field, run_fieldAddr, run_idxS, run_idxA, run_idxArr, run_idxStr, run_extract, run_lng, run_load, run_strOfBytes, run_lenC, run_mkFn, run_mnmx, pickV_true, pickV_false, nilckV_ptr, beqV_bool, negV_int, notV_bool, cvIntV_int, cvStrV_str, fieldAddrV_ptr, lngV_str, lngV_nils, lngV_slc, bin_add, bin_sub, bin_mul, bin_eql, bin_neq, bin_lss, bin_leq, bin_gtr, bin_geq, mnmxV2max, mnmxV2min, resVal, resVals, ARes.val, wp_loop, echoOk_nil, wp_call, true_and, and_true, List.map_cons, List.map_nil, wp_store, wp_append, bindX_some, run_bslice1, bs1V_int, bs1V_slc, bs1V_nils, val_slc, val_ptr, Nat.zero_add, Nat.add_zero, Int.reduceEq, Int.reduceLT, Int.reduceLE, Nat.reduceAdd, nileq_ptr, nilne_ptr, nileq_nilp, nilne_nilp, nileq_slc, nilne_slc, nileq_nils, nilne_nils, run_build0, run_box, run_bslice0, run_slS, Option.map_some, Option.map_none])⟩
        · have ht : tabAt i = false := by simp [tabAt, d8]
          have d8' : decide (((i % 8 : Nat) : Int) = 0) = false := by simp only [decide_eq_false_iff_not]; omega
          rw [ht] at s4
          simp only [e0, e1, e4, d, ld3, d0, rm, d8', bs1V_bool, s4, s5, s6, wa, wp_skip, wp_ops, wp_seq, wp_cond, wp_block, wp_exit, wp_ret, wops_nil, wops_cons, stepX_r, stepX_a, stepX_e, bindO_some, bindA_some, nextV_eq, nextA_eq, nextE_eq, seqK_normal, seqK_exit, seqK_ret, blockK_normal, blockK_exit, blockK_ret, loopK_normal, loopK_exit, loopK_ret, condK_true, condK_false, fnK_normal, fnK_ret, bindR_some, want_none, want_some, wantV_true, wantV_false, Env.get_put, Env.get_init, Opd.ev, List.getD_cons_succ, List.getD_cons_zero, Option.some.injEq, reduceCtorEq, Nat.reduceEqDiff, ↓reduceIte, Bool.not_true, Bool.not_false, Bool.false_eq_true, decide_true, decide_false, run_mv, run_pick, run_nilck, run_bin, run_beq, run_nileq, run_seq, run_neg, run_not, run_cvInt, run_cvRune, run_cvStr, run_mkIface, run_field, run_fieldAddr, run_idxS, run_idxA, run_idxArr, run_idxStr, run_extract, run_lng, run_load, run_strOfBytes, run_lenC, run_mkFn, run_mnmx, pickV_true, pickV_false, nilckV_ptr, beqV_bool, negV_int, notV_bool, cvIntV_int, cvStrV_str, fieldAddrV_ptr, lngV_str, lngV_nils, lngV_slc, bin_add, bin_sub, bin_mul, bin_eql, bin_neq, bin_lss, bin_leq, bin_gtr, bin_geq, mnmxV2max, mnmxV2min, resVal, resVals, ARes.val, wp_loop, echoOk_nil, wp_call, true_and, and_true, List.map_cons, List.map_nil, wp_store, wp_append, bindX_some, run_bslice1, bs1V_int, bs1V_slc, bs1V_nils, val_slc, val_ptr, Nat.zero_add, Nat.add_zero, Int.reduceEq, Int.reduceLT, Int.reduceLE, Nat.reduceAdd, nileq_ptr, nilne_ptr, nileq_nilp, nilne_nilp, nileq_slc, nilne_slc, nileq_nils, nilne_nils, run_build0, run_box, run_bslice0, run_slS, Option.map_some, Option.map_none]
          exact ⟨_, by omega, fin _ (by simp only [e0, e1, e4, wp_skip, wp_ops, wp_seq, wp_cond, wp_block, wp_exit, wp_ret, wops_nil, wops_cons, stepX_r, stepX_a, stepX_e, bindO_some, bindA_some, nextV_eq, nextA_eq, nextE_eq, seqK_normal, seqK_exit, seqK_ret, blockK_normal, blockK_exit, blockK_ret, loopK_normal, loopK_exit, loopK_ret, condK_true, condK_false, fnK_normal, fnK_ret, bindR_some, want_none, want_some, wantV_true, wantV_false, Env.get_put, Env.get_init, Opd.ev, List.getD_cons_succ, List.getD_cons_zero, Option.some.injEq, reduceCtorEq, Nat.reduceEqDiff, ↓reduceIte, Bool.not_true, Bool.not_false, Bool.false_eq_true, decide_true, decide_false, run_mv, run_pick, run_nilck, run_bin, run_beq, run_nileq, run_seq, run_neg, run_not, run_cvInt, run_cvRune, run_cvStr, run_mkIface, run_field, run_fieldAddr, run_idxS, run_idxA, run_idxArr, run_idxStr, run_extract, run_lng, run_load, run_strOfBytes, run_lenC, run_mkFn, run_mnmx, pickV_true, pickV_false, nilckV_ptr, beqV_bool, negV_int, notV_bool, cvIntV_int, cvStrV_str, fieldAddrV_ptr, lngV_str, lngV_nils, lngV_slc, bin_add, bin_sub, bin_mul, bin_eql, bin_neq, bin_lss, bin_leq, bin_gtr, bin_geq, mnmxV2max, mnmxV2min, resVal, resVals, ARes.val, wp_loop, echoOk_nil, wp_call, true_and, and_true, List.map_cons, List.map_nil, wp_store, wp_append, bindX_some, run_bslice1, bs1V_int, bs1V_slc, bs1V_nils, val_slc, val_ptr, Nat.zero_add, Nat.add_zero, Int.reduceEq, Int.reduceLT, Int.reduceLE, Nat.reduceAdd, nileq_ptr, nilne_ptr, nileq_nilp, nilne_nilp, nileq_slc, nilne_slc, nileq_nils, nilne_nils, run_build0, run_box, run_bslice0, run_slS, Option.map_some, Option.map_none])⟩
      · have ht : tabAt i = false := by simp [tabAt]; omega
        rw [ht] at s4
        simp only [e0, e1, e4, d, ld3, d0, bs1V_bool, s4, s5, s6, wa, wp_skip, wp_ops, wp_seq, wp_cond, wp_block, wp_exit, wp_ret, wops_nil, wops_cons, stepX_r, stepX_a, stepX_e, bindO_some, bindA_some, nextV_eq, nextA_eq, nextE_eq, seqK_normal, seqK_exit, seqK_ret, blockK_normal, blockK_exit, blockK_ret, loopK_normal, loopK_exit, loopK_ret, condK_true, condK_false, fnK_normal, fnK_ret, bindR_some, want_none, want_some, wantV_true, wantV_false, Env.get_put, Env.get_init, Opd.ev, List.getD_cons_succ, List.getD_cons_zero, Option.some.injEq, reduceCtorEq, Nat.reduceEqDiff, ↓reduceIte, Bool.not_true, Bool.not_false, Bool.false_eq_true, decide_true, decide_false, run_mv, run_pick, run_nilck, run_bin, run_beq, run_nileq, run_seq, run_neg, run_not, run_cvInt, run_cvRune, run_cvStr, run_mkIface, run_field, run_fieldAddr, run_idxS, run_idxA, run_idxArr, run_idxStr, run_extract, run_lng, run_load, run_strOfBytes, run_lenC, run_mkFn, run_mnmx, pickV_true, pickV_false, nilckV_ptr, beqV_bool, negV_int, notV_bool, cvIntV_int, cvStrV_str, fieldAddrV_ptr, lngV_str, lngV_nils, lngV_slc, bin_add, bin_sub, bin_mul, bin_eql, bin_neq, bin_lss, bin_leq, bin_gtr, bin_geq, mnmxV2max, mnmxV2min, resVal, resVals, ARes.val, wp_loop, echoOk_nil, wp_call, true_and, and_true, List.map_cons, List.map_nil, wp_store, wp_append, bindX_some, run_bslice1, bs1V_int, bs1V_slc, bs1V_nils, val_slc, val_ptr, Nat.zero_add, Nat.add_zero, Int.reduceEq, Int.reduceLT, Int.reduceLE, Nat.reduceAdd, nileq_ptr, nilne_ptr, nileq_nilp, nilne_nilp, nileq_slc, nilne_slc, nileq_nils, nilne_nils, run_build0, run_box, run_bslice0, run_slS, Option.map_some, Option.map_none]
        exact ⟨_, by omega, fin _ (by simp only [e0, e1, e4, wp_skip, wp_ops, wp_seq, wp_cond, wp_block, wp_exit, wp_ret, wops_nil, wops_cons, stepX_r, stepX_a, stepX_e, bindO_some, bindA_some, nextV_eq, nextA_eq, nextE_eq, seqK_normal, seqK_exit, seqK_ret, blockK_normal, blockK_exit, blockK_ret, loopK_normal, loopK_exit, loopK_ret, condK_true, condK_false, fnK_normal, fnK_ret, bindR_some, want_none, want_some, wantV_true, wantV_false, Env.get_put, Env.get_init, Opd.ev, List.getD_cons_succ, List.getD_cons_zero, Option.some.injEq, reduceCtorEq, Nat.reduceEqDiff, ↓reduceIte, Bool.not_true, Bool.not_false, Bool.false_eq_true, decide_true, decide_false, run_mv, run_pick, run_nilck, run_bin, run_beq, run_nileq, run_seq, run_neg, run_not, run_cvInt, run_cvRune, run_cvStr, run_mkIface, run_field, run_fieldAddr, run_idxS, run_idxA, run_idxArr, run_idxStr, run_extract, run_lng, run_load, run_strOfBytes, run_lenC, run_mkFn, run_mnmx, pickV_true, pickV_false, nilckV_ptr, beqV_bool, negV_int, notV_bool, cvIntV_int, cvStrV_str, fieldAddrV_ptr, lngV_str, lngV_nils, lngV_slc, bin_add, bin_sub, bin_mul, bin_eql, bin_neq, bin_lss, bin_leq, bin_gtr, bin_geq, mnmxV2max, mnmxV2min, resVal, resVals, ARes.val, wp_loop, echoOk_nil, wp_call, true_and, and_true, List.map_cons, List.map_nil, wp_store, wp_append, bindX_some, run_bslice1, bs1V_int, bs1V_slc, bs1V_nils, val_slc, val_ptr, Nat.zero_add, Nat.add_zero, Int.reduceEq, Int.reduceLT, Int.reduceLE, Nat.reduceAdd, nileq_ptr, nilne_ptr, nileq_nilp, nilne_nilp, nileq_slc, nilne_slc, nileq_nils, nilne_nils, run_build0, run_box, run_bslice0, run_slS, Option.map_some, Option.map_none])⟩
    · simp only [e0, e1, e4, d, resNil, wp_skip, wp_ops, wp_seq, wp_cond, wp_block, wp_exit, wp_ret, wops_nil, wops_cons, stepX_r, stepX_a, stepX_e, bindO_some, bindA_some, nextV_eq, nextA_eq, nextE_eq, seqK_normal, seqK_exit, seqK_ret, blockK_normal, blockK_exit, blockK_ret, loopK_normal, loopK_exit, loopK_ret, condK_true, condK_false, fnK_normal, fnK_ret, bindR_some, want_none, want_some, wantV_true, wantV_false, Env.get_put, Env.get_init, Opd.ev, List.getD_cons_succ, List.getD_cons_zero, Option.some.injEq, reduceCtorEq, Nat.reduceEqDiff, ↓reduceIte, Bool.not_true, Bool.not_false, Bool.false_eq_true, decide_true, decide_false, run_mv, run_pick, run_nilck, run_bin, run_beq, run_nileq, run_seq, run_neg, run_not, run_cvInt, run_cvRune, run_cvStr, run_mkIface, run_field, run_fieldAddr, run_idxS, run_idxA, run_idxArr, run_idxStr, run_extract, run_lng, run_load, run_strOfBytes, run_lenC, run_mkFn, run_mnmx, pickV_true, pickV_false, nilckV_ptr, beqV_bool, negV_int, notV_bool, cvIntV_int, cvStrV_str, fieldAddrV_ptr, lngV_str, lngV_nils, lngV_slc, bin_add, bin_sub, bin_mul, bin_eql, bin_neq, bin_lss, bin_leq, bin_gtr, bin_geq, mnmxV2max, mnmxV2min, resVal, resVals, ARes.val, wp_loop, echoOk_nil, wp_call, true_and, and_true, List.map_cons, List.map_nil, wp_store, wp_append, bindX_some, run_bslice1, bs1V_int, bs1V_slc, bs1V_nils, val_slc, val_ptr, Nat.zero_add, Nat.add_zero, Int.reduceEq, Int.reduceLT, Int.reduceLE, Nat.reduceAdd, nileq_ptr, nilne_ptr, nileq_nilp, nilne_nilp, nileq_slc, nilne_slc, nileq_nils, nilne_nils, run_build0, run_box, run_bslice0, run_slS, Option.map_some, Option.map_none]
      have : i = widthN w := by omega
      subst this
      exact ⟨⟨v3, h3⟩, k3⟩
set_option maxHeartbeats 2000000 in
theorem new_spec (h : Hp base H l) (w : Int) : FnTo Q 21 [.int .i64 w] H (fun r H' => ∃ p, r = .ptr p 0 ∧ St base H' p (rsz [] w) l ∧ Keep base H H') := by
  refine fn_wp (tq.no 21 rfl _) tq.q21 (by simp [A21]) ?_
  obtain ⟨H1, s1, h1, k1⟩ := h.make [.nils] 1
  have hb : boxV (.agg [.nils]) = some (.row ⟨[.nils], 0, false, true⟩, .ptr) := rfl
  simp only [A21, hb, s1, wp_skip, wp_ops, wp_seq, wp_cond, wp_block, wp_exit, wp_ret, wops_nil, wops_cons, stepX_r, stepX_a, stepX_e, bindO_some, bindA_some, nextV_eq, nextA_eq, nextE_eq, seqK_normal, seqK_exit, seqK_ret, blockK_normal, blockK_exit, blockK_ret, loopK_normal, loopK_exit, loopK_ret, condK_true, condK_false, fnK_normal, fnK_ret, bindR_some, want_none, want_some, wantV_true, wantV_false, Env.get_put, Env.get_init, Opd.ev, List.getD_cons_succ, List.getD_cons_zero, Option.some.injEq, reduceCtorEq, Nat.reduceEqDiff, ↓reduceIte, Bool.not_true, Bool.not_false, Bool.false_eq_true, decide_true, decide_false, run_mv, run_pick, run_nilck, run_bin, run_beq, run_nileq, run_seq, run_neg, run_not, run_cvInt, run_cvRune, run_cvStr, run_mkIface, run_field, run_fieldAddr, run_idxS, run_idxA, run_idxArr, run_idxStr, run_extract, run_lng, run_load, run_strOfBytes, run_lenC, run_mkFn, run_mnmx, pickV_true, pickV_false, nilckV_ptr, beqV_bool, negV_int, notV_bool, cvIntV_int, cvStrV_str, fieldAddrV_ptr, lngV_str, lngV_nils, lngV_slc, bin_add, bin_sub, bin_mul, bin_eql, bin_neq, bin_lss, bin_leq, bin_gtr, bin_geq, mnmxV2max, mnmxV2min, resVal, resVals, ARes.val, wp_loop, echoOk_nil, wp_call, true_and, and_true, List.map_cons, List.map_nil, wp_store, wp_append, bindX_some, run_bslice1, bs1V_int, bs1V_slc, bs1V_nils, val_slc, val_ptr, Nat.zero_add, Nat.add_zero, Int.reduceEq, Int.reduceLT, Int.reduceLE, Nat.reduceAdd, nileq_ptr, nilne_ptr, nileq_nilp, nilne_nilp, nileq_slc, nilne_slc, nileq_nils, nilne_nils, run_build0, run_box, run_bslice0, run_slS, Option.map_some, Option.map_none]
  refine (resize_spec tq (p := H.next) (L := []) ⟨.nils, .inl ⟨rfl, rfl, h1⟩⟩ (by simp) w).mono ?_
  rintro r H2 ⟨h2, k2⟩
  simp only [wp_skip, wp_ops, wp_seq, wp_cond, wp_block, wp_exit, wp_ret, wops_nil, wops_cons, stepX_r, stepX_a, stepX_e, bindO_some, bindA_some, nextV_eq, nextA_eq, nextE_eq, seqK_normal, seqK_exit, seqK_ret, blockK_normal, blockK_exit, blockK_ret, loopK_normal, loopK_exit, loopK_ret, condK_true, condK_false, fnK_normal, fnK_ret, bindR_some, want_none, want_some, wantV_true, wantV_false, Env.get_put, Env.get_init, Opd.ev, List.getD_cons_succ, List.getD_cons_zero, Option.some.injEq, reduceCtorEq, Nat.reduceEqDiff, ↓reduceIte, Bool.not_true, Bool.not_false, Bool.false_eq_true, decide_true, decide_false, run_mv, run_pick, run_nilck, run_bin, run_beq, run_nileq, run_seq, run_neg, run_not, run_cvInt, run_cvRune, run_cvStr, run_mkIface, run_field, run_fieldAddr, run_idxS, run_idxA, run_idxArr, run_idxStr, run_extract, run_lng, run_load, run_strOfBytes, run_lenC, run_mkFn, run_mnmx, pickV_true, pickV_false, nilckV_ptr, beqV_bool, negV_int, notV_bool, cvIntV_int, cvStrV_str, fieldAddrV_ptr, lngV_str, lngV_nils, lngV_slc, bin_add, bin_sub, bin_mul, bin_eql, bin_neq, bin_lss, bin_leq, bin_gtr, bin_geq, mnmxV2max, mnmxV2min, resVal, resVals, ARes.val, wp_loop, echoOk_nil, wp_call, true_and, and_true, List.map_cons, List.map_nil, wp_store, wp_append, bindX_some, run_bslice1, bs1V_int, bs1V_slc, bs1V_nils, val_slc, val_ptr, Nat.zero_add, Nat.add_zero, Int.reduceEq, Int.reduceLT, Int.reduceLE, Nat.reduceAdd, nileq_ptr, nilne_ptr, nileq_nilp, nilne_nilp, nileq_slc, nilne_slc, nileq_nils, nilne_nils, run_build0, run_box, run_bslice0, run_slS, Option.map_some, Option.map_none]
  exact ⟨_, rfl, h2, k1.trans k2⟩
end
end Go.Proofs.Ytbokakhpdlkkkab.AM
