/-
  params.List, walked on the abstract machine: its blocks, and what begins and Byte do to them.
-/
import Derived.Test.YtbokakhpdlkkkaaAmHeap
import Derived.Test.YtbokakhpdlkkkaaCode
set_option linter.unusedVariables false
set_option linter.unusedSimpArgs false
namespace Go.Proofs.Ytbokakhpdlkkkaa.AM
open Go

abbrev ints (l : List Int) : List AV := l.map (.int .i64)
def heads (M : List (Nat × List Int)) : List AV := M.map fun x => .slc x.1 0 x.2.length x.2.length
def inner (M : List (Nat × List Int)) : List Cel := M.map fun x => ⟨x.1, 1, ints x.2⟩
/-- a list of parameters lies at p: its blocks are its own -/
def PL (base : Nat) (H : AHeap) (p : Nat) (M : List (Nat × List Int)) (ov fu : Bool) : Prop :=
  (M = [] ∧ Hp base H [⟨p, 3, [.nils, .bool ov, .bool fu]⟩]) ∨ ∃ b, M ≠ [] ∧ Hp base H (⟨p, 3, [.slc b 0 M.length M.length, .bool ov, .bool fu]⟩ :: ⟨b, 1, heads M⟩ :: inner M)

set_option maxHeartbeats 1000000 in
theorem begins_spec {Q : Prog} (hq : Q.fns 18 = some A18) (ho : ∀ a, Q.orc 18 a = none) {base : Nat} {H : AHeap} {p : Nat} {M : List (Nat × List Int)} {ov fu : Bool} (h : PL base H p M ov fu) (hM : M.length ≤ 16) :
    FnTo Q 18 [.ptr p 0] H (fun r H' => Keep base H H' ∧ if M.length = 16 then PL base H' p M true false else ∃ nb, PL base H' p (M ++ [(nb, [0])]) false false) := by
  refine fn_wp (ho _) hq (by simp [A18]) ?_
  rcases h with ⟨rfl, h⟩ | ⟨b, hne, h⟩
  · obtain ⟨H1, s1, h1, k1, _⟩ := h.store (o := 2) (v := .bool false) rfl (by simp)
    have l1 := h1.load (o := 0) (List.mem_cons_self ..) rfl
    obtain ⟨H2, s2, h2, k2, _⟩ := h1.store (o := 1) (v := .bool false) rfl (by simp)
    have l2 := h2.load (o := 1) (List.mem_cons_self ..) rfl
    have l3 := h2.load (o := 0) (List.mem_cons_self ..) rfl
    obtain ⟨H3, s3, h3, k3⟩ := h2.make [.int .i64 0] 1
    obtain ⟨H4, s4, h4, k4⟩ := h3.make [.slc H2.next 0 1 1] 1
    obtain ⟨B, r4, c4⟩ := h4.rowOf (cs := [.slc H2.next 0 1 1]) (List.mem_cons_self ..)
    obtain ⟨H5, s5, h5, k5⟩ := h4.append0 (bytes := 24) (o2 := 0) (c2 := 1) (v := .slc H2.next 0 1 1) r4 (by rw [c4]; rfl) rfl (by omega) (by omega)
    have h6 := h5.swap.drop.rot3
    obtain ⟨H7, s7, h7, k7, _⟩ := h6.store (o := 0) (v := .slc H4.next 0 1 1) rfl (by simp)
    simp only [A18, s1, l1, s2, l2, l3, s3, s4, s5, s7, wp_skip, wp_ops, wp_seq, wp_cond, wp_block, wp_exit, wp_ret, wops_nil, wops_cons, stepX_r, stepX_a, stepX_e, bindO_some, bindA_some, nextV_eq, nextA_eq, nextE_eq, seqK_normal, seqK_exit, seqK_ret, blockK_normal, blockK_exit, blockK_ret, loopK_normal, loopK_exit, loopK_ret, condK_true, condK_false, fnK_normal, fnK_ret, bindR_some, want_none, want_some, wantV_true, wantV_false, Env.get_put, Env.get_init, Opd.ev, List.getD_cons_succ, List.getD_cons_zero, Option.some.injEq, reduceCtorEq, Nat.reduceEqDiff, ↓reduceIte, Bool.not_true, Bool.not_false, Bool.false_eq_true, decide_true, decide_false, run_mv, run_pick, run_nilck, run_bin, run_beq, run_nileq, run_seq, run_neg, run_not, run_cvInt, run_cvRune, run_cvStr, run_mkIface, run_field, run_fieldAddr, run_idxS, run_idxA, run_idxArr, run_idxStr, run_extract, run_lng, run_load, run_strOfBytes, run_lenC, run_mkFn, run_mnmx, pickV_true, pickV_false, nilckV_ptr, beqV_bool, negV_int, notV_bool, cvIntV_int, cvStrV_str, fieldAddrV_ptr, lngV_str, lngV_nils, lngV_slc, bin_add, bin_sub, bin_mul, bin_eql, bin_neq, bin_lss, bin_leq, bin_gtr, bin_geq, mnmxV2max, mnmxV2min, resVal, resVals, ARes.val, wp_loop, echoOk_nil, wp_call, true_and, and_true, List.map_cons, List.map_nil, wp_store, wp_append, bindX_some, run_bslice1, bs1V_int, bs1V_slc, bs1V_nils, val_slc, val_ptr, Nat.zero_add, Nat.add_zero, Int.reduceEq, Int.reduceLT, Int.reduceLE, Nat.reduceAdd, nileq_ptr, nilne_ptr, nileq_nilp, nilne_nilp, nileq_slc, nilne_slc, nileq_nils, nilne_nils, run_build0, run_box, run_bslice0, run_slS, Option.map_some, Option.map_none]
    exact ⟨k1.trans (k2.trans (k3.trans (k4.trans (k5.trans k7)))), H2.next, .inr ⟨H4.next, by simp, h7⟩⟩
  · have hw : (M.length : Int) = 16 ↔ M.length = 16 := by omega
    obtain ⟨H1, s1, h1, k1, _⟩ := h.store (o := 2) (v := .bool false) rfl (by simp)
    have l1 := h1.load (o := 0) (List.mem_cons_self ..) rfl
    by_cases h16 : M.length = 16
    · have h16' : (M.length : Int) = 16 := by omega
      obtain ⟨H2, s2, h2, k2, _⟩ := h1.store (o := 1) (v := .bool true) rfl (by simp)
      have l2 := h2.load (o := 1) (List.mem_cons_self ..) rfl
      simp only [A18, s1, l1, s2, l2, h16', wp_skip, wp_ops, wp_seq, wp_cond, wp_block, wp_exit, wp_ret, wops_nil, wops_cons, stepX_r, stepX_a, stepX_e, bindO_some, bindA_some, nextV_eq, nextA_eq, nextE_eq, seqK_normal, seqK_exit, seqK_ret, blockK_normal, blockK_exit, blockK_ret, loopK_normal, loopK_exit, loopK_ret, condK_true, condK_false, fnK_normal, fnK_ret, bindR_some, want_none, want_some, wantV_true, wantV_false, Env.get_put, Env.get_init, Opd.ev, List.getD_cons_succ, List.getD_cons_zero, Option.some.injEq, reduceCtorEq, Nat.reduceEqDiff, ↓reduceIte, Bool.not_true, Bool.not_false, Bool.false_eq_true, decide_true, decide_false, run_mv, run_pick, run_nilck, run_bin, run_beq, run_nileq, run_seq, run_neg, run_not, run_cvInt, run_cvRune, run_cvStr, run_mkIface, run_field, run_fieldAddr, run_idxS, run_idxA, run_idxArr, run_idxStr, run_extract, run_lng, run_load, run_strOfBytes, run_lenC, run_mkFn, run_mnmx, pickV_true, pickV_false, nilckV_ptr, beqV_bool, negV_int, notV_bool, cvIntV_int, cvStrV_str, fieldAddrV_ptr, lngV_str, lngV_nils, lngV_slc, bin_add, bin_sub, bin_mul, bin_eql, bin_neq, bin_lss, bin_leq, bin_gtr, bin_geq, mnmxV2max, mnmxV2min, resVal, resVals, ARes.val, wp_loop, echoOk_nil, wp_call, true_and, and_true, List.map_cons, List.map_nil, wp_store, wp_append, bindX_some, run_bslice1, bs1V_int, bs1V_slc, bs1V_nils, val_slc, val_ptr, Nat.zero_add, Nat.add_zero, Int.reduceEq, Int.reduceLT, Int.reduceLE, Nat.reduceAdd, nileq_ptr, nilne_ptr, nileq_nilp, nilne_nilp, nileq_slc, nilne_slc, nileq_nils, nilne_nils, run_build0, run_box, run_bslice0, run_slS, Option.map_some, Option.map_none]
      rw [if_pos h16]
      exact ⟨k1.trans k2, .inr ⟨b, hne, h2⟩⟩
    · have h16' : ¬ (M.length : Int) = 16 := by omega
      obtain ⟨H2, s2, h2, k2, _⟩ := h1.store (o := 1) (v := .bool false) rfl (by simp)
      have l2 := h2.load (o := 1) (List.mem_cons_self ..) rfl
      have l3 := h2.load (o := 0) (List.mem_cons_self ..) rfl
      obtain ⟨H3, s3, h3, k3⟩ := h2.make [.int .i64 0] 1
      obtain ⟨H4, s4, h4, k4⟩ := h3.make [.slc H2.next 0 1 1] 1
      obtain ⟨B, r4, c4⟩ := h4.rowOf (cs := [.slc H2.next 0 1 1]) (List.mem_cons_self ..)
      obtain ⟨H5, s5, h5, k5⟩ := (h4.rot4).append1 (bytes := 24) (o2 := 0) (c2 := 1) (v := .slc H2.next 0 1 1) (n := M.length) (by simp [heads]) r4 (by rw [c4]; rfl) rfl (by omega) (by omega)
      have h6 := h5.swap.drop.rot3
      obtain ⟨H7, s7, h7, k7, _⟩ := h6.store (o := 0) (v := .slc H4.next 0 (M.length + 1) (M.length + 1)) rfl (by simp)
      simp only [A18, s1, l1, s2, l2, l3, s3, s4, s5, s7, h16, h16', wp_skip, wp_ops, wp_seq, wp_cond, wp_block, wp_exit, wp_ret, wops_nil, wops_cons, stepX_r, stepX_a, stepX_e, bindO_some, bindA_some, nextV_eq, nextA_eq, nextE_eq, seqK_normal, seqK_exit, seqK_ret, blockK_normal, blockK_exit, blockK_ret, loopK_normal, loopK_exit, loopK_ret, condK_true, condK_false, fnK_normal, fnK_ret, bindR_some, want_none, want_some, wantV_true, wantV_false, Env.get_put, Env.get_init, Opd.ev, List.getD_cons_succ, List.getD_cons_zero, Option.some.injEq, reduceCtorEq, Nat.reduceEqDiff, ↓reduceIte, Bool.not_true, Bool.not_false, Bool.false_eq_true, decide_true, decide_false, run_mv, run_pick, run_nilck, run_bin, run_beq, run_nileq, run_seq, run_neg, run_not, run_cvInt, run_cvRune, run_cvStr, run_mkIface, run_field, run_fieldAddr, run_idxS, run_idxA, run_idxArr, run_idxStr, run_extract, run_lng, run_load, run_strOfBytes, run_lenC, run_mkFn, run_mnmx, pickV_true, pickV_false, nilckV_ptr, beqV_bool, negV_int, notV_bool, cvIntV_int, cvStrV_str, fieldAddrV_ptr, lngV_str, lngV_nils, lngV_slc, bin_add, bin_sub, bin_mul, bin_eql, bin_neq, bin_lss, bin_leq, bin_gtr, bin_geq, mnmxV2max, mnmxV2min, resVal, resVals, ARes.val, wp_loop, echoOk_nil, wp_call, true_and, and_true, List.map_cons, List.map_nil, wp_store, wp_append, bindX_some, run_bslice1, bs1V_int, bs1V_slc, bs1V_nils, val_slc, val_ptr, Nat.zero_add, Nat.add_zero, Int.reduceEq, Int.reduceLT, Int.reduceLE, Nat.reduceAdd, nileq_ptr, nilne_ptr, nileq_nilp, nilne_nilp, nileq_slc, nilne_slc, nileq_nils, nilne_nils, run_build0, run_box, run_bslice0, run_slS, Option.map_some, Option.map_none]
      refine ⟨k1.trans (k2.trans (k3.trans (k4.trans (k5.trans k7)))), H2.next, .inr ⟨H4.next, by simp, ?_⟩⟩
      have e1 : heads (M ++ [(H2.next, [0])]) = heads M ++ [.slc H2.next 0 1 1] := by simp [heads]
      have e2 : inner (M ++ [(H2.next, [0])]) = inner M ++ [⟨H2.next, 1, [.int .i64 0]⟩] := by simp [inner]
      rw [e1, e2, List.length_append]
      exact h7.perm (List.Perm.cons _ (List.Perm.cons _ (List.perm_append_comm (l₁ := [_]) (l₂ := inner M))))

/-- the list as numbers -/
structure PS where
  L : List (List Int)
  ov : Bool
  fu : Bool
def PS.begins (s : PS) : PS := if s.L.length = 16 then ⟨s.L, true, false⟩ else ⟨s.L ++ [[0]], false, false⟩
def PS.last (c : Int) (init : List (List Int)) (l : List Int) (s : PS) : PS :=
  if c = 59 then s.begins else if s.fu = true then s else
  if c = 58 then (if l.length = 8 then ⟨s.L, s.ov, true⟩ else ⟨init ++ [l ++ [0]], s.ov, s.fu⟩)
  else ⟨init ++ [l.set (l.length - 1) (min (10 * l.getD (l.length - 1) 0 + (c - 48)) 9999)], s.ov, s.fu⟩
def PS.step (c : Int) (s : PS) : PS := s.last c s.L.dropLast (s.L.getLastD [])
def PS.byte (c : Int) (s : PS) : PS :=
  if s.ov = true ∨ c < 48 ∨ 59 < c then s else PS.step c (if s.L.length = 0 then s.begins else s)
structure PS.Good (s : PS) : Prop where
  len : s.L.length ≤ 16
  el : ∀ l ∈ s.L, 1 ≤ l.length ∧ l.length ≤ 8 ∧ ∀ x ∈ l, 0 ≤ x ∧ x ≤ 9999
def PLs (base : Nat) (H : AHeap) (p : Nat) (s : PS) : Prop := ∃ M, PL base H p M s.ov s.fu ∧ M.map (·.2) = s.L
theorem begins_pls {Q : Prog} (hq : Q.fns 18 = some A18) (ho : ∀ a, Q.orc 18 a = none) {base : Nat} {H : AHeap} {p : Nat} {s : PS} (h : PLs base H p s) (hM : s.L.length ≤ 16) :
    FnTo Q 18 [.ptr p 0] H (fun r H' => Keep base H H' ∧ PLs base H' p s.begins) := by
  obtain ⟨M, h, e⟩ := h
  have hl : M.length = s.L.length := by rw [← e]; simp
  refine (begins_spec hq ho h (by omega)).mono ?_
  rintro r H' ⟨hk, hp⟩
  refine ⟨hk, ?_⟩
  unfold PS.begins
  by_cases h16 : M.length = 16
  · rw [if_pos h16] at hp
    rw [if_pos (by omega)]
    exact ⟨M, hp, e⟩
  · rw [if_neg h16] at hp
    rw [if_neg (by omega)]
    obtain ⟨nb, hp⟩ := hp
    exact ⟨_, hp, by simp [e]⟩
theorem begins_good {s : PS} (h : s.Good) : s.begins.Good := by
  unfold PS.begins
  split
  · exact ⟨h.len, h.el⟩
  · rename_i hh
    refine ⟨by have := h.len; simp; omega, fun l hl => ?_⟩
    rcases List.mem_append.1 hl with hl | hl
    · exact h.el l hl
    · simp at hl; subst hl; simp

theorem mkPL {base : Nat} {H : AHeap} {p b ib n m : Nat} {init : List (Nat × List Int)} {l : List Int} {ov fu : Bool} (h : Hp base H (⟨p, 3, [.slc b 0 n n, .bool ov, .bool fu]⟩ :: ⟨b, 1, heads init ++ [.slc ib 0 m m]⟩ :: ⟨ib, 1, ints l⟩ :: inner init)) (hn : n = init.length + 1) (hm : l.length = m) : PL base H p (init ++ [(ib, l)]) ov fu := by
  refine .inr ⟨b, by simp, ?_⟩
  have hin : inner (init ++ [(ib, l)]) = inner init ++ [⟨ib, 1, ints l⟩] := by simp [inner]
  have hhd : heads (init ++ [(ib, l)]) = heads init ++ [.slc ib 0 l.length l.length] := by simp [heads]
  have hn2 : (init ++ [(ib, l)]).length = n := by rw [hn]; simp
  rw [hin, hhd, hn2, hm]
  exact h.perm (List.Perm.cons _ (List.Perm.cons _ (List.perm_append_comm (l₁ := [_]) (l₂ := inner init))))
abbrev A14r : ACode := sndC (sndC A14.body)
set_option maxHeartbeats 2000000 in
theorem byte_last {Q : Prog} (hq18 : Q.fns 18 = some A18) (ho18 : ∀ a, Q.orc 18 a = none) {base : Nat} {H : AHeap} {p : Nat} {c : Int} (hc : 48 ≤ c ∧ c ≤ 59) {s : PS} (hg : s.Good) (h : PLs base H p s) (hne : s.L ≠ []) {e : Env} (e0 : Env.get e 0 = .ptr p 0) (e1 : Env.get e 1 = .int .u8 c)
    {res : List ARes} (hres : res = []) {K : AV → AHeap → Prop} (hK : ∀ r H', Keep base H H' → PLs base H' p (PS.step c s) → K r H') : ACode.wp Q A14r (fnK res K) e H := by
  subst hres
  obtain ⟨M, hp, eM⟩ := h
  rcases hp with ⟨rfl, _⟩ | ⟨b, hMne, hp⟩
  · exact absurd (by rw [← eM]; rfl) hne
  obtain ⟨init, ⟨ib, l⟩, rfl⟩ : ∃ init x, M = init ++ [x] := ⟨M.dropLast, M.getLast hMne, (List.dropLast_concat_getLast hMne).symm⟩
  have hL : s.L = init.map (·.2) ++ [l] := by rw [← eM]; simp
  have hin : inner (init ++ [(ib, l)]) = inner init ++ [⟨ib, 1, ints l⟩] := by simp [inner]
  have hhd : heads (init ++ [(ib, l)]) = heads init ++ [.slc ib 0 l.length l.length] := by simp [heads]
  rw [hin] at hp
  have hl8 := hg.el l (by rw [hL]; simp)
  have hlen := hg.len
  have hlen' : init.length + 1 ≤ 16 := by rw [hL] at hlen; simpa using hlen
  obtain ⟨n, hn⟩ : ∃ n, n = init.length + 1 := ⟨_, rfl⟩
  have hn2 : (init ++ [(ib, l)]).length = n := by rw [hn]; simp
  obtain ⟨m, hm⟩ : ∃ m, l.length = m := ⟨_, rfl⟩
  rw [hhd, hn2, hm] at hp
  have hp : Hp base H (⟨p, 3, [.slc b 0 n n, .bool s.ov, .bool s.fu]⟩ :: ⟨b, 1, heads init ++ [.slc ib 0 m m]⟩ :: ⟨ib, 1, ints l⟩ :: inner init) :=
    hp.perm (List.Perm.cons _ (List.Perm.cons _ (List.perm_append_comm (l₁ := inner init) (l₂ := [_]))))
  have hpls : PLs base H p s := ⟨_, mkPL hp hn hm, eM⟩
  have hstep : PS.step c s = s.last c (init.map (·.2)) l := by unfold PS.step; rw [hL]; simp
  have w1 : IntKind.wrap .i64 ((n : Int) - 1) = (init.length : Int) := by rw [wrapI64 (by omega) (by omega)]; omega
  have x1 : idxSV 1 (.slc b 0 n n) (.int .i64 (init.length : Int)) = some (.ptr b (0 + init.length)) := idxSV_slc (by omega)
  have l0 := hp.load (o := 0) (List.mem_cons_self ..) rfl
  have l2 := hp.load (o := 2) (List.mem_cons_self ..) rfl
  have lb := hp.load (b := b) (o := init.length) (v := .slc ib 0 m m) (List.mem_cons_of_mem _ (List.mem_cons_self ..)) (by simp [heads])
  have w2 : IntKind.wrap .i64 ((m : Int) - 1) = ((m - 1 : Nat) : Int) := by rw [wrapI64 (by omega) (by omega)]; omega
  by_cases h59 : c = 59
  · subst h59
    simp only [A14r, A14, sndC, e0, e1, l0, l2, lb, w1, w2, x1, wp_skip, wp_ops, wp_seq, wp_cond, wp_block, wp_exit, wp_ret, wops_nil, wops_cons, stepX_r, stepX_a, stepX_e, bindO_some, bindA_some, nextV_eq, nextA_eq, nextE_eq, seqK_normal, seqK_exit, seqK_ret, blockK_normal, blockK_exit, blockK_ret, loopK_normal, loopK_exit, loopK_ret, condK_true, condK_false, fnK_normal, fnK_ret, bindR_some, want_none, want_some, wantV_true, wantV_false, Env.get_put, Env.get_init, Opd.ev, List.getD_cons_succ, List.getD_cons_zero, Option.some.injEq, reduceCtorEq, Nat.reduceEqDiff, ↓reduceIte, Bool.not_true, Bool.not_false, Bool.false_eq_true, decide_true, decide_false, run_mv, run_pick, run_nilck, run_bin, run_beq, run_nileq, run_seq, run_neg, run_not, run_cvInt, run_cvRune, run_cvStr, run_mkIface, run_field, run_fieldAddr, run_idxS, run_idxA, run_idxArr, run_idxStr, run_extract, run_lng, run_load, run_strOfBytes, run_lenC, run_mkFn, run_mnmx, pickV_true, pickV_false, nilckV_ptr, beqV_bool, negV_int, notV_bool, cvIntV_int, cvStrV_str, fieldAddrV_ptr, lngV_str, lngV_nils, lngV_slc, bin_add, bin_sub, bin_mul, bin_eql, bin_neq, bin_lss, bin_leq, bin_gtr, bin_geq, mnmxV2max, mnmxV2min, resVal, resVals, ARes.val, wp_loop, echoOk_nil, wp_call, true_and, and_true, List.map_cons, List.map_nil, wp_store, wp_append, bindX_some, run_bslice1, bs1V_int, bs1V_slc, bs1V_nils, val_slc, val_ptr, Nat.zero_add, Nat.add_zero, Int.reduceEq, Int.reduceLT, Int.reduceLE, Nat.reduceAdd, nileq_ptr, nilne_ptr, nileq_nilp, nilne_nilp, nileq_slc, nilne_slc, nileq_nils, nilne_nils, run_build0, run_box, run_bslice0, run_slS, Option.map_some, Option.map_none]
    refine (begins_pls hq18 ho18 hpls hg.len).mono ?_
    rintro r H' ⟨hk, hq⟩
    simp only [A14r, A14, sndC, e0, e1, l0, l2, lb, w1, w2, x1, wp_skip, wp_ops, wp_seq, wp_cond, wp_block, wp_exit, wp_ret, wops_nil, wops_cons, stepX_r, stepX_a, stepX_e, bindO_some, bindA_some, nextV_eq, nextA_eq, nextE_eq, seqK_normal, seqK_exit, seqK_ret, blockK_normal, blockK_exit, blockK_ret, loopK_normal, loopK_exit, loopK_ret, condK_true, condK_false, fnK_normal, fnK_ret, bindR_some, want_none, want_some, wantV_true, wantV_false, Env.get_put, Env.get_init, Opd.ev, List.getD_cons_succ, List.getD_cons_zero, Option.some.injEq, reduceCtorEq, Nat.reduceEqDiff, ↓reduceIte, Bool.not_true, Bool.not_false, Bool.false_eq_true, decide_true, decide_false, run_mv, run_pick, run_nilck, run_bin, run_beq, run_nileq, run_seq, run_neg, run_not, run_cvInt, run_cvRune, run_cvStr, run_mkIface, run_field, run_fieldAddr, run_idxS, run_idxA, run_idxArr, run_idxStr, run_extract, run_lng, run_load, run_strOfBytes, run_lenC, run_mkFn, run_mnmx, pickV_true, pickV_false, nilckV_ptr, beqV_bool, negV_int, notV_bool, cvIntV_int, cvStrV_str, fieldAddrV_ptr, lngV_str, lngV_nils, lngV_slc, bin_add, bin_sub, bin_mul, bin_eql, bin_neq, bin_lss, bin_leq, bin_gtr, bin_geq, mnmxV2max, mnmxV2min, resVal, resVals, ARes.val, wp_loop, echoOk_nil, wp_call, true_and, and_true, List.map_cons, List.map_nil, wp_store, wp_append, bindX_some, run_bslice1, bs1V_int, bs1V_slc, bs1V_nils, val_slc, val_ptr, Nat.zero_add, Nat.add_zero, Int.reduceEq, Int.reduceLT, Int.reduceLE, Nat.reduceAdd, nileq_ptr, nilne_ptr, nileq_nilp, nilne_nilp, nileq_slc, nilne_slc, nileq_nils, nilne_nils, run_build0, run_box, run_bslice0, run_slS, Option.map_some, Option.map_none]
    refine hK _ _ hk ?_
    rw [hstep]; exact hq
  by_cases hfu : s.fu = true
  · simp only [A14r, A14, sndC, e0, e1, l0, l2, lb, w1, w2, x1, h59, hfu, wp_skip, wp_ops, wp_seq, wp_cond, wp_block, wp_exit, wp_ret, wops_nil, wops_cons, stepX_r, stepX_a, stepX_e, bindO_some, bindA_some, nextV_eq, nextA_eq, nextE_eq, seqK_normal, seqK_exit, seqK_ret, blockK_normal, blockK_exit, blockK_ret, loopK_normal, loopK_exit, loopK_ret, condK_true, condK_false, fnK_normal, fnK_ret, bindR_some, want_none, want_some, wantV_true, wantV_false, Env.get_put, Env.get_init, Opd.ev, List.getD_cons_succ, List.getD_cons_zero, Option.some.injEq, reduceCtorEq, Nat.reduceEqDiff, ↓reduceIte, Bool.not_true, Bool.not_false, Bool.false_eq_true, decide_true, decide_false, run_mv, run_pick, run_nilck, run_bin, run_beq, run_nileq, run_seq, run_neg, run_not, run_cvInt, run_cvRune, run_cvStr, run_mkIface, run_field, run_fieldAddr, run_idxS, run_idxA, run_idxArr, run_idxStr, run_extract, run_lng, run_load, run_strOfBytes, run_lenC, run_mkFn, run_mnmx, pickV_true, pickV_false, nilckV_ptr, beqV_bool, negV_int, notV_bool, cvIntV_int, cvStrV_str, fieldAddrV_ptr, lngV_str, lngV_nils, lngV_slc, bin_add, bin_sub, bin_mul, bin_eql, bin_neq, bin_lss, bin_leq, bin_gtr, bin_geq, mnmxV2max, mnmxV2min, resVal, resVals, ARes.val, wp_loop, echoOk_nil, wp_call, true_and, and_true, List.map_cons, List.map_nil, wp_store, wp_append, bindX_some, run_bslice1, bs1V_int, bs1V_slc, bs1V_nils, val_slc, val_ptr, Nat.zero_add, Nat.add_zero, Int.reduceEq, Int.reduceLT, Int.reduceLE, Nat.reduceAdd, nileq_ptr, nilne_ptr, nileq_nilp, nilne_nilp, nileq_slc, nilne_slc, nileq_nils, nilne_nils, run_build0, run_box, run_bslice0, run_slS, Option.map_some, Option.map_none]
    refine hK _ _ (Keep.refl _ _) ?_
    rw [hstep]
    unfold PS.last
    rw [if_neg h59, if_pos hfu]
    exact hpls
  have hfu' : s.fu = false := by simpa using hfu
  have hmap : ∀ (i' : Nat) (l' : List Int), (init ++ [(i', l')]).map (·.2) = init.map (·.2) ++ [l'] := by intro i' l'; simp
  by_cases h58 : c = 58
  · subst h58
    by_cases h8 : m = 8
    · have h8' : (((m - 1 : Nat) : Int) + 1 = 8) := by omega
      have w3 : IntKind.wrap .i64 (((m - 1 : Nat) : Int) + 1) = 8 := by rw [wrapI64 (by omega) (by omega)]; omega
      obtain ⟨H1, s1, h1, k1, _⟩ := hp.store (o := 2) (v := .bool true) rfl (by simp)
      simp only [A14r, A14, sndC, e0, e1, l0, l2, lb, w1, w2, w3, x1, hfu', s1, wp_skip, wp_ops, wp_seq, wp_cond, wp_block, wp_exit, wp_ret, wops_nil, wops_cons, stepX_r, stepX_a, stepX_e, bindO_some, bindA_some, nextV_eq, nextA_eq, nextE_eq, seqK_normal, seqK_exit, seqK_ret, blockK_normal, blockK_exit, blockK_ret, loopK_normal, loopK_exit, loopK_ret, condK_true, condK_false, fnK_normal, fnK_ret, bindR_some, want_none, want_some, wantV_true, wantV_false, Env.get_put, Env.get_init, Opd.ev, List.getD_cons_succ, List.getD_cons_zero, Option.some.injEq, reduceCtorEq, Nat.reduceEqDiff, ↓reduceIte, Bool.not_true, Bool.not_false, Bool.false_eq_true, decide_true, decide_false, run_mv, run_pick, run_nilck, run_bin, run_beq, run_nileq, run_seq, run_neg, run_not, run_cvInt, run_cvRune, run_cvStr, run_mkIface, run_field, run_fieldAddr, run_idxS, run_idxA, run_idxArr, run_idxStr, run_extract, run_lng, run_load, run_strOfBytes, run_lenC, run_mkFn, run_mnmx, pickV_true, pickV_false, nilckV_ptr, beqV_bool, negV_int, notV_bool, cvIntV_int, cvStrV_str, fieldAddrV_ptr, lngV_str, lngV_nils, lngV_slc, bin_add, bin_sub, bin_mul, bin_eql, bin_neq, bin_lss, bin_leq, bin_gtr, bin_geq, mnmxV2max, mnmxV2min, resVal, resVals, ARes.val, wp_loop, echoOk_nil, wp_call, true_and, and_true, List.map_cons, List.map_nil, wp_store, wp_append, bindX_some, run_bslice1, bs1V_int, bs1V_slc, bs1V_nils, val_slc, val_ptr, Nat.zero_add, Nat.add_zero, Int.reduceEq, Int.reduceLT, Int.reduceLE, Nat.reduceAdd, nileq_ptr, nilne_ptr, nileq_nilp, nilne_nilp, nileq_slc, nilne_slc, nileq_nils, nilne_nils, run_build0, run_box, run_bslice0, run_slS, Option.map_some, Option.map_none]
      refine hK _ _ k1 ?_
      rw [hstep]
      unfold PS.last
      rw [if_neg (by omega), if_neg hfu, if_pos rfl, if_pos (by omega)]
      exact ⟨_, mkPL h1 hn hm, eM⟩
    · have w3 : IntKind.wrap .i64 (((m - 1 : Nat) : Int) + 1) = (m : Int) := by rw [wrapI64 (by omega) (by omega)]; omega
      have h8' : ¬ (m : Int) = 8 := by omega
      obtain ⟨H1, s1, h1, k1⟩ := hp.make [.int .i64 0] 1
      obtain ⟨B, r1, c1⟩ := h1.rowOf (cs := [.int .i64 0]) (List.mem_cons_self ..)
      obtain ⟨H2, s2, h2, k2⟩ := (h1.rot4).append1 (bytes := 8) (o2 := 0) (c2 := 1) (v := .int .i64 0) (n := m) (by simp [hm]) r1 (by rw [c1]; rfl) rfl (by omega) (by omega)
      have h3 := h2.swap.drop.rot3
      obtain ⟨H3, s3, h4, k3, _⟩ := h3.store (o := init.length) (v := .slc H1.next 0 (m + 1) (m + 1)) rfl (by simp [heads])
      have h5 : Hp base H3 (⟨b, 1, heads init ++ [.slc H1.next 0 (m + 1) (m + 1)]⟩ :: ⟨H1.next, 1, ints (l ++ [0])⟩ :: ⟨p, 3, [.slc b 0 n n, .bool s.ov, .bool s.fu]⟩ :: inner init) := by
        have e1 : (heads init ++ [AV.slc ib 0 m m]).set init.length (.slc H1.next 0 (m + 1) (m + 1)) = heads init ++ [.slc H1.next 0 (m + 1) (m + 1)] := by simp [heads]
        have e2 : ints (l ++ [0]) = ints l ++ [.int .i64 0] := by simp
        rw [e1] at h4
        rw [e2]; exact h4
      simp only [A14r, A14, sndC, e0, e1, l0, l2, lb, w1, w2, w3, x1, hfu', h8', s1, s2, s3, wp_skip, wp_ops, wp_seq, wp_cond, wp_block, wp_exit, wp_ret, wops_nil, wops_cons, stepX_r, stepX_a, stepX_e, bindO_some, bindA_some, nextV_eq, nextA_eq, nextE_eq, seqK_normal, seqK_exit, seqK_ret, blockK_normal, blockK_exit, blockK_ret, loopK_normal, loopK_exit, loopK_ret, condK_true, condK_false, fnK_normal, fnK_ret, bindR_some, want_none, want_some, wantV_true, wantV_false, Env.get_put, Env.get_init, Opd.ev, List.getD_cons_succ, List.getD_cons_zero, Option.some.injEq, reduceCtorEq, Nat.reduceEqDiff, ↓reduceIte, Bool.not_true, Bool.not_false, Bool.false_eq_true, decide_true, decide_false, run_mv, run_pick, run_nilck, run_bin, run_beq, run_nileq, run_seq, run_neg, run_not, run_cvInt, run_cvRune, run_cvStr, run_mkIface, run_field, run_fieldAddr, run_idxS, run_idxA, run_idxArr, run_idxStr, run_extract, run_lng, run_load, run_strOfBytes, run_lenC, run_mkFn, run_mnmx, pickV_true, pickV_false, nilckV_ptr, beqV_bool, negV_int, notV_bool, cvIntV_int, cvStrV_str, fieldAddrV_ptr, lngV_str, lngV_nils, lngV_slc, bin_add, bin_sub, bin_mul, bin_eql, bin_neq, bin_lss, bin_leq, bin_gtr, bin_geq, mnmxV2max, mnmxV2min, resVal, resVals, ARes.val, wp_loop, echoOk_nil, wp_call, true_and, and_true, List.map_cons, List.map_nil, wp_store, wp_append, bindX_some, run_bslice1, bs1V_int, bs1V_slc, bs1V_nils, val_slc, val_ptr, Nat.zero_add, Nat.add_zero, Int.reduceEq, Int.reduceLT, Int.reduceLE, Nat.reduceAdd, nileq_ptr, nilne_ptr, nileq_nilp, nilne_nilp, nileq_slc, nilne_slc, nileq_nils, nilne_nils, run_build0, run_box, run_bslice0, run_slS, Option.map_some, Option.map_none]
      refine hK _ _ (k1.trans (k2.trans k3)) ?_
      rw [hstep]
      unfold PS.last
      rw [if_neg (by omega), if_neg hfu, if_pos rfl, if_neg (by omega)]
      exact ⟨_, mkPL h5.rot3 hn (by simp [hm]), by rw [hmap]⟩
  · have h58' : ¬ c = 58 := h58
    obtain ⟨x, hx⟩ : ∃ x, l.getD (m - 1) 0 = x := ⟨_, rfl⟩
    have hxm : l[m - 1]? = some x := by
      rw [List.getD_eq_getElem?_getD, List.getElem?_eq_getElem (by omega)] at hx
      rw [List.getElem?_eq_getElem (by omega), ← hx]; rfl
    have hxr := hl8.2.2 x (List.mem_of_getElem? hxm)
    have lx := hp.load (b := ib) (o := m - 1) (v := .int .i64 x) (List.mem_cons_of_mem _ (List.mem_cons_of_mem _ (List.mem_cons_self ..))) (by simp [hxm])
    have x2 : idxSV 1 (.slc ib 0 m m) (.int .i64 ((m - 1 : Nat) : Int)) = some (.ptr ib (0 + (m - 1))) := idxSV_slc (by omega)
    have w4 : IntKind.wrap .i64 (10 * x) = 10 * x := wrapI64 (by omega) (by omega)
    have w5 : IntKind.wrap .u8 (c - 48) = c - 48 := by simp [IntKind.wrap, IntKind.signed, IntKind.bits]; omega
    have w6 : IntKind.wrap .i64 (c - 48) = c - 48 := wrapI64 (by omega) (by omega)
    have w7 : IntKind.wrap .i64 (10 * x + (c - 48)) = 10 * x + (c - 48) := wrapI64 (by omega) (by omega)
    obtain ⟨H1, s1, h1, k1, _⟩ := (hp.rot3).store (o := m - 1) (v := .int .i64 (min (10 * x + (c - 48)) 9999)) rfl (by simp; omega)
    have h2 : Hp base H1 (⟨ib, 1, ints (l.set (m - 1) (min (10 * x + (c - 48)) 9999))⟩ :: ⟨p, 3, [.slc b 0 n n, .bool s.ov, .bool s.fu]⟩ :: ⟨b, 1, heads init ++ [.slc ib 0 m m]⟩ :: inner init) := by
      have e1 : (ints l).set (m - 1) (.int .i64 (min (10 * x + (c - 48)) 9999)) = ints (l.set (m - 1) (min (10 * x + (c - 48)) 9999)) := by simp [List.map_set]
      rw [e1] at h1; exact h1
    simp only [A14r, A14, sndC, e0, e1, l0, l2, lb, w1, w2, x1, hfu', h59, h58', lx, x2, w4, w5, w6, w7, s1, wp_skip, wp_ops, wp_seq, wp_cond, wp_block, wp_exit, wp_ret, wops_nil, wops_cons, stepX_r, stepX_a, stepX_e, bindO_some, bindA_some, nextV_eq, nextA_eq, nextE_eq, seqK_normal, seqK_exit, seqK_ret, blockK_normal, blockK_exit, blockK_ret, loopK_normal, loopK_exit, loopK_ret, condK_true, condK_false, fnK_normal, fnK_ret, bindR_some, want_none, want_some, wantV_true, wantV_false, Env.get_put, Env.get_init, Opd.ev, List.getD_cons_succ, List.getD_cons_zero, Option.some.injEq, reduceCtorEq, Nat.reduceEqDiff, ↓reduceIte, Bool.not_true, Bool.not_false, Bool.false_eq_true, decide_true, decide_false, run_mv, run_pick, run_nilck, run_bin, run_beq, run_nileq, run_seq, run_neg, run_not, run_cvInt, run_cvRune, run_cvStr, run_mkIface, run_field, run_fieldAddr, run_idxS, run_idxA, run_idxArr, run_idxStr, run_extract, run_lng, run_load, run_strOfBytes, run_lenC, run_mkFn, run_mnmx, pickV_true, pickV_false, nilckV_ptr, beqV_bool, negV_int, notV_bool, cvIntV_int, cvStrV_str, fieldAddrV_ptr, lngV_str, lngV_nils, lngV_slc, bin_add, bin_sub, bin_mul, bin_eql, bin_neq, bin_lss, bin_leq, bin_gtr, bin_geq, mnmxV2max, mnmxV2min, resVal, resVals, ARes.val, wp_loop, echoOk_nil, wp_call, true_and, and_true, List.map_cons, List.map_nil, wp_store, wp_append, bindX_some, run_bslice1, bs1V_int, bs1V_slc, bs1V_nils, val_slc, val_ptr, Nat.zero_add, Nat.add_zero, Int.reduceEq, Int.reduceLT, Int.reduceLE, Nat.reduceAdd, nileq_ptr, nilne_ptr, nileq_nilp, nilne_nilp, nileq_slc, nilne_slc, nileq_nils, nilne_nils, run_build0, run_box, run_bslice0, run_slS, Option.map_some, Option.map_none]
    refine hK _ _ k1 ?_
    rw [hstep]
    unfold PS.last
    rw [if_neg h59, if_neg hfu, if_neg h58]
    exact ⟨_, mkPL h2.rot3.rot3 hn (by simp [hm]), by rw [hmap, hm, hx]⟩
theorem pls_ov {base : Nat} {H : AHeap} {p : Nat} {s : PS} (h : PLs base H p s) : loadV H none (.ptr p 1) = some (.bool s.ov) := by
  obtain ⟨M, h, e⟩ := h
  rcases h with ⟨rfl, h⟩ | ⟨b, hne, h⟩ <;> exact h.load (o := 1) (List.mem_cons_self ..) rfl
theorem pls_len {base : Nat} {H : AHeap} {p : Nat} {s : PS} (h : PLs base H p s) : ∃ sv, loadV H none (.ptr p 0) = some sv ∧ lngV H 1 sv = some (.int .i64 s.L.length) := by
  obtain ⟨M, h, e⟩ := h
  have hl : s.L.length = M.length := by rw [← e]; simp
  rw [hl]
  rcases h with ⟨rfl, h⟩ | ⟨b, hne, h⟩
  · exact ⟨_, h.load (o := 0) (List.mem_cons_self ..) rfl, rfl⟩
  · exact ⟨_, h.load (o := 0) (List.mem_cons_self ..) rfl, rfl⟩
set_option maxHeartbeats 2000000 in
theorem byte_spec {Q : Prog} (hq : Q.fns 14 = some A14) (ho : ∀ a, Q.orc 14 a = none) (hq18 : Q.fns 18 = some A18) (ho18 : ∀ a, Q.orc 18 a = none) {base : Nat} {H : AHeap} {p : Nat} {c : Int} {s : PS} (hg : s.Good) (h : PLs base H p s) :
    FnTo Q 14 [.ptr p 0, .int .u8 c] H (fun r H' => Keep base H H' ∧ PLs base H' p (s.byte c)) := by
  refine fn_wp (ho _) hq (by simp [A14]) ?_
  have l1 := pls_ov h
  obtain ⟨sv, l0, ln⟩ := pls_len h
  by_cases hov : s.ov = true
  · rw [hov] at l1
    simp only [A14, l1, wp_skip, wp_ops, wp_seq, wp_cond, wp_block, wp_exit, wp_ret, wops_nil, wops_cons, stepX_r, stepX_a, stepX_e, bindO_some, bindA_some, nextV_eq, nextA_eq, nextE_eq, seqK_normal, seqK_exit, seqK_ret, blockK_normal, blockK_exit, blockK_ret, loopK_normal, loopK_exit, loopK_ret, condK_true, condK_false, fnK_normal, fnK_ret, bindR_some, want_none, want_some, wantV_true, wantV_false, Env.get_put, Env.get_init, Opd.ev, List.getD_cons_succ, List.getD_cons_zero, Option.some.injEq, reduceCtorEq, Nat.reduceEqDiff, ↓reduceIte, Bool.not_true, Bool.not_false, Bool.false_eq_true, decide_true, decide_false, run_mv, run_pick, run_nilck, run_bin, run_beq, run_nileq, run_seq, run_neg, run_not, run_cvInt, run_cvRune, run_cvStr, run_mkIface, run_field, run_fieldAddr, run_idxS, run_idxA, run_idxArr, run_idxStr, run_extract, run_lng, run_load, run_strOfBytes, run_lenC, run_mkFn, run_mnmx, pickV_true, pickV_false, nilckV_ptr, beqV_bool, negV_int, notV_bool, cvIntV_int, cvStrV_str, fieldAddrV_ptr, lngV_str, lngV_nils, lngV_slc, bin_add, bin_sub, bin_mul, bin_eql, bin_neq, bin_lss, bin_leq, bin_gtr, bin_geq, mnmxV2max, mnmxV2min, resVal, resVals, ARes.val, wp_loop, echoOk_nil, wp_call, true_and, and_true, List.map_cons, List.map_nil, wp_store, wp_append, bindX_some, run_bslice1, bs1V_int, bs1V_slc, bs1V_nils, val_slc, val_ptr, Nat.zero_add, Nat.add_zero, Int.reduceEq, Int.reduceLT, Int.reduceLE, Nat.reduceAdd, nileq_ptr, nilne_ptr, nileq_nilp, nilne_nilp, nileq_slc, nilne_slc, nileq_nils, nilne_nils, run_build0, run_box, run_bslice0, run_slS, Option.map_some, Option.map_none]
    exact ⟨Keep.refl _ _, by unfold PS.byte; rw [if_pos (.inl hov)]; exact h⟩
  have hov' : s.ov = false := by simpa using hov
  rw [hov'] at l1
  by_cases h48 : c < 48
  · simp only [A14, l1, h48, wp_skip, wp_ops, wp_seq, wp_cond, wp_block, wp_exit, wp_ret, wops_nil, wops_cons, stepX_r, stepX_a, stepX_e, bindO_some, bindA_some, nextV_eq, nextA_eq, nextE_eq, seqK_normal, seqK_exit, seqK_ret, blockK_normal, blockK_exit, blockK_ret, loopK_normal, loopK_exit, loopK_ret, condK_true, condK_false, fnK_normal, fnK_ret, bindR_some, want_none, want_some, wantV_true, wantV_false, Env.get_put, Env.get_init, Opd.ev, List.getD_cons_succ, List.getD_cons_zero, Option.some.injEq, reduceCtorEq, Nat.reduceEqDiff, ↓reduceIte, Bool.not_true, Bool.not_false, Bool.false_eq_true, decide_true, decide_false, run_mv, run_pick, run_nilck, run_bin, run_beq, run_nileq, run_seq, run_neg, run_not, run_cvInt, run_cvRune, run_cvStr, run_mkIface, run_field, run_fieldAddr, run_idxS, run_idxA, run_idxArr, run_idxStr, run_extract, run_lng, run_load, run_strOfBytes, run_lenC, run_mkFn, run_mnmx, pickV_true, pickV_false, nilckV_ptr, beqV_bool, negV_int, notV_bool, cvIntV_int, cvStrV_str, fieldAddrV_ptr, lngV_str, lngV_nils, lngV_slc, bin_add, bin_sub, bin_mul, bin_eql, bin_neq, bin_lss, bin_leq, bin_gtr, bin_geq, mnmxV2max, mnmxV2min, resVal, resVals, ARes.val, wp_loop, echoOk_nil, wp_call, true_and, and_true, List.map_cons, List.map_nil, wp_store, wp_append, bindX_some, run_bslice1, bs1V_int, bs1V_slc, bs1V_nils, val_slc, val_ptr, Nat.zero_add, Nat.add_zero, Int.reduceEq, Int.reduceLT, Int.reduceLE, Nat.reduceAdd, nileq_ptr, nilne_ptr, nileq_nilp, nilne_nilp, nileq_slc, nilne_slc, nileq_nils, nilne_nils, run_build0, run_box, run_bslice0, run_slS, Option.map_some, Option.map_none]
    exact ⟨Keep.refl _ _, by unfold PS.byte; rw [if_pos (.inr (.inl h48))]; exact h⟩
  by_cases h59 : 59 < c
  · simp only [A14, l1, h48, h59, wp_skip, wp_ops, wp_seq, wp_cond, wp_block, wp_exit, wp_ret, wops_nil, wops_cons, stepX_r, stepX_a, stepX_e, bindO_some, bindA_some, nextV_eq, nextA_eq, nextE_eq, seqK_normal, seqK_exit, seqK_ret, blockK_normal, blockK_exit, blockK_ret, loopK_normal, loopK_exit, loopK_ret, condK_true, condK_false, fnK_normal, fnK_ret, bindR_some, want_none, want_some, wantV_true, wantV_false, Env.get_put, Env.get_init, Opd.ev, List.getD_cons_succ, List.getD_cons_zero, Option.some.injEq, reduceCtorEq, Nat.reduceEqDiff, ↓reduceIte, Bool.not_true, Bool.not_false, Bool.false_eq_true, decide_true, decide_false, run_mv, run_pick, run_nilck, run_bin, run_beq, run_nileq, run_seq, run_neg, run_not, run_cvInt, run_cvRune, run_cvStr, run_mkIface, run_field, run_fieldAddr, run_idxS, run_idxA, run_idxArr, run_idxStr, run_extract, run_lng, run_load, run_strOfBytes, run_lenC, run_mkFn, run_mnmx, pickV_true, pickV_false, nilckV_ptr, beqV_bool, negV_int, notV_bool, cvIntV_int, cvStrV_str, fieldAddrV_ptr, lngV_str, lngV_nils, lngV_slc, bin_add, bin_sub, bin_mul, bin_eql, bin_neq, bin_lss, bin_leq, bin_gtr, bin_geq, mnmxV2max, mnmxV2min, resVal, resVals, ARes.val, wp_loop, echoOk_nil, wp_call, true_and, and_true, List.map_cons, List.map_nil, wp_store, wp_append, bindX_some, run_bslice1, bs1V_int, bs1V_slc, bs1V_nils, val_slc, val_ptr, Nat.zero_add, Nat.add_zero, Int.reduceEq, Int.reduceLT, Int.reduceLE, Nat.reduceAdd, nileq_ptr, nilne_ptr, nileq_nilp, nilne_nilp, nileq_slc, nilne_slc, nileq_nils, nilne_nils, run_build0, run_box, run_bslice0, run_slS, Option.map_some, Option.map_none]
    exact ⟨Keep.refl _ _, by unfold PS.byte; rw [if_pos (.inr (.inr h59))]; exact h⟩
  have hb : s.byte c = PS.step c (if s.L.length = 0 then s.begins else s) := by unfold PS.byte; rw [if_neg (by simp [hov']; omega)]
  rw [hb]
  obtain ⟨s1, hs1⟩ : ∃ s1, (if s.L.length = 0 then s.begins else s) = s1 := ⟨_, rfl⟩
  rw [hs1]
  have hg1 : s1.Good := by
    rw [← hs1]
    split
    · exact begins_good hg
    · exact hg
  have hne1 : s1.L ≠ [] := by
    rw [← hs1]
    split
    · rename_i h0
      unfold PS.begins
      rw [if_neg (by omega)]
      simp
    · rename_i h0
      intro hh; rw [hh] at h0; simp at h0
  obtain ⟨K, hK⟩ : ∃ K : AV → AHeap → Prop, K = fun r H' => Keep base H H' ∧ PLs base H' p (PS.step c s1) := ⟨_, rfl⟩
  rw [← hK]
  have key : ∀ (e : Env) (H' : AHeap), Keep base H H' → PLs base H' p s1 → Env.get e 0 = .ptr p 0 → Env.get e 1 = .int .u8 c → ACode.wp Q (sndC (sndC A14.body)) (fnK A14.res K) e H' := by
    intro e H' hk hp e0 e1
    refine byte_last hq18 ho18 (by omega) hg1 hp hne1 e0 e1 rfl ?_
    intro r H2 hk2 hp2
    rw [hK]
    exact ⟨hk.trans hk2, hp2⟩
  have second : ∀ (e : Env), Env.get e 0 = .ptr p 0 → Env.get e 1 = .int .u8 c → ACode.wp Q (sndC A14.body) (fnK A14.res K) e H := by
    intro e e0 e1
    rw [wp_parts (sndC A14.body) rfl]
    generalize ACode.wp Q (sndC (sndC A14.body)) (fnK A14.res K) = kr at key ⊢
    by_cases h0 : s.L.length = 0
    · have h0' : (s.L.length : Int) = 0 := by omega
      rw [if_pos h0] at hs1
      simp only [A14, sndC, fstC, e0, e1, l0, ln, h0', wp_skip, wp_ops, wp_seq, wp_cond, wp_block, wp_exit, wp_ret, wops_nil, wops_cons, stepX_r, stepX_a, stepX_e, bindO_some, bindA_some, nextV_eq, nextA_eq, nextE_eq, seqK_normal, seqK_exit, seqK_ret, blockK_normal, blockK_exit, blockK_ret, loopK_normal, loopK_exit, loopK_ret, condK_true, condK_false, fnK_normal, fnK_ret, bindR_some, want_none, want_some, wantV_true, wantV_false, Env.get_put, Env.get_init, Opd.ev, List.getD_cons_succ, List.getD_cons_zero, Option.some.injEq, reduceCtorEq, Nat.reduceEqDiff, ↓reduceIte, Bool.not_true, Bool.not_false, Bool.false_eq_true, decide_true, decide_false, run_mv, run_pick, run_nilck, run_bin, run_beq, run_nileq, run_seq, run_neg, run_not, run_cvInt, run_cvRune, run_cvStr, run_mkIface, run_field, run_fieldAddr, run_idxS, run_idxA, run_idxArr, run_idxStr, run_extract, run_lng, run_load, run_strOfBytes, run_lenC, run_mkFn, run_mnmx, pickV_true, pickV_false, nilckV_ptr, beqV_bool, negV_int, notV_bool, cvIntV_int, cvStrV_str, fieldAddrV_ptr, lngV_str, lngV_nils, lngV_slc, bin_add, bin_sub, bin_mul, bin_eql, bin_neq, bin_lss, bin_leq, bin_gtr, bin_geq, mnmxV2max, mnmxV2min, resVal, resVals, ARes.val, wp_loop, echoOk_nil, wp_call, true_and, and_true, List.map_cons, List.map_nil, wp_store, wp_append, bindX_some, run_bslice1, bs1V_int, bs1V_slc, bs1V_nils, val_slc, val_ptr, Nat.zero_add, Nat.add_zero, Int.reduceEq, Int.reduceLT, Int.reduceLE, Nat.reduceAdd, nileq_ptr, nilne_ptr, nileq_nilp, nilne_nilp, nileq_slc, nilne_slc, nileq_nils, nilne_nils, run_build0, run_box, run_bslice0, run_slS, Option.map_some, Option.map_none]
      refine (begins_pls hq18 ho18 h hg.len).mono ?_
      rintro r H' ⟨hk, hp⟩
      simp only [wp_skip, wp_ops, wp_seq, wp_cond, wp_block, wp_exit, wp_ret, wops_nil, wops_cons, stepX_r, stepX_a, stepX_e, bindO_some, bindA_some, nextV_eq, nextA_eq, nextE_eq, seqK_normal, seqK_exit, seqK_ret, blockK_normal, blockK_exit, blockK_ret, loopK_normal, loopK_exit, loopK_ret, condK_true, condK_false, fnK_normal, fnK_ret, bindR_some, want_none, want_some, wantV_true, wantV_false, Env.get_put, Env.get_init, Opd.ev, List.getD_cons_succ, List.getD_cons_zero, Option.some.injEq, reduceCtorEq, Nat.reduceEqDiff, ↓reduceIte, Bool.not_true, Bool.not_false, Bool.false_eq_true, decide_true, decide_false, run_mv, run_pick, run_nilck, run_bin, run_beq, run_nileq, run_seq, run_neg, run_not, run_cvInt, run_cvRune, run_cvStr, run_mkIface, run_field, run_fieldAddr, run_idxS, run_idxA, run_idxArr, run_idxStr, run_extract, run_lng, run_load, run_strOfBytes, run_lenC, run_mkFn, run_mnmx, pickV_true, pickV_false, nilckV_ptr, beqV_bool, negV_int, notV_bool, cvIntV_int, cvStrV_str, fieldAddrV_ptr, lngV_str, lngV_nils, lngV_slc, bin_add, bin_sub, bin_mul, bin_eql, bin_neq, bin_lss, bin_leq, bin_gtr, bin_geq, mnmxV2max, mnmxV2min, resVal, resVals, ARes.val, wp_loop, echoOk_nil, wp_call, true_and, and_true, List.map_cons, List.map_nil, wp_store, wp_append, bindX_some, run_bslice1, bs1V_int, bs1V_slc, bs1V_nils, val_slc, val_ptr, Nat.zero_add, Nat.add_zero, Int.reduceEq, Int.reduceLT, Int.reduceLE, Nat.reduceAdd, nileq_ptr, nilne_ptr, nileq_nilp, nilne_nilp, nileq_slc, nilne_slc, nileq_nils, nilne_nils, run_build0, run_box, run_bslice0, run_slS, Option.map_some, Option.map_none]
      refine key _ _ hk (hs1 ▸ hp) ?_ ?_ <;> simp only [e0, e1, wp_skip, wp_ops, wp_seq, wp_cond, wp_block, wp_exit, wp_ret, wops_nil, wops_cons, stepX_r, stepX_a, stepX_e, bindO_some, bindA_some, nextV_eq, nextA_eq, nextE_eq, seqK_normal, seqK_exit, seqK_ret, blockK_normal, blockK_exit, blockK_ret, loopK_normal, loopK_exit, loopK_ret, condK_true, condK_false, fnK_normal, fnK_ret, bindR_some, want_none, want_some, wantV_true, wantV_false, Env.get_put, Env.get_init, Opd.ev, List.getD_cons_succ, List.getD_cons_zero, Option.some.injEq, reduceCtorEq, Nat.reduceEqDiff, ↓reduceIte, Bool.not_true, Bool.not_false, Bool.false_eq_true, decide_true, decide_false, run_mv, run_pick, run_nilck, run_bin, run_beq, run_nileq, run_seq, run_neg, run_not, run_cvInt, run_cvRune, run_cvStr, run_mkIface, run_field, run_fieldAddr, run_idxS, run_idxA, run_idxArr, run_idxStr, run_extract, run_lng, run_load, run_strOfBytes, run_lenC, run_mkFn, run_mnmx, pickV_true, pickV_false, nilckV_ptr, beqV_bool, negV_int, notV_bool, cvIntV_int, cvStrV_str, fieldAddrV_ptr, lngV_str, lngV_nils, lngV_slc, bin_add, bin_sub, bin_mul, bin_eql, bin_neq, bin_lss, bin_leq, bin_gtr, bin_geq, mnmxV2max, mnmxV2min, resVal, resVals, ARes.val, wp_loop, echoOk_nil, wp_call, true_and, and_true, List.map_cons, List.map_nil, wp_store, wp_append, bindX_some, run_bslice1, bs1V_int, bs1V_slc, bs1V_nils, val_slc, val_ptr, Nat.zero_add, Nat.add_zero, Int.reduceEq, Int.reduceLT, Int.reduceLE, Nat.reduceAdd, nileq_ptr, nilne_ptr, nileq_nilp, nilne_nilp, nileq_slc, nilne_slc, nileq_nils, nilne_nils, run_build0, run_box, run_bslice0, run_slS, Option.map_some, Option.map_none]
    · have h0' : ¬ (s.L.length : Int) = 0 := by omega
      rw [if_neg h0] at hs1
      simp only [A14, sndC, fstC, e0, e1, l0, ln, h0', wp_skip, wp_ops, wp_seq, wp_cond, wp_block, wp_exit, wp_ret, wops_nil, wops_cons, stepX_r, stepX_a, stepX_e, bindO_some, bindA_some, nextV_eq, nextA_eq, nextE_eq, seqK_normal, seqK_exit, seqK_ret, blockK_normal, blockK_exit, blockK_ret, loopK_normal, loopK_exit, loopK_ret, condK_true, condK_false, fnK_normal, fnK_ret, bindR_some, want_none, want_some, wantV_true, wantV_false, Env.get_put, Env.get_init, Opd.ev, List.getD_cons_succ, List.getD_cons_zero, Option.some.injEq, reduceCtorEq, Nat.reduceEqDiff, ↓reduceIte, Bool.not_true, Bool.not_false, Bool.false_eq_true, decide_true, decide_false, run_mv, run_pick, run_nilck, run_bin, run_beq, run_nileq, run_seq, run_neg, run_not, run_cvInt, run_cvRune, run_cvStr, run_mkIface, run_field, run_fieldAddr, run_idxS, run_idxA, run_idxArr, run_idxStr, run_extract, run_lng, run_load, run_strOfBytes, run_lenC, run_mkFn, run_mnmx, pickV_true, pickV_false, nilckV_ptr, beqV_bool, negV_int, notV_bool, cvIntV_int, cvStrV_str, fieldAddrV_ptr, lngV_str, lngV_nils, lngV_slc, bin_add, bin_sub, bin_mul, bin_eql, bin_neq, bin_lss, bin_leq, bin_gtr, bin_geq, mnmxV2max, mnmxV2min, resVal, resVals, ARes.val, wp_loop, echoOk_nil, wp_call, true_and, and_true, List.map_cons, List.map_nil, wp_store, wp_append, bindX_some, run_bslice1, bs1V_int, bs1V_slc, bs1V_nils, val_slc, val_ptr, Nat.zero_add, Nat.add_zero, Int.reduceEq, Int.reduceLT, Int.reduceLE, Nat.reduceAdd, nileq_ptr, nilne_ptr, nileq_nilp, nilne_nilp, nileq_slc, nilne_slc, nileq_nils, nilne_nils, run_build0, run_box, run_bslice0, run_slS, Option.map_some, Option.map_none]
      refine key _ _ (Keep.refl _ _) (hs1 ▸ h) ?_ ?_ <;> simp only [e0, e1, wp_skip, wp_ops, wp_seq, wp_cond, wp_block, wp_exit, wp_ret, wops_nil, wops_cons, stepX_r, stepX_a, stepX_e, bindO_some, bindA_some, nextV_eq, nextA_eq, nextE_eq, seqK_normal, seqK_exit, seqK_ret, blockK_normal, blockK_exit, blockK_ret, loopK_normal, loopK_exit, loopK_ret, condK_true, condK_false, fnK_normal, fnK_ret, bindR_some, want_none, want_some, wantV_true, wantV_false, Env.get_put, Env.get_init, Opd.ev, List.getD_cons_succ, List.getD_cons_zero, Option.some.injEq, reduceCtorEq, Nat.reduceEqDiff, ↓reduceIte, Bool.not_true, Bool.not_false, Bool.false_eq_true, decide_true, decide_false, run_mv, run_pick, run_nilck, run_bin, run_beq, run_nileq, run_seq, run_neg, run_not, run_cvInt, run_cvRune, run_cvStr, run_mkIface, run_field, run_fieldAddr, run_idxS, run_idxA, run_idxArr, run_idxStr, run_extract, run_lng, run_load, run_strOfBytes, run_lenC, run_mkFn, run_mnmx, pickV_true, pickV_false, nilckV_ptr, beqV_bool, negV_int, notV_bool, cvIntV_int, cvStrV_str, fieldAddrV_ptr, lngV_str, lngV_nils, lngV_slc, bin_add, bin_sub, bin_mul, bin_eql, bin_neq, bin_lss, bin_leq, bin_gtr, bin_geq, mnmxV2max, mnmxV2min, resVal, resVals, ARes.val, wp_loop, echoOk_nil, wp_call, true_and, and_true, List.map_cons, List.map_nil, wp_store, wp_append, bindX_some, run_bslice1, bs1V_int, bs1V_slc, bs1V_nils, val_slc, val_ptr, Nat.zero_add, Nat.add_zero, Int.reduceEq, Int.reduceLT, Int.reduceLE, Nat.reduceAdd, nileq_ptr, nilne_ptr, nileq_nilp, nilne_nilp, nileq_slc, nilne_slc, nileq_nils, nilne_nils, run_build0, run_box, run_bslice0, run_slS, Option.map_some, Option.map_none]
  rw [wp_parts A14.body rfl]
  generalize ACode.wp Q (sndC A14.body) (fnK A14.res K) = kr at second ⊢
  simp only [A14, sndC, fstC, l1, h48, h59, wp_skip, wp_ops, wp_seq, wp_cond, wp_block, wp_exit, wp_ret, wops_nil, wops_cons, stepX_r, stepX_a, stepX_e, bindO_some, bindA_some, nextV_eq, nextA_eq, nextE_eq, seqK_normal, seqK_exit, seqK_ret, blockK_normal, blockK_exit, blockK_ret, loopK_normal, loopK_exit, loopK_ret, condK_true, condK_false, fnK_normal, fnK_ret, bindR_some, want_none, want_some, wantV_true, wantV_false, Env.get_put, Env.get_init, Opd.ev, List.getD_cons_succ, List.getD_cons_zero, Option.some.injEq, reduceCtorEq, Nat.reduceEqDiff, ↓reduceIte, Bool.not_true, Bool.not_false, Bool.false_eq_true, decide_true, decide_false, run_mv, run_pick, run_nilck, run_bin, run_beq, run_nileq, run_seq, run_neg, run_not, run_cvInt, run_cvRune, run_cvStr, run_mkIface, run_field, run_fieldAddr, run_idxS, run_idxA, run_idxArr, run_idxStr, run_extract, run_lng, run_load, run_strOfBytes, run_lenC, run_mkFn, run_mnmx, pickV_true, pickV_false, nilckV_ptr, beqV_bool, negV_int, notV_bool, cvIntV_int, cvStrV_str, fieldAddrV_ptr, lngV_str, lngV_nils, lngV_slc, bin_add, bin_sub, bin_mul, bin_eql, bin_neq, bin_lss, bin_leq, bin_gtr, bin_geq, mnmxV2max, mnmxV2min, resVal, resVals, ARes.val, wp_loop, echoOk_nil, wp_call, true_and, and_true, List.map_cons, List.map_nil, wp_store, wp_append, bindX_some, run_bslice1, bs1V_int, bs1V_slc, bs1V_nils, val_slc, val_ptr, Nat.zero_add, Nat.add_zero, Int.reduceEq, Int.reduceLT, Int.reduceLE, Nat.reduceAdd, nileq_ptr, nilne_ptr, nileq_nilp, nilne_nilp, nileq_slc, nilne_slc, nileq_nils, nilne_nils, run_build0, run_box, run_bslice0, run_slS, Option.map_some, Option.map_none]
  refine second _ ?_ ?_ <;> simp only [wp_skip, wp_ops, wp_seq, wp_cond, wp_block, wp_exit, wp_ret, wops_nil, wops_cons, stepX_r, stepX_a, stepX_e, bindO_some, bindA_some, nextV_eq, nextA_eq, nextE_eq, seqK_normal, seqK_exit, seqK_ret, blockK_normal, blockK_exit, blockK_ret, loopK_normal, loopK_exit, loopK_ret, condK_true, condK_false, fnK_normal, fnK_ret, bindR_some, want_none, want_some, wantV_true, wantV_false, Env.get_put, Env.get_init, Opd.ev, List.getD_cons_succ, List.getD_cons_zero, Option.some.injEq, reduceCtorEq, Nat.reduceEqDiff, ↓reduceIte, Bool.not_true, Bool.not_false, Bool.false_eq_true, decide_true, decide_false, run_mv, run_pick, run_nilck, run_bin, run_beq, run_nileq, run_seq, run_neg, run_not, run_cvInt, run_cvRune, run_cvStr, run_mkIface, run_field, run_fieldAddr, run_idxS, run_idxA, run_idxArr, run_idxStr, run_extract, run_lng, run_load, run_strOfBytes, run_lenC, run_mkFn, run_mnmx, pickV_true, pickV_false, nilckV_ptr, beqV_bool, negV_int, notV_bool, cvIntV_int, cvStrV_str, fieldAddrV_ptr, lngV_str, lngV_nils, lngV_slc, bin_add, bin_sub, bin_mul, bin_eql, bin_neq, bin_lss, bin_leq, bin_gtr, bin_geq, mnmxV2max, mnmxV2min, resVal, resVals, ARes.val, wp_loop, echoOk_nil, wp_call, true_and, and_true, List.map_cons, List.map_nil, wp_store, wp_append, bindX_some, run_bslice1, bs1V_int, bs1V_slc, bs1V_nils, val_slc, val_ptr, Nat.zero_add, Nat.add_zero, Int.reduceEq, Int.reduceLT, Int.reduceLE, Nat.reduceAdd, nileq_ptr, nilne_ptr, nileq_nilp, nilne_nilp, nileq_slc, nilne_slc, nileq_nils, nilne_nils, run_build0, run_box, run_bslice0, run_slS, Option.map_some, Option.map_none]
end Go.Proofs.Ytbokakhpdlkkkaa.AM
