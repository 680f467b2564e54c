/-
  params.List, walked on the abstract machine: its blocks, and what its functions do to them.
-/
import Derived.Test.YtcfjjeipdacbcaaDoorAmSl
import Derived.Test.YtcfjjeipdacbcaaDoorCode
set_option linter.unusedVariables false
set_option linter.unusedSimpArgs false
namespace Go.Proofs.YtcfjjeipdacbcaaDoor.AM
open Go

abbrev ints (l : List Int) : List AV := l.map (.int .i64)
def heads (M : List (Nat × List Int)) : List AV := M.map fun x => .slc x.1 0 x.2.length x.2.length
def inner (M : List (Nat × List Int)) : List Cel := M.map fun x => ⟨x.1, 1, ints x.2⟩
/-- a list of parameters lies at p: its blocks are its own -/
def PL (base : Nat) (H : AHeap) (p : Nat) (M : List (Nat × List Int)) (ov fu : Bool) : Prop :=
  (M = [] ∧ Hp base H [⟨p, 3, [.nils, .bool ov, .bool fu]⟩]) ∨ ∃ b, M ≠ [] ∧ Hp base H (⟨p, 3, [.slc b 0 M.length M.length, .bool ov, .bool fu]⟩ :: ⟨b, 1, heads M⟩ :: inner M)

set_option maxHeartbeats 1000000 in
theorem begins_spec {Q : Prog} (hq : Q.fns 47 = some A47) (ho : ∀ a, Q.orc 47 a = none) {base : Nat} {H : AHeap} {p : Nat} {M : List (Nat × List Int)} {ov fu : Bool} (h : PL base H p M ov fu) (hM : M.length ≤ 16) :
    FnTo Q 47 [.ptr p 0] H (fun r H' => Keep base H H' ∧ if M.length = 16 then PL base H' p M true false else ∃ nb, PL base H' p (M ++ [(nb, [0])]) false false) := by
  refine fn_wp (ho _) hq (by simp [A47]) ?_
  rcases h with ⟨rfl, h⟩ | ⟨b, hne, h⟩
  · obtain ⟨H1, s1, h1, k1, _⟩ := h.store (o := 2) (v := .bool false) rfl (by simp)
    have l1 := h1.load (o := 0) (List.mem_cons_self ..) rfl
    obtain ⟨H2, s2, h2, k2, _⟩ := h1.store (o := 1) (v := .bool false) rfl (by simp)
    have l2 := h2.load (o := 1) (List.mem_cons_self ..) rfl
    have l3 := h2.load (o := 0) (List.mem_cons_self ..) rfl
    obtain ⟨H3, s3, h3, k3⟩ := h2.make [.int .i64 0] 1
    obtain ⟨H4, s4, h4, k4⟩ := h3.make [.slc H2.next 0 1 1] 1
    obtain ⟨B, r4, c4⟩ := h4.rowOf (cs := [.slc H2.next 0 1 1]) (List.mem_cons_self ..)
    obtain ⟨H5, s5, h5, k5⟩ := h4.append0 (bytes := 24) (o2 := 0) (c2 := 1) (v := .slc H2.next 0 1 1) r4 (by rw [c4]; rfl) rfl (by omega) (by omega)
    have h6 := h5.swap.drop.rot3
    obtain ⟨H7, s7, h7, k7, _⟩ := h6.store (o := 0) (v := .slc H4.next 0 1 1) rfl (by simp)
    simp only [A47, s1, l1, s2, l2, l3, s3, s4, s5, s7, SX, Opd.ev, resVal, resVals, ARes.val, Bool.false_eq_true, Bool.not_false, Bool.not_true, List.getD_cons_succ, List.getD_cons_zero, List.map_cons, List.map_nil, Nat.add_zero, Nat.zero_add, Option.map_none, Option.map_some, Option.some.injEq, and_true, decide_false, decide_true, true_and, reduceCtorEq, Nat.reduceEqDiff, ↓reduceIte, Int.reduceEq, Int.reduceLT, Int.reduceLE, Nat.reduceAdd]
    exact ⟨k1.trans (k2.trans (k3.trans (k4.trans (k5.trans k7)))), H2.next, .inr ⟨H4.next, by simp, h7⟩⟩
  · have hw : (M.length : Int) = 16 ↔ M.length = 16 := by omega
    obtain ⟨H1, s1, h1, k1, _⟩ := h.store (o := 2) (v := .bool false) rfl (by simp)
    have l1 := h1.load (o := 0) (List.mem_cons_self ..) rfl
    by_cases h16 : M.length = 16
    · have h16' : (M.length : Int) = 16 := by omega
      obtain ⟨H2, s2, h2, k2, _⟩ := h1.store (o := 1) (v := .bool true) rfl (by simp)
      have l2 := h2.load (o := 1) (List.mem_cons_self ..) rfl
      simp only [A47, s1, l1, s2, l2, h16', SX, Opd.ev, resVal, resVals, ARes.val, Bool.false_eq_true, Bool.not_false, Bool.not_true, List.getD_cons_succ, List.getD_cons_zero, List.map_cons, List.map_nil, Nat.add_zero, Nat.zero_add, Option.map_none, Option.map_some, Option.some.injEq, and_true, decide_false, decide_true, true_and, reduceCtorEq, Nat.reduceEqDiff, ↓reduceIte, Int.reduceEq, Int.reduceLT, Int.reduceLE, Nat.reduceAdd]
      rw [if_pos h16]
      exact ⟨k1.trans k2, .inr ⟨b, hne, h2⟩⟩
    · have h16' : ¬ (M.length : Int) = 16 := by omega
      obtain ⟨H2, s2, h2, k2, _⟩ := h1.store (o := 1) (v := .bool false) rfl (by simp)
      have l2 := h2.load (o := 1) (List.mem_cons_self ..) rfl
      have l3 := h2.load (o := 0) (List.mem_cons_self ..) rfl
      obtain ⟨H3, s3, h3, k3⟩ := h2.make [.int .i64 0] 1
      obtain ⟨H4, s4, h4, k4⟩ := h3.make [.slc H2.next 0 1 1] 1
      obtain ⟨B, r4, c4⟩ := h4.rowOf (cs := [.slc H2.next 0 1 1]) (List.mem_cons_self ..)
      obtain ⟨H5, s5, h5, k5⟩ := (h4.rot4).append1 (bytes := 24) (o2 := 0) (c2 := 1) (v := .slc H2.next 0 1 1) (n := M.length) (by simp [heads]) r4 (by rw [c4]; rfl) rfl (by omega) (by omega)
      have h6 := h5.swap.drop.rot3
      obtain ⟨H7, s7, h7, k7, _⟩ := h6.store (o := 0) (v := .slc H4.next 0 (M.length + 1) (M.length + 1)) rfl (by simp)
      simp only [A47, s1, l1, s2, l2, l3, s3, s4, s5, s7, h16, h16', SX, Opd.ev, resVal, resVals, ARes.val, Bool.false_eq_true, Bool.not_false, Bool.not_true, List.getD_cons_succ, List.getD_cons_zero, List.map_cons, List.map_nil, Nat.add_zero, Nat.zero_add, Option.map_none, Option.map_some, Option.some.injEq, and_true, decide_false, decide_true, true_and, reduceCtorEq, Nat.reduceEqDiff, ↓reduceIte, Int.reduceEq, Int.reduceLT, Int.reduceLE, Nat.reduceAdd]
      refine ⟨k1.trans (k2.trans (k3.trans (k4.trans (k5.trans k7)))), H2.next, .inr ⟨H4.next, by simp, ?_⟩⟩
      have e1 : heads (M ++ [(H2.next, [0])]) = heads M ++ [.slc H2.next 0 1 1] := by simp [heads]
      have e2 : inner (M ++ [(H2.next, [0])]) = inner M ++ [⟨H2.next, 1, [.int .i64 0]⟩] := by simp [inner]
      rw [e1, e2, List.length_append]
      exact h7.perm (List.Perm.cons _ (List.Perm.cons _ (List.perm_append_comm (l₁ := [_]) (l₂ := inner M))))

/-- the list as numbers -/
structure PS where
  L : List (List Int)
  ov : Bool
  fu : Bool
def PS.begins (s : PS) : PS := if s.L.length = 16 then ⟨s.L, true, false⟩ else ⟨s.L ++ [[0]], false, false⟩
def PS.last (c : Int) (init : List (List Int)) (l : List Int) (s : PS) : PS :=
  if c = 59 then s.begins else if s.fu = true then s else
  if c = 58 then (if l.length = 8 then ⟨s.L, s.ov, true⟩ else ⟨init ++ [l ++ [0]], s.ov, s.fu⟩)
  else ⟨init ++ [l.set (l.length - 1) (min (10 * l.getD (l.length - 1) 0 + (c - 48)) 9999)], s.ov, s.fu⟩
def PS.step (c : Int) (s : PS) : PS := s.last c s.L.dropLast (s.L.getLastD [])
def PS.byte (c : Int) (s : PS) : PS :=
  if s.ov = true ∨ c < 48 ∨ 59 < c then s else PS.step c (if s.L.length = 0 then s.begins else s)
structure PS.Good (s : PS) : Prop where
  len : s.L.length ≤ 16
  el : ∀ l ∈ s.L, 1 ≤ l.length ∧ l.length ≤ 8 ∧ ∀ x ∈ l, 0 ≤ x ∧ x ≤ 9999
def PLs (base : Nat) (H : AHeap) (p : Nat) (s : PS) : Prop := ∃ M, PL base H p M s.ov s.fu ∧ M.map (·.2) = s.L
theorem begins_pls {Q : Prog} (hq : Q.fns 47 = some A47) (ho : ∀ a, Q.orc 47 a = none) {base : Nat} {H : AHeap} {p : Nat} {s : PS} (h : PLs base H p s) (hM : s.L.length ≤ 16) :
    FnTo Q 47 [.ptr p 0] H (fun r H' => Keep base H H' ∧ PLs base H' p s.begins) := by
  obtain ⟨M, h, e⟩ := h
  have hl : M.length = s.L.length := by rw [← e]; simp
  refine (begins_spec hq ho h (by omega)).mono ?_
  rintro r H' ⟨hk, hp⟩
  refine ⟨hk, ?_⟩
  unfold PS.begins
  by_cases h16 : M.length = 16
  · rw [if_pos h16] at hp
    rw [if_pos (by omega)]
    exact ⟨M, hp, e⟩
  · rw [if_neg h16] at hp
    rw [if_neg (by omega)]
    obtain ⟨nb, hp⟩ := hp
    exact ⟨_, hp, by simp [e]⟩
theorem begins_good {s : PS} (h : s.Good) : s.begins.Good := by
  unfold PS.begins
  split
  · exact ⟨h.len, h.el⟩
  · rename_i hh
    refine ⟨by have := h.len; simp; omega, fun l hl => ?_⟩
    rcases List.mem_append.1 hl with hl | hl
    · exact h.el l hl
    · simp at hl; subst hl; simp

theorem mkPL {base : Nat} {H : AHeap} {p b ib n m : Nat} {init : List (Nat × List Int)} {l : List Int} {ov fu : Bool} (h : Hp base H (⟨p, 3, [.slc b 0 n n, .bool ov, .bool fu]⟩ :: ⟨b, 1, heads init ++ [.slc ib 0 m m]⟩ :: ⟨ib, 1, ints l⟩ :: inner init)) (hn : n = init.length + 1) (hm : l.length = m) : PL base H p (init ++ [(ib, l)]) ov fu := by
  refine .inr ⟨b, by simp, ?_⟩
  have hin : inner (init ++ [(ib, l)]) = inner init ++ [⟨ib, 1, ints l⟩] := by simp [inner]
  have hhd : heads (init ++ [(ib, l)]) = heads init ++ [.slc ib 0 l.length l.length] := by simp [heads]
  have hn2 : (init ++ [(ib, l)]).length = n := by rw [hn]; simp
  rw [hin, hhd, hn2, hm]
  exact h.perm (List.Perm.cons _ (List.Perm.cons _ (List.perm_append_comm (l₁ := [_]) (l₂ := inner init))))
abbrev A14r : ACode := sndC (sndC A27.body)
set_option maxHeartbeats 2000000 in
theorem byte_last {Q : Prog} (hq18 : Q.fns 47 = some A47) (ho18 : ∀ a, Q.orc 47 a = none) {base : Nat} {H : AHeap} {p : Nat} {c : Int} (hc : 48 ≤ c ∧ c ≤ 59) {s : PS} (hg : s.Good) (h : PLs base H p s) (hne : s.L ≠ []) {e : Env} (e0 : Env.get e 0 = .ptr p 0) (e1 : Env.get e 1 = .int .u8 c)
    {res : List ARes} (hres : res = []) {K : AV → AHeap → Prop} (hK : ∀ r H', Keep base H H' → PLs base H' p (PS.step c s) → K r H') : ACode.wp Q A14r (fnK res K) e H := by
  subst hres
  obtain ⟨M, hp, eM⟩ := h
  rcases hp with ⟨rfl, _⟩ | ⟨b, hMne, hp⟩
  · exact absurd (by rw [← eM]; rfl) hne
  obtain ⟨init, ⟨ib, l⟩, rfl⟩ : ∃ init x, M = init ++ [x] := ⟨M.dropLast, M.getLast hMne, (List.dropLast_concat_getLast hMne).symm⟩
  have hL : s.L = init.map (·.2) ++ [l] := by rw [← eM]; simp
  have hin : inner (init ++ [(ib, l)]) = inner init ++ [⟨ib, 1, ints l⟩] := by simp [inner]
  have hhd : heads (init ++ [(ib, l)]) = heads init ++ [.slc ib 0 l.length l.length] := by simp [heads]
  rw [hin] at hp
  have hl8 := hg.el l (by rw [hL]; simp)
  have hlen := hg.len
  have hlen' : init.length + 1 ≤ 16 := by rw [hL] at hlen; simpa using hlen
  obtain ⟨n, hn⟩ : ∃ n, n = init.length + 1 := ⟨_, rfl⟩
  have hn2 : (init ++ [(ib, l)]).length = n := by rw [hn]; simp
  obtain ⟨m, hm⟩ : ∃ m, l.length = m := ⟨_, rfl⟩
  rw [hhd, hn2, hm] at hp
  have hp : Hp base H (⟨p, 3, [.slc b 0 n n, .bool s.ov, .bool s.fu]⟩ :: ⟨b, 1, heads init ++ [.slc ib 0 m m]⟩ :: ⟨ib, 1, ints l⟩ :: inner init) :=
    hp.perm (List.Perm.cons _ (List.Perm.cons _ (List.perm_append_comm (l₁ := inner init) (l₂ := [_]))))
  have hpls : PLs base H p s := ⟨_, mkPL hp hn hm, eM⟩
  have hstep : PS.step c s = s.last c (init.map (·.2)) l := by unfold PS.step; rw [hL]; simp
  have w1 : IntKind.wrap .i64 ((n : Int) - 1) = (init.length : Int) := by rw [wrapI64 (by omega) (by omega)]; omega
  have x1 : idxSV 1 (.slc b 0 n n) (.int .i64 (init.length : Int)) = some (.ptr b (0 + init.length)) := idxSV_slc (by omega)
  have l0 := hp.load (o := 0) (List.mem_cons_self ..) rfl
  have l2 := hp.load (o := 2) (List.mem_cons_self ..) rfl
  have lb := hp.load (b := b) (o := init.length) (v := .slc ib 0 m m) (List.mem_cons_of_mem _ (List.mem_cons_self ..)) (by simp [heads])
  have w2 : IntKind.wrap .i64 ((m : Int) - 1) = ((m - 1 : Nat) : Int) := by rw [wrapI64 (by omega) (by omega)]; omega
  by_cases h59 : c = 59
  · subst h59
    simp only [A14r, A27, sndC, e0, e1, l0, l2, lb, w1, w2, x1, SX, Opd.ev, resVal, resVals, ARes.val, Bool.false_eq_true, Bool.not_false, Bool.not_true, List.getD_cons_succ, List.getD_cons_zero, List.map_cons, List.map_nil, Nat.add_zero, Nat.zero_add, Option.map_none, Option.map_some, Option.some.injEq, and_true, decide_false, decide_true, true_and, reduceCtorEq, Nat.reduceEqDiff, ↓reduceIte, Int.reduceEq, Int.reduceLT, Int.reduceLE, Nat.reduceAdd]
    refine (begins_pls hq18 ho18 hpls hg.len).mono ?_
    rintro r H' ⟨hk, hq⟩
    simp only [A14r, A27, sndC, e0, e1, l0, l2, lb, w1, w2, x1, SX, Opd.ev, resVal, resVals, ARes.val, Bool.false_eq_true, Bool.not_false, Bool.not_true, List.getD_cons_succ, List.getD_cons_zero, List.map_cons, List.map_nil, Nat.add_zero, Nat.zero_add, Option.map_none, Option.map_some, Option.some.injEq, and_true, decide_false, decide_true, true_and, reduceCtorEq, Nat.reduceEqDiff, ↓reduceIte, Int.reduceEq, Int.reduceLT, Int.reduceLE, Nat.reduceAdd]
    refine hK _ _ hk ?_
    rw [hstep]; exact hq
  by_cases hfu : s.fu = true
  · simp only [A14r, A27, sndC, e0, e1, l0, l2, lb, w1, w2, x1, h59, hfu, SX, Opd.ev, resVal, resVals, ARes.val, Bool.false_eq_true, Bool.not_false, Bool.not_true, List.getD_cons_succ, List.getD_cons_zero, List.map_cons, List.map_nil, Nat.add_zero, Nat.zero_add, Option.map_none, Option.map_some, Option.some.injEq, and_true, decide_false, decide_true, true_and, reduceCtorEq, Nat.reduceEqDiff, ↓reduceIte, Int.reduceEq, Int.reduceLT, Int.reduceLE, Nat.reduceAdd]
    refine hK _ _ (Keep.refl _ _) ?_
    rw [hstep]
    unfold PS.last
    rw [if_neg h59, if_pos hfu]
    exact hpls
  have hfu' : s.fu = false := by simpa using hfu
  have hmap : ∀ (i' : Nat) (l' : List Int), (init ++ [(i', l')]).map (·.2) = init.map (·.2) ++ [l'] := by intro i' l'; simp
  by_cases h58 : c = 58
  · subst h58
    by_cases h8 : m = 8
    · have h8' : (((m - 1 : Nat) : Int) + 1 = 8) := by omega
      have w3 : IntKind.wrap .i64 (((m - 1 : Nat) : Int) + 1) = 8 := by rw [wrapI64 (by omega) (by omega)]; omega
      obtain ⟨H1, s1, h1, k1, _⟩ := hp.store (o := 2) (v := .bool true) rfl (by simp)
      simp only [A14r, A27, sndC, e0, e1, l0, l2, lb, w1, w2, w3, x1, hfu', s1, SX, Opd.ev, resVal, resVals, ARes.val, Bool.false_eq_true, Bool.not_false, Bool.not_true, List.getD_cons_succ, List.getD_cons_zero, List.map_cons, List.map_nil, Nat.add_zero, Nat.zero_add, Option.map_none, Option.map_some, Option.some.injEq, and_true, decide_false, decide_true, true_and, reduceCtorEq, Nat.reduceEqDiff, ↓reduceIte, Int.reduceEq, Int.reduceLT, Int.reduceLE, Nat.reduceAdd]
      refine hK _ _ k1 ?_
      rw [hstep]
      unfold PS.last
      rw [if_neg (by omega), if_neg hfu, if_pos rfl, if_pos (by omega)]
      exact ⟨_, mkPL h1 hn hm, eM⟩
    · have w3 : IntKind.wrap .i64 (((m - 1 : Nat) : Int) + 1) = (m : Int) := by rw [wrapI64 (by omega) (by omega)]; omega
      have h8' : ¬ (m : Int) = 8 := by omega
      obtain ⟨H1, s1, h1, k1⟩ := hp.make [.int .i64 0] 1
      obtain ⟨B, r1, c1⟩ := h1.rowOf (cs := [.int .i64 0]) (List.mem_cons_self ..)
      obtain ⟨H2, s2, h2, k2⟩ := (h1.rot4).append1 (bytes := 8) (o2 := 0) (c2 := 1) (v := .int .i64 0) (n := m) (by simp [hm]) r1 (by rw [c1]; rfl) rfl (by omega) (by omega)
      have h3 := h2.swap.drop.rot3
      obtain ⟨H3, s3, h4, k3, _⟩ := h3.store (o := init.length) (v := .slc H1.next 0 (m + 1) (m + 1)) rfl (by simp [heads])
      have h5 : Hp base H3 (⟨b, 1, heads init ++ [.slc H1.next 0 (m + 1) (m + 1)]⟩ :: ⟨H1.next, 1, ints (l ++ [0])⟩ :: ⟨p, 3, [.slc b 0 n n, .bool s.ov, .bool s.fu]⟩ :: inner init) := by
        have e1 : (heads init ++ [AV.slc ib 0 m m]).set init.length (.slc H1.next 0 (m + 1) (m + 1)) = heads init ++ [.slc H1.next 0 (m + 1) (m + 1)] := by simp [heads]
        have e2 : ints (l ++ [0]) = ints l ++ [.int .i64 0] := by simp
        rw [e1] at h4
        rw [e2]; exact h4
      simp only [A14r, A27, sndC, e0, e1, l0, l2, lb, w1, w2, w3, x1, hfu', h8', s1, s2, s3, SX, Opd.ev, resVal, resVals, ARes.val, Bool.false_eq_true, Bool.not_false, Bool.not_true, List.getD_cons_succ, List.getD_cons_zero, List.map_cons, List.map_nil, Nat.add_zero, Nat.zero_add, Option.map_none, Option.map_some, Option.some.injEq, and_true, decide_false, decide_true, true_and, reduceCtorEq, Nat.reduceEqDiff, ↓reduceIte, Int.reduceEq, Int.reduceLT, Int.reduceLE, Nat.reduceAdd]
      refine hK _ _ (k1.trans (k2.trans k3)) ?_
      rw [hstep]
      unfold PS.last
      rw [if_neg (by omega), if_neg hfu, if_pos rfl, if_neg (by omega)]
      exact ⟨_, mkPL h5.rot3 hn (by simp [hm]), by rw [hmap]⟩
  · have h58' : ¬ c = 58 := h58
    obtain ⟨x, hx⟩ : ∃ x, l.getD (m - 1) 0 = x := ⟨_, rfl⟩
    have hxm : l[m - 1]? = some x := by
      rw [List.getD_eq_getElem?_getD, List.getElem?_eq_getElem (by omega)] at hx
      rw [List.getElem?_eq_getElem (by omega), ← hx]; rfl
    have hxr := hl8.2.2 x (List.mem_of_getElem? hxm)
    have lx := hp.load (b := ib) (o := m - 1) (v := .int .i64 x) (List.mem_cons_of_mem _ (List.mem_cons_of_mem _ (List.mem_cons_self ..))) (by simp [hxm])
    have x2 : idxSV 1 (.slc ib 0 m m) (.int .i64 ((m - 1 : Nat) : Int)) = some (.ptr ib (0 + (m - 1))) := idxSV_slc (by omega)
    have w4 : IntKind.wrap .i64 (10 * x) = 10 * x := wrapI64 (by omega) (by omega)
    have w5 : IntKind.wrap .u8 (c - 48) = c - 48 := by simp [IntKind.wrap, IntKind.signed, IntKind.bits]; omega
    have w6 : IntKind.wrap .i64 (c - 48) = c - 48 := wrapI64 (by omega) (by omega)
    have w7 : IntKind.wrap .i64 (10 * x + (c - 48)) = 10 * x + (c - 48) := wrapI64 (by omega) (by omega)
    obtain ⟨H1, s1, h1, k1, _⟩ := (hp.rot3).store (o := m - 1) (v := .int .i64 (min (10 * x + (c - 48)) 9999)) rfl (by simp; omega)
    have h2 : Hp base H1 (⟨ib, 1, ints (l.set (m - 1) (min (10 * x + (c - 48)) 9999))⟩ :: ⟨p, 3, [.slc b 0 n n, .bool s.ov, .bool s.fu]⟩ :: ⟨b, 1, heads init ++ [.slc ib 0 m m]⟩ :: inner init) := by
      have e1 : (ints l).set (m - 1) (.int .i64 (min (10 * x + (c - 48)) 9999)) = ints (l.set (m - 1) (min (10 * x + (c - 48)) 9999)) := by simp [List.map_set]
      rw [e1] at h1; exact h1
    simp only [A14r, A27, sndC, e0, e1, l0, l2, lb, w1, w2, x1, hfu', h59, h58', lx, x2, w4, w5, w6, w7, s1, SX, Opd.ev, resVal, resVals, ARes.val, Bool.false_eq_true, Bool.not_false, Bool.not_true, List.getD_cons_succ, List.getD_cons_zero, List.map_cons, List.map_nil, Nat.add_zero, Nat.zero_add, Option.map_none, Option.map_some, Option.some.injEq, and_true, decide_false, decide_true, true_and, reduceCtorEq, Nat.reduceEqDiff, ↓reduceIte, Int.reduceEq, Int.reduceLT, Int.reduceLE, Nat.reduceAdd]
    refine hK _ _ k1 ?_
    rw [hstep]
    unfold PS.last
    rw [if_neg h59, if_neg hfu, if_neg h58]
    exact ⟨_, mkPL h2.rot3.rot3 hn (by simp [hm]), by rw [hmap, hm, hx]⟩
theorem pls_ov {base : Nat} {H : AHeap} {p : Nat} {s : PS} (h : PLs base H p s) : loadV H none (.ptr p 1) = some (.bool s.ov) := by
  obtain ⟨M, h, e⟩ := h
  rcases h with ⟨rfl, h⟩ | ⟨b, hne, h⟩ <;> exact h.load (o := 1) (List.mem_cons_self ..) rfl
theorem pls_len {base : Nat} {H : AHeap} {p : Nat} {s : PS} (h : PLs base H p s) : ∃ sv, loadV H none (.ptr p 0) = some sv ∧ lngV H 1 sv = some (.int .i64 s.L.length) := by
  obtain ⟨M, h, e⟩ := h
  have hl : s.L.length = M.length := by rw [← e]; simp
  rw [hl]
  rcases h with ⟨rfl, h⟩ | ⟨b, hne, h⟩
  · exact ⟨_, h.load (o := 0) (List.mem_cons_self ..) rfl, rfl⟩
  · exact ⟨_, h.load (o := 0) (List.mem_cons_self ..) rfl, rfl⟩
set_option maxHeartbeats 2000000 in
theorem byte_spec {Q : Prog} (hq : Q.fns 27 = some A27) (ho : ∀ a, Q.orc 27 a = none) (hq18 : Q.fns 47 = some A47) (ho18 : ∀ a, Q.orc 47 a = none) {base : Nat} {H : AHeap} {p : Nat} {c : Int} {s : PS} (hg : s.Good) (h : PLs base H p s) :
    FnTo Q 27 [.ptr p 0, .int .u8 c] H (fun r H' => Keep base H H' ∧ PLs base H' p (s.byte c)) := by
  refine fn_wp (ho _) hq (by simp [A27]) ?_
  have l1 := pls_ov h
  obtain ⟨sv, l0, ln⟩ := pls_len h
  by_cases hov : s.ov = true
  · rw [hov] at l1
    simp only [A27, l1, SX, Opd.ev, resVal, resVals, ARes.val, Bool.false_eq_true, Bool.not_false, Bool.not_true, List.getD_cons_succ, List.getD_cons_zero, List.map_cons, List.map_nil, Nat.add_zero, Nat.zero_add, Option.map_none, Option.map_some, Option.some.injEq, and_true, decide_false, decide_true, true_and, reduceCtorEq, Nat.reduceEqDiff, ↓reduceIte, Int.reduceEq, Int.reduceLT, Int.reduceLE, Nat.reduceAdd]
    exact ⟨Keep.refl _ _, by unfold PS.byte; rw [if_pos (.inl hov)]; exact h⟩
  have hov' : s.ov = false := by simpa using hov
  rw [hov'] at l1
  by_cases h48 : c < 48
  · simp only [A27, l1, h48, SX, Opd.ev, resVal, resVals, ARes.val, Bool.false_eq_true, Bool.not_false, Bool.not_true, List.getD_cons_succ, List.getD_cons_zero, List.map_cons, List.map_nil, Nat.add_zero, Nat.zero_add, Option.map_none, Option.map_some, Option.some.injEq, and_true, decide_false, decide_true, true_and, reduceCtorEq, Nat.reduceEqDiff, ↓reduceIte, Int.reduceEq, Int.reduceLT, Int.reduceLE, Nat.reduceAdd]
    exact ⟨Keep.refl _ _, by unfold PS.byte; rw [if_pos (.inr (.inl h48))]; exact h⟩
  by_cases h59 : 59 < c
  · simp only [A27, l1, h48, h59, SX, Opd.ev, resVal, resVals, ARes.val, Bool.false_eq_true, Bool.not_false, Bool.not_true, List.getD_cons_succ, List.getD_cons_zero, List.map_cons, List.map_nil, Nat.add_zero, Nat.zero_add, Option.map_none, Option.map_some, Option.some.injEq, and_true, decide_false, decide_true, true_and, reduceCtorEq, Nat.reduceEqDiff, ↓reduceIte, Int.reduceEq, Int.reduceLT, Int.reduceLE, Nat.reduceAdd]
    exact ⟨Keep.refl _ _, by unfold PS.byte; rw [if_pos (.inr (.inr h59))]; exact h⟩
  have hb : s.byte c = PS.step c (if s.L.length = 0 then s.begins else s) := by unfold PS.byte; rw [if_neg (by simp [hov']; omega)]
  rw [hb]
  obtain ⟨s1, hs1⟩ : ∃ s1, (if s.L.length = 0 then s.begins else s) = s1 := ⟨_, rfl⟩
  rw [hs1]
  have hg1 : s1.Good := by
    rw [← hs1]
    split
    · exact begins_good hg
    · exact hg
  have hne1 : s1.L ≠ [] := by
    rw [← hs1]
    split
    · rename_i h0
      unfold PS.begins
      rw [if_neg (by omega)]
      simp
    · rename_i h0
      intro hh; rw [hh] at h0; simp at h0
  obtain ⟨K, hK⟩ : ∃ K : AV → AHeap → Prop, K = fun r H' => Keep base H H' ∧ PLs base H' p (PS.step c s1) := ⟨_, rfl⟩
  rw [← hK]
  have key : ∀ (e : Env) (H' : AHeap), Keep base H H' → PLs base H' p s1 → Env.get e 0 = .ptr p 0 → Env.get e 1 = .int .u8 c → ACode.wp Q (sndC (sndC A27.body)) (fnK A27.res K) e H' := by
    intro e H' hk hp e0 e1
    refine byte_last hq18 ho18 (by omega) hg1 hp hne1 e0 e1 rfl ?_
    intro r H2 hk2 hp2
    rw [hK]
    exact ⟨hk.trans hk2, hp2⟩
  have second : ∀ (e : Env), Env.get e 0 = .ptr p 0 → Env.get e 1 = .int .u8 c → ACode.wp Q (sndC A27.body) (fnK A27.res K) e H := by
    intro e e0 e1
    rw [wp_parts (sndC A27.body) rfl]
    generalize ACode.wp Q (sndC (sndC A27.body)) (fnK A27.res K) = kr at key ⊢
    by_cases h0 : s.L.length = 0
    · have h0' : (s.L.length : Int) = 0 := by omega
      rw [if_pos h0] at hs1
      simp only [A27, sndC, fstC, e0, e1, l0, ln, h0', SX, Opd.ev, resVal, resVals, ARes.val, Bool.false_eq_true, Bool.not_false, Bool.not_true, List.getD_cons_succ, List.getD_cons_zero, List.map_cons, List.map_nil, Nat.add_zero, Nat.zero_add, Option.map_none, Option.map_some, Option.some.injEq, and_true, decide_false, decide_true, true_and, reduceCtorEq, Nat.reduceEqDiff, ↓reduceIte, Int.reduceEq, Int.reduceLT, Int.reduceLE, Nat.reduceAdd]
      refine (begins_pls hq18 ho18 h hg.len).mono ?_
      rintro r H' ⟨hk, hp⟩
      simp only [SX, Opd.ev, resVal, resVals, ARes.val, Bool.false_eq_true, Bool.not_false, Bool.not_true, List.getD_cons_succ, List.getD_cons_zero, List.map_cons, List.map_nil, Nat.add_zero, Nat.zero_add, Option.map_none, Option.map_some, Option.some.injEq, and_true, decide_false, decide_true, true_and, reduceCtorEq, Nat.reduceEqDiff, ↓reduceIte, Int.reduceEq, Int.reduceLT, Int.reduceLE, Nat.reduceAdd]
      refine key _ _ hk (hs1 ▸ hp) ?_ ?_ <;> simp only [e0, e1, SX, Opd.ev, resVal, resVals, ARes.val, Bool.false_eq_true, Bool.not_false, Bool.not_true, List.getD_cons_succ, List.getD_cons_zero, List.map_cons, List.map_nil, Nat.add_zero, Nat.zero_add, Option.map_none, Option.map_some, Option.some.injEq, and_true, decide_false, decide_true, true_and, reduceCtorEq, Nat.reduceEqDiff, ↓reduceIte, Int.reduceEq, Int.reduceLT, Int.reduceLE, Nat.reduceAdd]
    · have h0' : ¬ (s.L.length : Int) = 0 := by omega
      rw [if_neg h0] at hs1
      simp only [A27, sndC, fstC, e0, e1, l0, ln, h0', SX, Opd.ev, resVal, resVals, ARes.val, Bool.false_eq_true, Bool.not_false, Bool.not_true, List.getD_cons_succ, List.getD_cons_zero, List.map_cons, List.map_nil, Nat.add_zero, Nat.zero_add, Option.map_none, Option.map_some, Option.some.injEq, and_true, decide_false, decide_true, true_and, reduceCtorEq, Nat.reduceEqDiff, ↓reduceIte, Int.reduceEq, Int.reduceLT, Int.reduceLE, Nat.reduceAdd]
      refine key _ _ (Keep.refl _ _) (hs1 ▸ h) ?_ ?_ <;> simp only [e0, e1, SX, Opd.ev, resVal, resVals, ARes.val, Bool.false_eq_true, Bool.not_false, Bool.not_true, List.getD_cons_succ, List.getD_cons_zero, List.map_cons, List.map_nil, Nat.add_zero, Nat.zero_add, Option.map_none, Option.map_some, Option.some.injEq, and_true, decide_false, decide_true, true_and, reduceCtorEq, Nat.reduceEqDiff, ↓reduceIte, Int.reduceEq, Int.reduceLT, Int.reduceLE, Nat.reduceAdd]
  rw [wp_parts A27.body rfl]
  generalize ACode.wp Q (sndC A27.body) (fnK A27.res K) = kr at second ⊢
  simp only [A27, sndC, fstC, l1, h48, h59, SX, Opd.ev, resVal, resVals, ARes.val, Bool.false_eq_true, Bool.not_false, Bool.not_true, List.getD_cons_succ, List.getD_cons_zero, List.map_cons, List.map_nil, Nat.add_zero, Nat.zero_add, Option.map_none, Option.map_some, Option.some.injEq, and_true, decide_false, decide_true, true_and, reduceCtorEq, Nat.reduceEqDiff, ↓reduceIte, Int.reduceEq, Int.reduceLT, Int.reduceLE, Nat.reduceAdd]
  refine second _ ?_ ?_ <;> simp only [SX, Opd.ev, resVal, resVals, ARes.val, Bool.false_eq_true, Bool.not_false, Bool.not_true, List.getD_cons_succ, List.getD_cons_zero, List.map_cons, List.map_nil, Nat.add_zero, Nat.zero_add, Option.map_none, Option.map_some, Option.some.injEq, and_true, decide_false, decide_true, true_and, reduceCtorEq, Nat.reduceEqDiff, ↓reduceIte, Int.reduceEq, Int.reduceLT, Int.reduceLE, Nat.reduceAdd]

theorem last_good {c : Int} (hc : 48 ≤ c ∧ c ≤ 59) {s : PS} (h : s.Good) {init : List (List Int)} {l : List Int} (e : s.L = init ++ [l]) : (s.last c init l).Good := by
  have hlen := h.len
  rw [e] at hlen
  have hi : ∀ x ∈ init, _ := fun x hx => h.el x (by rw [e]; simp [hx])
  have hl := h.el l (by rw [e]; simp)
  unfold PS.last
  split
  · exact begins_good h
  · split
    · exact h
    · split
      · split
        · exact ⟨h.len, h.el⟩
        · refine ⟨by simpa using hlen, fun x hx => ?_⟩
          rcases List.mem_append.1 hx with hx | hx
          · exact hi x hx
          · simp at hx; subst hx
            refine ⟨by simp, by simp; omega, fun y hy => ?_⟩
            rcases List.mem_append.1 hy with hy | hy
            · exact hl.2.2 y hy
            · simp at hy; omega
      · refine ⟨by simpa using hlen, fun x hx => ?_⟩
        rcases List.mem_append.1 hx with hx | hx
        · exact hi x hx
        · simp at hx; subst hx
          refine ⟨by simpa using hl.1, by simpa using hl.2.1, fun y hy => ?_⟩
          rcases List.mem_or_eq_of_mem_set hy with hy | rfl
          · exact hl.2.2 y hy
          · have : 0 ≤ l[l.length - 1]?.getD 0 := by
              rw [List.getElem?_eq_getElem (by omega)]
              exact (hl.2.2 _ (List.getElem_mem _)).1
            omega
theorem byte_good {c : Int} {s : PS} (h : s.Good) : (s.byte c).Good := by
  unfold PS.byte
  split
  · exact h
  · rename_i hc
    obtain ⟨s1, hs1⟩ : ∃ s1, (if s.L.length = 0 then s.begins else s) = s1 := ⟨_, rfl⟩
    rw [hs1]
    have hg1 : s1.Good := by
      rw [← hs1]
      split
      · exact begins_good h
      · exact h
    have hne1 : s1.L ≠ [] := by
      rw [← hs1]
      split
      · rename_i h0
        unfold PS.begins
        rw [if_neg (by omega)]
        simp
      · rename_i h0
        intro hh; rw [hh] at h0; simp at h0
    unfold PS.step
    refine last_good (by simp only [not_or, Int.not_lt] at hc; omega) hg1 ?_
    rw [List.getLastD_eq_getLast?, List.getLast?_eq_some_getLast hne1]
    exact (List.dropLast_concat_getLast hne1).symm
def PS.none : PS := ⟨[], false, false⟩
theorem none_good : PS.none.Good := ⟨by simp [PS.none], fun l hl => by simp [PS.none] at hl⟩
def PS.feed (s : PS) (t : List UInt8) : PS := t.foldl (fun s b => s.byte (b.toNat : Int)) s
theorem feed_good : ∀ {t : List UInt8} {s : PS}, s.Good → (s.feed t).Good
  | [], s, h => h
  | b :: t, s, h => feed_good (t := t) (byte_good h)
set_option maxHeartbeats 2000000 in
theorem list_spec {Q : Prog} (hq : Q.fns 13 = some A13) (ho : ∀ a, Q.orc 13 a = Option.none) (hq14 : Q.fns 27 = some A27) (ho14 : ∀ a, Q.orc 27 a = Option.none) (hq18 : Q.fns 47 = some A47) (ho18 : ∀ a, Q.orc 47 a = Option.none) {H : AHeap} (hf : ∀ b, H.next ≤ b → H.get b = Option.none) {t : List UInt8} (ht : t.length ≤ maxLen) :
    FnTo Q 13 [.str t] H (fun r H' => Keep H.next H H' ∧ ∃ p, r = .ptr p 0 ∧ PLs H.next H' p (PS.none.feed t)) := by
  refine fn_wp (ho _) hq (by simp [A13]) ?_
  obtain ⟨H1, s1, h1, k1⟩ := (Hp.nil H hf).make [.nils, .bool false, .bool false] 3
  have bx : boxV (.agg [.nils, .bool false, .bool false]) = some (.row ⟨[.nils, .bool false, .bool false], 0, false, true⟩, .ptr) := rfl
  have hmax : maxLen ≤ 9223372036854775807 := by decide
  simp only [A13, bx, s1, SX, Opd.ev, resVal, resVals, ARes.val, Bool.false_eq_true, Bool.not_false, Bool.not_true, List.getD_cons_succ, List.getD_cons_zero, List.map_cons, List.map_nil, Nat.add_zero, Nat.zero_add, Option.map_none, Option.map_some, Option.some.injEq, and_true, decide_false, decide_true, true_and, reduceCtorEq, Nat.reduceEqDiff, ↓reduceIte, Int.reduceEq, Int.reduceLT, Int.reduceLE, Nat.reduceAdd]
  obtain ⟨I, hI⟩ : ∃ I : Nat → Env → AHeap → Prop, ∀ m e H', I m e H' ↔ (Keep H.next H H' ∧ ∃ k : Nat, m = t.length - k ∧ k ≤ t.length ∧ Env.get e 0 = .str t ∧ Env.get e 3 = .ptr H.next 0 ∧ Env.get e 4 = .int .i64 k ∧ PLs H.next H' H.next (PS.none.feed (t.take k))) := ⟨_, fun _ _ _ => Iff.rfl⟩
  refine loop_by I t.length ?_ ?_
  · refine (hI _ _ _).2 ⟨k1, 0, rfl, by omega, ?_⟩
    simp only [SX, Opd.ev, resVal, resVals, ARes.val, Bool.false_eq_true, Bool.not_false, Bool.not_true, List.getD_cons_succ, List.getD_cons_zero, List.map_cons, List.map_nil, Nat.add_zero, Nat.zero_add, Option.map_none, Option.map_some, Option.some.injEq, and_true, decide_false, decide_true, true_and, reduceCtorEq, Nat.reduceEqDiff, ↓reduceIte, Int.reduceEq, Int.reduceLT, Int.reduceLE, Nat.reduceAdd]
    exact ⟨rfl, [], .inl ⟨rfl, h1⟩, rfl⟩
  · intro m e H' hinv
    obtain ⟨hk, k, rfl, hkl, e0, e3, e4, hp⟩ := (hI _ _ _).1 hinv
    by_cases h2 : (k : Int) < t.length
    · have h3 : k < t.length := by omega
      have hix := idxStr_at (List.getElem?_eq_getElem h3) .i64
      have hw : IntKind.wrap .i64 ((k : Int) + 1) = ((k + 1 : Nat) : Int) := by rw [wrapI64 (by omega) (by omega)]; rfl
      simp only [e0, e3, e4, h2, hix, SX, Opd.ev, resVal, resVals, ARes.val, Bool.false_eq_true, Bool.not_false, Bool.not_true, List.getD_cons_succ, List.getD_cons_zero, List.map_cons, List.map_nil, Nat.add_zero, Nat.zero_add, Option.map_none, Option.map_some, Option.some.injEq, and_true, decide_false, decide_true, true_and, reduceCtorEq, Nat.reduceEqDiff, ↓reduceIte, Int.reduceEq, Int.reduceLT, Int.reduceLE, Nat.reduceAdd]
      refine (byte_spec hq14 ho14 hq18 ho18 (feed_good none_good) hp).mono ?_
      rintro r H2 ⟨hk2, hp2⟩
      simp only [e0, e3, e4, h2, hix, hw, SX, Opd.ev, resVal, resVals, ARes.val, Bool.false_eq_true, Bool.not_false, Bool.not_true, List.getD_cons_succ, List.getD_cons_zero, List.map_cons, List.map_nil, Nat.add_zero, Nat.zero_add, Option.map_none, Option.map_some, Option.some.injEq, and_true, decide_false, decide_true, true_and, reduceCtorEq, Nat.reduceEqDiff, ↓reduceIte, Int.reduceEq, Int.reduceLT, Int.reduceLE, Nat.reduceAdd]
      refine ⟨t.length - (k + 1), by omega, (hI _ _ _).2 ⟨hk.trans hk2, k + 1, rfl, by omega, ?_⟩⟩
      simp only [e0, e3, e4, SX, Opd.ev, resVal, resVals, ARes.val, Bool.false_eq_true, Bool.not_false, Bool.not_true, List.getD_cons_succ, List.getD_cons_zero, List.map_cons, List.map_nil, Nat.add_zero, Nat.zero_add, Option.map_none, Option.map_some, Option.some.injEq, and_true, decide_false, decide_true, true_and, reduceCtorEq, Nat.reduceEqDiff, ↓reduceIte, Int.reduceEq, Int.reduceLT, Int.reduceLE, Nat.reduceAdd]
      have : PS.none.feed (t.take (k + 1)) = (PS.none.feed (t.take k)).byte (t[k].toNat : Int) := by
        unfold PS.feed
        rw [List.take_succ_eq_append_getElem h3, List.foldl_append]
        rfl
      rw [this]; exact hp2
    · obtain rfl : k = t.length := by omega
      simp only [e0, e3, e4, h2, SX, Opd.ev, resVal, resVals, ARes.val, Bool.false_eq_true, Bool.not_false, Bool.not_true, List.getD_cons_succ, List.getD_cons_zero, List.map_cons, List.map_nil, Nat.add_zero, Nat.zero_add, Option.map_none, Option.map_some, Option.some.injEq, and_true, decide_false, decide_true, true_and, reduceCtorEq, Nat.reduceEqDiff, ↓reduceIte, Int.reduceEq, Int.reduceLT, Int.reduceLE, Nat.reduceAdd]
      rw [List.take_length] at hp
      exact ⟨hk, _, rfl, hp⟩
set_option maxHeartbeats 2000000 in
theorem clone_spec {Q : Prog} (hq : Q.fns 28 = some A28) (ho : ∀ a, Q.orc 28 a = Option.none) {base : Nat} {H : AHeap} {l : List Cel} (h : Hp base H l) {b m c : Nat} {x : List Int} {B : Blk} (hB : H.row b = some B) (hc : B.cells = ints x) (hm : x.length = m) (h0 : 0 < m) (hs : m ≤ 1000000) :
    FnTo Q 28 [.slc b 0 m c] H (fun r H' => r = .slc (H.next + 1) 0 m m ∧ Hp base H' (⟨H.next + 1, 1, ints x⟩ :: l) ∧ Keep base H H') := by
  refine fn_wp (ho _) hq (by simp [A28]) ?_
  obtain ⟨H1, s1, h1, k1⟩ := h.make [] 1
  have hb : b ≠ H.next := by
    intro hh
    have := h.fr b (by omega)
    simp [AHeap.row, this] at hB
  have hB1 : H1.row b = some B := by
    rw [← s1]
    unfold AHeap.row at hB ⊢
    rw [AHeap.get_alloc, if_neg hb]
    exact hB
  have hn1 : H1.next = H.next + 1 := by rw [← s1]; rfl
  obtain ⟨H2, s2, h2, k2⟩ := h1.clone (bytes := 8) (c2 := c) hB1 hc (by simpa using hm) (by simp [AV.one]) h0 (by omega) (by omega)
  rw [hn1] at s2 h2
  simp only [A28, s1, s2, SX, Opd.ev, resVal, resVals, ARes.val, Bool.false_eq_true, Bool.not_false, Bool.not_true, List.getD_cons_succ, List.getD_cons_zero, List.map_cons, List.map_nil, Nat.add_zero, Nat.zero_add, Option.map_none, Option.map_some, Option.some.injEq, and_true, decide_false, decide_true, true_and, reduceCtorEq, Nat.reduceEqDiff, ↓reduceIte, Int.reduceEq, Int.reduceLT, Int.reduceLE, Nat.reduceAdd]
  exact ⟨h2, k1.trans k2⟩
/-- a list of lists, its blocks its own -/
def LL (base : Nat) (H : AHeap) (v : AV) (M : List (Nat × List Int)) : Prop :=
  (M = [] ∧ v = .nils ∧ Hp base H []) ∨ ∃ b, M ≠ [] ∧ v = .slc b 0 M.length M.length ∧ Hp base H (⟨b, 1, heads M⟩ :: inner M)
theorem LL.hp {base : Nat} {H : AHeap} {v : AV} {M : List (Nat × List Int)} (h : LL base H v M) : Hp base H [] := by
  rcases h with ⟨_, _, h⟩ | ⟨b, _, _, h⟩
  · exact h
  · exact h.sub (List.nil_sublist _)
/-- one list more -/
theorem LL.push {base : Nat} {H : AHeap} {v : AV} {M : List (Nat × List Int)} {ib m tb : Nat} {l : List Int} (hv : (M = [] ∧ v = .nils ∧ Hp base H [⟨tb, 1, [.slc ib 0 m m]⟩, ⟨ib, 1, ints l⟩]) ∨ ∃ b, M ≠ [] ∧ v = .slc b 0 M.length M.length ∧ Hp base H (⟨tb, 1, [.slc ib 0 m m]⟩ :: ⟨ib, 1, ints l⟩ :: ⟨b, 1, heads M⟩ :: inner M)) (hm : l.length = m) (hs : M.length ≤ 100000) :
    ∃ w H', appendE H 1 24 v (.slc tb 0 1 1) = some (w, H') ∧ LL base H' w (M ++ [(ib, l)]) ∧ Keep base H H' := by
  have hhd : heads (M ++ [(ib, l)]) = heads M ++ [.slc ib 0 m m] := by simp [heads, hm]
  have hin : inner (M ++ [(ib, l)]) = inner M ++ [⟨ib, 1, ints l⟩] := by simp [inner]
  rcases hv with ⟨rfl, rfl, h⟩ | ⟨b, hne, rfl, h⟩
  · obtain ⟨B, r4, c4⟩ := h.rowOf (cs := [.slc ib 0 m m]) (List.mem_cons_self ..)
    obtain ⟨H5, s5, h5, k5⟩ := h.append0 (bytes := 24) (o2 := 0) (c2 := 1) (v := .slc ib 0 m m) r4 (by rw [c4]; rfl) rfl (by omega) (by omega)
    refine ⟨_, H5, s5, .inr ⟨H.next, by simp, rfl, ?_⟩, k5⟩
    rw [hhd, hin]
    exact h5.swap.drop
  · obtain ⟨B, r4, c4⟩ := h.rowOf (cs := [.slc ib 0 m m]) (List.mem_cons_self ..)
    obtain ⟨H5, s5, h5, k5⟩ := (h.rot3).append1 (bytes := 24) (o2 := 0) (c2 := 1) (v := .slc ib 0 m m) (n := M.length) (by simp [heads]) r4 (by rw [c4]; rfl) rfl (by omega) (by omega)
    refine ⟨_, H5, s5, .inr ⟨H.next, by simp, by simp, ?_⟩, k5⟩
    rw [hhd, hin]
    exact h5.swap.drop.perm (List.Perm.cons _ (List.perm_append_comm (l₁ := [_]) (l₂ := inner M)))
set_option maxHeartbeats 2000000 in
theorem all_spec {Q : Prog} (hq : Q.fns 14 = some A14) (ho : ∀ a, Q.orc 14 a = Option.none) (hq17 : Q.fns 28 = some A28) (ho17 : ∀ a, Q.orc 28 a = Option.none) {base : Nat} {H : AHeap} {p : Nat} {s : PS} (hg : s.Good) (h : PLs base H p s) :
    FnTo Q 14 [.ptr p 0] H (fun r H' => Keep H.next H H' ∧ ∃ M, LL H.next H' r M ∧ M.map (·.2) = s.L) := by
  refine fn_wp (ho _) hq (by simp [A14]) ?_
  obtain ⟨M, hp, eM⟩ := h
  have hML : M.length = s.L.length := by rw [← eM]; simp
  have hlen := hg.len
  obtain ⟨sv, l0, ln, hsv⟩ : ∃ sv, loadV H none (.ptr p 0) = some sv ∧ lngV H 1 sv = some (.int .i64 M.length) ∧ (M ≠ [] → ∃ b, sv = .slc b 0 M.length M.length ∧ Hp base H (⟨p, 3, [.slc b 0 M.length M.length, .bool s.ov, .bool s.fu]⟩ :: ⟨b, 1, heads M⟩ :: inner M)) := by
    rcases hp with ⟨rfl, hp⟩ | ⟨b, hne, hp⟩
    · exact ⟨_, hp.load (o := 0) (List.mem_cons_self ..) rfl, rfl, fun h => absurd rfl h⟩
    · exact ⟨_, hp.load (o := 0) (List.mem_cons_self ..) rfl, rfl, fun _ => ⟨b, rfl, hp⟩⟩
  have hf : ∀ b, H.next ≤ b → H.get b = Option.none := by
    rcases hp with ⟨rfl, hp⟩ | ⟨b, hne, hp⟩ <;> exact hp.fr
  simp only [A14, l0, ln, SX, Opd.ev, resVal, resVals, ARes.val, Bool.false_eq_true, Bool.not_false, Bool.not_true, List.getD_cons_succ, List.getD_cons_zero, List.map_cons, List.map_nil, Nat.add_zero, Nat.zero_add, Option.map_none, Option.map_some, Option.some.injEq, and_true, decide_false, decide_true, true_and, reduceCtorEq, Nat.reduceEqDiff, ↓reduceIte, Int.reduceEq, Int.reduceLT, Int.reduceLE, Nat.reduceAdd]
  obtain ⟨I, hI⟩ : ∃ I : Nat → Env → AHeap → Prop, ∀ m e H', I m e H' ↔ (Keep H.next H H' ∧ ∃ (k : Nat) (v : AV) (M' : List (Nat × List Int)), m = M.length - k ∧ k ≤ M.length ∧ Env.get e 3 = v ∧ Env.get e 11 = sv ∧ Env.get e 12 = .int .i64 M.length ∧ Env.get e 13 = .int .i64 k ∧ LL H.next H' v M' ∧ M'.map (·.2) = s.L.take k) := ⟨_, fun _ _ _ => Iff.rfl⟩
  refine loop_by I M.length ?_ ?_
  · refine (hI _ _ _).2 ⟨Keep.refl _ _, 0, .nils, [], rfl, by omega, ?_⟩
    simp only [SX, Opd.ev, resVal, resVals, ARes.val, Bool.false_eq_true, Bool.not_false, Bool.not_true, List.getD_cons_succ, List.getD_cons_zero, List.map_cons, List.map_nil, Nat.add_zero, Nat.zero_add, Option.map_none, Option.map_some, Option.some.injEq, and_true, decide_false, decide_true, true_and, reduceCtorEq, Nat.reduceEqDiff, ↓reduceIte, Int.reduceEq, Int.reduceLT, Int.reduceLE, Nat.reduceAdd]
    exact ⟨rfl, .inl ⟨rfl, rfl, Hp.nil H hf⟩, rfl⟩
  · intro m e H' hinv
    obtain ⟨hk, k, v, M', rfl, hkl, e3, e11, e12, e13, hv, hM'⟩ := (hI _ _ _).1 hinv
    by_cases h2 : (k : Int) < M.length
    · have h3 : k < M.length := by omega
      obtain ⟨b, rfl, hb⟩ := hsv (by intro hh; rw [hh] at h3; simp at h3)
      have hb' := hb.keep hk hv.hp.bn hv.hp.fr
      obtain ⟨⟨ib, l⟩, hx⟩ : ∃ x, M[k]? = some x := ⟨_, List.getElem?_eq_getElem h3⟩
      have hll : s.L[k]? = some l := by rw [← eM]; simp [hx]
      have hl8 := hg.el l (List.mem_of_getElem? hll)
      obtain ⟨m, hm⟩ : ∃ m, l.length = m := ⟨_, rfl⟩
      have x1 : idxSV 1 (.slc b 0 M.length M.length) (.int .i64 (k : Int)) = some (.ptr b (0 + k)) := idxSV_slc h3
      have lb := hb'.load (b := b) (o := k) (v := .slc ib 0 m m) (List.mem_cons_of_mem _ (List.mem_cons_self ..)) (by simp [heads, hx, hm])
      have hibm : (⟨ib, 1, ints l⟩ : Cel) ∈ inner M := List.mem_map.2 ⟨(ib, l), List.mem_of_getElem? hx, rfl⟩
      obtain ⟨B, rB, cB⟩ := hb'.rowOf (List.mem_cons_of_mem _ (List.mem_cons_of_mem _ hibm))
      have hw : IntKind.wrap .i64 ((k : Int) + 1) = ((k + 1 : Nat) : Int) := by rw [wrapI64 (by omega) (by omega)]; rfl
      have hM'l : M'.length = k := by
        have : (M'.map (·.2)).length = (s.L.take k).length := by rw [hM']
        simp at this; omega
      simp only [e3, e11, e12, e13, h2, x1, lb, SX, Opd.ev, resVal, resVals, ARes.val, Bool.false_eq_true, Bool.not_false, Bool.not_true, List.getD_cons_succ, List.getD_cons_zero, List.map_cons, List.map_nil, Nat.add_zero, Nat.zero_add, Option.map_none, Option.map_some, Option.some.injEq, and_true, decide_false, decide_true, true_and, reduceCtorEq, Nat.reduceEqDiff, ↓reduceIte, Int.reduceEq, Int.reduceLT, Int.reduceLE, Nat.reduceAdd]
      obtain ⟨l0, hl0, hcase⟩ : ∃ l0, Hp H.next H' l0 ∧ ((M' = [] ∧ v = .nils ∧ l0 = []) ∨ ∃ b, M' ≠ [] ∧ v = .slc b 0 M'.length M'.length ∧ l0 = ⟨b, 1, heads M'⟩ :: inner M') := by
        rcases hv with ⟨h1, h2, h3⟩ | ⟨b, h1, h2, h3⟩
        · exact ⟨_, h3, .inl ⟨h1, h2, rfl⟩⟩
        · exact ⟨_, h3, .inr ⟨b, h1, h2, rfl⟩⟩
      refine (clone_spec hq17 ho17 hl0 rB cB hm (by omega) (by omega)).mono ?_
      rintro r H2 ⟨rfl, h2', k2⟩
      obtain ⟨H3, s3, h3', k3⟩ := h2'.make [.slc (H'.next + 1) 0 m m] 1
      obtain ⟨w, H4, s4, h4, k4⟩ := LL.push (H := H3) (base := H.next) (v := v) (M := M') (ib := H'.next + 1) (m := m) (tb := H2.next) (l := l) (by
        rcases hcase with ⟨q1, q2, rfl⟩ | ⟨b, q1, q2, rfl⟩
        · exact .inl ⟨q1, q2, h3'⟩
        · exact .inr ⟨b, q1, q2, h3'⟩) hm (by omega)
      simp only [e3, e11, e12, e13, h2, x1, lb, hw, s3, s4, SX, Opd.ev, resVal, resVals, ARes.val, Bool.false_eq_true, Bool.not_false, Bool.not_true, List.getD_cons_succ, List.getD_cons_zero, List.map_cons, List.map_nil, Nat.add_zero, Nat.zero_add, Option.map_none, Option.map_some, Option.some.injEq, and_true, decide_false, decide_true, true_and, reduceCtorEq, Nat.reduceEqDiff, ↓reduceIte, Int.reduceEq, Int.reduceLT, Int.reduceLE, Nat.reduceAdd]
      refine ⟨M.length - (k + 1), by omega, (hI _ _ _).2 ⟨hk.trans (k2.trans (k3.trans k4)), k + 1, w, M' ++ [(H'.next + 1, l)], rfl, by omega, ?_⟩⟩
      simp only [e3, e11, e12, e13, SX, Opd.ev, resVal, resVals, ARes.val, Bool.false_eq_true, Bool.not_false, Bool.not_true, List.getD_cons_succ, List.getD_cons_zero, List.map_cons, List.map_nil, Nat.add_zero, Nat.zero_add, Option.map_none, Option.map_some, Option.some.injEq, and_true, decide_false, decide_true, true_and, reduceCtorEq, Nat.reduceEqDiff, ↓reduceIte, Int.reduceEq, Int.reduceLT, Int.reduceLE, Nat.reduceAdd]
      refine ⟨h4, ?_⟩
      rw [List.map_append, hM', List.take_succ_eq_append_getElem (by omega)]
      congr 1
      rw [List.getElem?_eq_getElem (by omega)] at hll
      simp only [Option.some.injEq] at hll
      rw [hll]; rfl
    · obtain rfl : k = M.length := by omega
      simp only [e3, e11, e12, e13, h2, SX, Opd.ev, resVal, resVals, ARes.val, Bool.false_eq_true, Bool.not_false, Bool.not_true, List.getD_cons_succ, List.getD_cons_zero, List.map_cons, List.map_nil, Nat.add_zero, Nat.zero_add, Option.map_none, Option.map_some, Option.some.injEq, and_true, decide_false, decide_true, true_and, reduceCtorEq, Nat.reduceEqDiff, ↓reduceIte, Int.reduceEq, Int.reduceLT, Int.reduceLE, Nat.reduceAdd]
      refine ⟨hk, M', hv, ?_⟩
      rw [hM', hML, List.take_length]
set_option maxHeartbeats 2000000 in
theorem same_spec {Q : Prog} (hq : Q.fns 12 = some A12) (ho : ∀ a, Q.orc 12 a = Option.none) {H : AHeap} {a b : AV} {L : List (List Int)} (ha : IsSl IsInts H a L) (hb : IsSl IsInts H b L) (hL : L.length ≤ 1000000) (hl : ∀ l ∈ L, l.length ≤ 1000000) :
    FnTo Q 12 [a, b] H (fun r H' => r = .bool true ∧ H' = H) := by
  refine fn_wp (ho _) hq (by simp [A12]) ?_
  have la := ha.len
  have lb := hb.len
  obtain ⟨n, hn⟩ : ∃ n, L.length = n := ⟨_, rfl⟩
  rw [hn] at la lb
  simp only [A12, la, lb, SX, Opd.ev, resVal, resVals, ARes.val, Bool.false_eq_true, Bool.not_false, Bool.not_true, List.getD_cons_succ, List.getD_cons_zero, List.map_cons, List.map_nil, Nat.add_zero, Nat.zero_add, Option.map_none, Option.map_some, Option.some.injEq, and_true, decide_false, decide_true, true_and, reduceCtorEq, Nat.reduceEqDiff, ↓reduceIte, Int.reduceEq, Int.reduceLT, Int.reduceLE, Nat.reduceAdd]
  obtain ⟨I, hI⟩ : ∃ I : Nat → Env → AHeap → Prop, ∀ m e H', I m e H' ↔ (H' = H ∧ ∃ k : Nat, m = n - k ∧ k ≤ n ∧ Env.get e 0 = a ∧ Env.get e 1 = b ∧ Env.get e 5 = .int .i64 k) := ⟨_, fun _ _ _ => Iff.rfl⟩
  refine loop_by I n ?_ ?_
  · refine (hI _ _ _).2 ⟨rfl, 0, rfl, by omega, ?_⟩
    simp only [SX, Opd.ev, resVal, resVals, ARes.val, Bool.false_eq_true, Bool.not_false, Bool.not_true, List.getD_cons_succ, List.getD_cons_zero, List.map_cons, List.map_nil, Nat.add_zero, Nat.zero_add, Option.map_none, Option.map_some, Option.some.injEq, and_true, decide_false, decide_true, true_and, reduceCtorEq, Nat.reduceEqDiff, ↓reduceIte, Int.reduceEq, Int.reduceLT, Int.reduceLE, Nat.reduceAdd]
    rfl
  · intro m e H' hinv
    obtain ⟨rfl, k, rfl, hk, e0, e1, e5⟩ := (hI _ _ _).1 hinv
    by_cases h2 : (k : Int) < n
    · have h3 : k < L.length := by omega
      obtain ⟨l, hlk⟩ : ∃ l, L[k]? = some l := ⟨_, List.getElem?_eq_getElem h3⟩
      have hll := hl l (List.mem_of_getElem? hlk)
      obtain ⟨ca, ga, ia⟩ := ha.get (i := k) (a := l) (by simpa using hlk)
      obtain ⟨cb, gb, ib⟩ := hb.get (i := k) (a := l) (by simpa using hlk)
      have xa := ha.at (i := k) (by omega) (by omega) .i64
      have xb := hb.at (i := k) (by omega) (by omega) .i64
      have la2 := IsSl.len ia
      have lb2 := IsSl.len ib
      obtain ⟨m, hm⟩ : ∃ m, l.length = m := ⟨_, rfl⟩
      rw [hm] at la2 lb2
      have hw : IntKind.wrap .i64 ((k : Int) + 1) = ((k + 1 : Nat) : Int) := by rw [wrapI64 (by omega) (by omega)]; rfl
      simp only [e0, e1, e5, la, lb, h2, xa, xb, ga, gb, la2, lb2, SX, Opd.ev, resVal, resVals, ARes.val, Bool.false_eq_true, Bool.not_false, Bool.not_true, List.getD_cons_succ, List.getD_cons_zero, List.map_cons, List.map_nil, Nat.add_zero, Nat.zero_add, Option.map_none, Option.map_some, Option.some.injEq, and_true, decide_false, decide_true, true_and, reduceCtorEq, Nat.reduceEqDiff, ↓reduceIte, Int.reduceEq, Int.reduceLT, Int.reduceLE, Nat.reduceAdd]
      obtain ⟨J, hJ⟩ : ∃ J : Nat → Env → AHeap → Prop, ∀ m' e H2, J m' e H2 ↔ (H2 = H' ∧ ∃ j : Nat, m' = m - j ∧ j ≤ m ∧ Env.get e 0 = a ∧ Env.get e 1 = b ∧ Env.get e 5 = .int .i64 k ∧ Env.get e 6 = .int .i64 j) := ⟨_, fun _ _ _ => Iff.rfl⟩
      refine loop_by J m ?_ ?_
      · refine (hJ _ _ _).2 ⟨rfl, 0, rfl, by omega, ?_⟩
        simp only [e0, e1, e5, SX, Opd.ev, resVal, resVals, ARes.val, Bool.false_eq_true, Bool.not_false, Bool.not_true, List.getD_cons_succ, List.getD_cons_zero, List.map_cons, List.map_nil, Nat.add_zero, Nat.zero_add, Option.map_none, Option.map_some, Option.some.injEq, and_true, decide_false, decide_true, true_and, reduceCtorEq, Nat.reduceEqDiff, ↓reduceIte, Int.reduceEq, Int.reduceLT, Int.reduceLE, Nat.reduceAdd]
        rfl
      · intro m' e' H2 hinv'
        obtain ⟨rfl, j, rfl, hj, f0, f1, f5, f6⟩ := (hJ _ _ _).1 hinv'
        by_cases h4 : (j : Int) < m
        · have h5 : j < l.length := by omega
          obtain ⟨x, hx⟩ : ∃ x, l[j]? = some x := ⟨_, List.getElem?_eq_getElem h5⟩
          have ya := IsSl.at ia (i := j) (by omega) (by omega) .i64
          have yb := IsSl.at ib (i := j) (by omega) (by omega) .i64
          have za := IsSl.int ia (i := j) (a := x) (by simpa using hx)
          have zb := IsSl.int ib (i := j) (a := x) (by simpa using hx)
          have hw2 : IntKind.wrap .i64 ((j : Int) + 1) = ((j + 1 : Nat) : Int) := by rw [wrapI64 (by omega) (by omega)]; rfl
          simp only [f0, f1, f5, f6, la, lb, h2, xa, xb, ga, gb, la2, lb2, h4, ya, yb, za, zb, hw2, SX, Opd.ev, resVal, resVals, ARes.val, Bool.false_eq_true, Bool.not_false, Bool.not_true, List.getD_cons_succ, List.getD_cons_zero, List.map_cons, List.map_nil, Nat.add_zero, Nat.zero_add, Option.map_none, Option.map_some, Option.some.injEq, and_true, decide_false, decide_true, true_and, reduceCtorEq, Nat.reduceEqDiff, ↓reduceIte, Int.reduceEq, Int.reduceLT, Int.reduceLE, Nat.reduceAdd]
          refine ⟨m - (j + 1), by omega, (hJ _ _ _).2 ⟨rfl, j + 1, rfl, by omega, ?_⟩⟩
          simp only [f0, f1, f5, f6, SX, Opd.ev, resVal, resVals, ARes.val, Bool.false_eq_true, Bool.not_false, Bool.not_true, List.getD_cons_succ, List.getD_cons_zero, List.map_cons, List.map_nil, Nat.add_zero, Nat.zero_add, Option.map_none, Option.map_some, Option.some.injEq, and_true, decide_false, decide_true, true_and, reduceCtorEq, Nat.reduceEqDiff, ↓reduceIte, Int.reduceEq, Int.reduceLT, Int.reduceLE, Nat.reduceAdd]
        · simp only [f0, f1, f5, f6, la, lb, h2, xa, xb, ga, gb, la2, lb2, h4, hw, SX, Opd.ev, resVal, resVals, ARes.val, Bool.false_eq_true, Bool.not_false, Bool.not_true, List.getD_cons_succ, List.getD_cons_zero, List.map_cons, List.map_nil, Nat.add_zero, Nat.zero_add, Option.map_none, Option.map_some, Option.some.injEq, and_true, decide_false, decide_true, true_and, reduceCtorEq, Nat.reduceEqDiff, ↓reduceIte, Int.reduceEq, Int.reduceLT, Int.reduceLE, Nat.reduceAdd]
          refine ⟨n - (k + 1), by omega, (hI _ _ _).2 ⟨rfl, k + 1, rfl, by omega, ?_⟩⟩
          simp only [f0, f1, f5, f6, SX, Opd.ev, resVal, resVals, ARes.val, Bool.false_eq_true, Bool.not_false, Bool.not_true, List.getD_cons_succ, List.getD_cons_zero, List.map_cons, List.map_nil, Nat.add_zero, Nat.zero_add, Option.map_none, Option.map_some, Option.some.injEq, and_true, decide_false, decide_true, true_and, reduceCtorEq, Nat.reduceEqDiff, ↓reduceIte, Int.reduceEq, Int.reduceLT, Int.reduceLE, Nat.reduceAdd]
    · simp only [e0, e1, e5, la, lb, h2, SX, Opd.ev, resVal, resVals, ARes.val, Bool.false_eq_true, Bool.not_false, Bool.not_true, List.getD_cons_succ, List.getD_cons_zero, List.map_cons, List.map_nil, Nat.add_zero, Nat.zero_add, Option.map_none, Option.map_some, Option.some.injEq, and_true, decide_false, decide_true, true_and, reduceCtorEq, Nat.reduceEqDiff, ↓reduceIte, Int.reduceEq, Int.reduceLT, Int.reduceLE, Nat.reduceAdd]
theorem LL.isSl {base : Nat} {H : AHeap} {v : AV} {M : List (Nat × List Int)} (h : LL base H v M) : IsSl IsInts H v (M.map (·.2)) := by
  rcases h with ⟨rfl, rfl, h⟩ | ⟨b, hne, rfl, h⟩
  · exact .inl ⟨rfl, rfl⟩
  · obtain ⟨B, r, c⟩ := h.rowOf (List.mem_cons_self ..)
    refine .inr ⟨b, 0, M.length, B, by simp, r, fun i l hl => ?_⟩
    obtain ⟨⟨ib, l'⟩, hx, rfl⟩ : ∃ x, M[i]? = some x ∧ x.2 = l := by simpa using hl
    refine ⟨.slc ib 0 l'.length l'.length, by rw [c]; simp [heads, hx], .inr ⟨ib, 0, l'.length, ?_⟩⟩
    have hm : (⟨ib, 1, ints l'⟩ : Cel) ∈ inner M := List.mem_map.2 ⟨(ib, l'), List.mem_of_getElem? hx, rfl⟩
    obtain ⟨B2, r2, c2⟩ := h.rowOf (List.mem_cons_of_mem _ hm)
    exact ⟨B2, rfl, r2, fun j x hx => ⟨_, by rw [c2]; simp [hx], rfl⟩⟩
theorem PLs.keep {base : Nat} {H H' : AHeap} {p : Nat} {s : PS} (h : PLs base H p s) (hk : Keep H.next H H') (hn : H.next ≤ H'.next) (hf : ∀ b, H'.next ≤ b → H'.get b = none) : PLs base H' p s := by
  obtain ⟨M, h, e⟩ := h
  refine ⟨M, ?_, e⟩
  rcases h with ⟨rfl, h⟩ | ⟨b, hne, h⟩
  · exact .inl ⟨rfl, h.keep hk hn hf⟩
  · exact .inr ⟨b, hne, h.keep hk hn hf⟩
theorem LL.keep {base : Nat} {H H' : AHeap} {v : AV} {M : List (Nat × List Int)} (h : LL base H v M) (hk : Keep H.next H H') (hn : H.next ≤ H'.next) (hf : ∀ b, H'.next ≤ b → H'.get b = none) : LL base H' v M := by
  rcases h with ⟨h1, h2, h⟩ | ⟨b, h1, h2, h⟩
  · exact .inl ⟨h1, h2, h.keep hk hn hf⟩
  · exact .inr ⟨b, h1, h2, h.keep hk hn hf⟩
theorem PLs.fr {base : Nat} {H : AHeap} {p : Nat} {s : PS} (h : PLs base H p s) : base ≤ H.next ∧ ∀ b, H.next ≤ b → H.get b = none := by
  obtain ⟨M, h, e⟩ := h
  rcases h with ⟨rfl, h⟩ | ⟨b, hne, h⟩ <;> exact ⟨h.bn, h.fr⟩
theorem good_len {s : PS} (h : s.Good) : s.L.length ≤ 1000000 ∧ ∀ l ∈ s.L, l.length ≤ 1000000 := ⟨by have := h.len; omega, fun l hl => by have := (h.el l hl).2.1; omega⟩
end Go.Proofs.YtcfjjeipdacbcaaDoor.AM
