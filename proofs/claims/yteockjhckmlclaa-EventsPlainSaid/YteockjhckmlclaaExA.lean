/-
  The parser of events, walked on the abstract machine (turned to the machine with types).
-/
import Derived.Test.YteockjhckmlclaaExS
set_option linter.unusedVariables false
set_option linter.unusedSimpArgs false
namespace Go.Proofs.Yteockjhckmlclaa.AM
open Go
abbrev ints (l : List Int) : List AV := l.map (.int .i64)
theorem resNil (e : Env) (H : AHeap) : resVal e H [] = some (.tup []) := rfl
theorem ex0 (a b : AV) : extractV 0 (.tup [a, b]) = some a := rfl
theorem ex1 (a b : AV) : extractV 1 (.tup [a, b]) = some b := rfl
theorem perm_in {α : Type} (x : α) (a l : List α) : (x :: (a ++ l)).Perm (a ++ [x] ++ l) := by
  simpa using (List.perm_middle (a := x) (l₁ := a) (l₂ := l)).symm
theorem keep_setS {base : Nat} {H : AHeap} {b : Nat} (hb : base ≤ b) (o : AObj) : Keep base H (H.set b o) := fun c hc => by rw [AHeap.get_set, if_neg (by omega)]
theorem Hp.join {base : Nat} {H H' : AHeap} {l l' : List Cel} (h : Hp base H l) (g : Gr H H') (h' : Hp H.next H' l') : Hp base H' (l' ++ l) := by
  have h2 := h.keep g.keep g.next g.fr
  refine ⟨fun x hx => ?_, ?_, fun x hx => ?_, h2.bn, h2.fr⟩
  · rcases List.mem_append.1 hx with hx | hx
    · exact h'.has x hx
    · exact h2.has x hx
  · rw [List.map_append, List.nodup_append]
    refine ⟨h'.nd, h.nd, ?_⟩
    intro a ha c hc hac
    obtain ⟨x, hx, rfl⟩ := List.mem_map.1 ha
    obtain ⟨y, hy, rfl⟩ := List.mem_map.1 hc
    have := h'.lo x hx
    have := h.lt hy
    omega
  · rcases List.mem_append.1 hx with hx | hx
    · exact Nat.le_trans h.bn (h'.lo x hx)
    · exact h.lo x hx
/-- a parser's cells, but for its list of parameters -/
structure Rst where
  c0 : AV
  c1 : AV
  c2 : AV
  c3 : AV
  c4 : AV
  c5 : AV
  c9 : AV
  c10 : AV
  c11 : AV
  c12 : AV
  c13 : AV
  c14 : AV
abbrev Rst.cs (r : Rst) (v a b : AV) : List AV := [r.c0, r.c1, r.c2, r.c3, r.c4, r.c5, v, a, b, r.c9, r.c10, r.c11, r.c12, r.c13, r.c14]

def heads (M : List (Nat × List Int)) : List AV := M.map fun x => .slc x.1 0 x.2.length x.2.length
def inner (M : List (Nat × List Int)) : List Cel := M.map fun x => ⟨x.1, 1, ints x.2⟩
/-- a list of parameters lies at p: its blocks are its own -/
def PL (ρ : Rst) (ll : List Cel) (base : Nat) (H : AHeap) (p : Nat) (M : List (Nat × List Int)) (ov fu : Bool) : Prop :=
  (M = [] ∧ Hp base H (⟨p, 1, ρ.cs .nils (.bool ov) (.bool fu)⟩ :: ll)) ∨ ∃ b, M ≠ [] ∧ Hp base H (⟨p, 1, ρ.cs (.slc b 0 M.length M.length) (.bool ov) (.bool fu)⟩ :: ⟨b, 1, heads M⟩ :: (inner M ++ ll))

set_option maxHeartbeats 1000000 in
theorem begins_spec {Q : Prog} (hq : Q.fns 70 = some A70) (ho : ∀ a, Q.orc 70 a = none) {ρ : Rst} {ll : List Cel} {base : Nat} {H : AHeap} {p : Nat} {M : List (Nat × List Int)} {ov fu : Bool} (h : PL ρ ll base H p M ov fu) (hM : M.length ≤ 16) :
    FnTo Q 70 [.ptr p 6] H (fun r H' => Keep base H H' ∧ if M.length = 16 then PL ρ ll base H' p M true false else ∃ nb, PL ρ ll base H' p (M ++ [(nb, [0])]) false false) := by
  refine fn_wp (ho _) hq (by simp [A70]) ?_
  rcases h with ⟨rfl, h⟩ | ⟨b, hne, h⟩
  · obtain ⟨H1, s1, h1, k1, _⟩ := h.store (o := 8) (v := .bool false) rfl (by simp)
    have l1 := h1.load (o := 6) (List.mem_cons_self ..) rfl
    obtain ⟨H2, s2, h2, k2, _⟩ := h1.store (o := 7) (v := .bool false) rfl (by simp)
    have l2 := h2.load (o := 7) (List.mem_cons_self ..) rfl
    have l3 := h2.load (o := 6) (List.mem_cons_self ..) rfl
    obtain ⟨H3, s3, h3, k3⟩ := h2.make [.int .i64 0] 1
    obtain ⟨H4, s4, h4, k4⟩ := h3.make [.slc H2.next 0 1 1] 1
    obtain ⟨B, r4, c4⟩ := h4.rowOf (cs := [.slc H2.next 0 1 1]) (List.mem_cons_self ..)
    obtain ⟨H5, s5, h5, k5⟩ := h4.append0 (bytes := 24) (o2 := 0) (c2 := 1) (v := .slc H2.next 0 1 1) r4 (by rw [c4]; rfl) rfl (by omega) (by omega)
    have h6 := h5.swap.drop.rot3
    obtain ⟨H7, s7, h7, k7, _⟩ := h6.store (o := 6) (v := .slc H4.next 0 1 1) rfl (by simp)
    simp only [A70, s1, l1, s2, l2, l3, s3, s4, s5, s7, SX, Opd.ev, resVal, resVals, ARes.val, Bool.false_eq_true, Bool.not_false, Bool.not_true, List.getD_cons_succ, List.getD_cons_zero, List.map_cons, List.map_nil, Nat.add_zero, Nat.zero_add, Option.map_none, Option.map_some, Option.some.injEq, and_true, decide_false, decide_true, true_and, reduceCtorEq, Nat.reduceEqDiff, ↓reduceIte, Int.reduceEq, Int.reduceLT, Int.reduceLE, Nat.reduceAdd]
    exact ⟨k1.trans (k2.trans (k3.trans (k4.trans (k5.trans k7)))), H2.next, .inr ⟨H4.next, by simp, h7⟩⟩
  · have hw : (M.length : Int) = 16 ↔ M.length = 16 := by omega
    obtain ⟨H1, s1, h1, k1, _⟩ := h.store (o := 8) (v := .bool false) rfl (by simp)
    have l1 := h1.load (o := 6) (List.mem_cons_self ..) rfl
    by_cases h16 : M.length = 16
    · have h16' : (M.length : Int) = 16 := by omega
      obtain ⟨H2, s2, h2, k2, _⟩ := h1.store (o := 7) (v := .bool true) rfl (by simp)
      have l2 := h2.load (o := 7) (List.mem_cons_self ..) rfl
      simp only [A70, s1, l1, s2, l2, h16', SX, Opd.ev, resVal, resVals, ARes.val, Bool.false_eq_true, Bool.not_false, Bool.not_true, List.getD_cons_succ, List.getD_cons_zero, List.map_cons, List.map_nil, Nat.add_zero, Nat.zero_add, Option.map_none, Option.map_some, Option.some.injEq, and_true, decide_false, decide_true, true_and, reduceCtorEq, Nat.reduceEqDiff, ↓reduceIte, Int.reduceEq, Int.reduceLT, Int.reduceLE, Nat.reduceAdd]
      rw [if_pos h16]
      exact ⟨k1.trans k2, .inr ⟨b, hne, h2⟩⟩
    · have h16' : ¬ (M.length : Int) = 16 := by omega
      obtain ⟨H2, s2, h2, k2, _⟩ := h1.store (o := 7) (v := .bool false) rfl (by simp)
      have l2 := h2.load (o := 7) (List.mem_cons_self ..) rfl
      have l3 := h2.load (o := 6) (List.mem_cons_self ..) rfl
      obtain ⟨H3, s3, h3, k3⟩ := h2.make [.int .i64 0] 1
      obtain ⟨H4, s4, h4, k4⟩ := h3.make [.slc H2.next 0 1 1] 1
      obtain ⟨B, r4, c4⟩ := h4.rowOf (cs := [.slc H2.next 0 1 1]) (List.mem_cons_self ..)
      obtain ⟨H5, s5, h5, k5⟩ := (h4.rot4).append1 (bytes := 24) (o2 := 0) (c2 := 1) (v := .slc H2.next 0 1 1) (n := M.length) (by simp [heads]) r4 (by rw [c4]; rfl) rfl (by omega) (by omega)
      have h6 := h5.swap.drop.rot3
      obtain ⟨H7, s7, h7, k7, _⟩ := h6.store (o := 6) (v := .slc H4.next 0 (M.length + 1) (M.length + 1)) rfl (by simp)
      simp only [A70, s1, l1, s2, l2, l3, s3, s4, s5, s7, h16, h16', SX, Opd.ev, resVal, resVals, ARes.val, Bool.false_eq_true, Bool.not_false, Bool.not_true, List.getD_cons_succ, List.getD_cons_zero, List.map_cons, List.map_nil, Nat.add_zero, Nat.zero_add, Option.map_none, Option.map_some, Option.some.injEq, and_true, decide_false, decide_true, true_and, reduceCtorEq, Nat.reduceEqDiff, ↓reduceIte, Int.reduceEq, Int.reduceLT, Int.reduceLE, Nat.reduceAdd]
      refine ⟨k1.trans (k2.trans (k3.trans (k4.trans (k5.trans k7)))), H2.next, .inr ⟨H4.next, by simp, ?_⟩⟩
      have e1 : heads (M ++ [(H2.next, [0])]) = heads M ++ [.slc H2.next 0 1 1] := by simp [heads]
      have e2 : inner (M ++ [(H2.next, [0])]) = inner M ++ [⟨H2.next, 1, [.int .i64 0]⟩] := by simp [inner]
      rw [e1, e2, List.length_append]
      exact h7.perm (List.Perm.cons _ (List.Perm.cons _ (perm_in _ (inner M) ll)))

/-- the list as numbers -/
structure PS where
  L : List (List Int)
  ov : Bool
  fu : Bool
def PS.begins (s : PS) : PS := if s.L.length = 16 then ⟨s.L, true, false⟩ else ⟨s.L ++ [[0]], false, false⟩
def PS.last (c : Int) (init : List (List Int)) (l : List Int) (s : PS) : PS :=
  if c = 59 then s.begins else if s.fu = true then s else
  if c = 58 then (if l.length = 8 then ⟨s.L, s.ov, true⟩ else ⟨init ++ [l ++ [0]], s.ov, s.fu⟩)
  else ⟨init ++ [l.set (l.length - 1) (min (10 * l.getD (l.length - 1) 0 + (c - 48)) 9999)], s.ov, s.fu⟩
def PS.step (c : Int) (s : PS) : PS := s.last c s.L.dropLast (s.L.getLastD [])
def PS.byte (c : Int) (s : PS) : PS :=
  if s.ov = true ∨ c < 48 ∨ 59 < c then s else PS.step c (if s.L.length = 0 then s.begins else s)
structure PS.Good (s : PS) : Prop where
  len : s.L.length ≤ 16
  el : ∀ l ∈ s.L, 1 ≤ l.length ∧ l.length ≤ 8 ∧ ∀ x ∈ l, 0 ≤ x ∧ x ≤ 9999
def PLs (ρ : Rst) (ll : List Cel) (base : Nat) (H : AHeap) (p : Nat) (s : PS) : Prop := ∃ M, PL ρ ll base H p M s.ov s.fu ∧ M.map (·.2) = s.L
theorem begins_pls {Q : Prog} (hq : Q.fns 70 = some A70) (ho : ∀ a, Q.orc 70 a = none) {ρ : Rst} {ll : List Cel} {base : Nat} {H : AHeap} {p : Nat} {s : PS} (h : PLs ρ ll base H p s) (hM : s.L.length ≤ 16) :
    FnTo Q 70 [.ptr p 6] H (fun r H' => Keep base H H' ∧ PLs ρ ll base H' p s.begins) := by
  obtain ⟨M, h, e⟩ := h
  have hl : M.length = s.L.length := by rw [← e]; simp
  refine (begins_spec hq ho h (by omega)).mono ?_
  rintro r H' ⟨hk, hp⟩
  refine ⟨hk, ?_⟩
  unfold PS.begins
  by_cases h16 : M.length = 16
  · rw [if_pos h16] at hp
    rw [if_pos (by omega)]
    exact ⟨M, hp, e⟩
  · rw [if_neg h16] at hp
    rw [if_neg (by omega)]
    obtain ⟨nb, hp⟩ := hp
    exact ⟨_, hp, by simp [e]⟩
theorem begins_good {s : PS} (h : s.Good) : s.begins.Good := by
  unfold PS.begins
  split
  · exact ⟨h.len, h.el⟩
  · rename_i hh
    refine ⟨by have := h.len; simp; omega, fun l hl => ?_⟩
    rcases List.mem_append.1 hl with hl | hl
    · exact h.el l hl
    · simp at hl; subst hl; simp

theorem mkPL {ρ : Rst} {ll : List Cel} {base : Nat} {H : AHeap} {p b ib n m : Nat} {init : List (Nat × List Int)} {l : List Int} {ov fu : Bool} (h : Hp base H (⟨p, 1, ρ.cs (.slc b 0 n n) (.bool ov) (.bool fu)⟩ :: ⟨b, 1, heads init ++ [.slc ib 0 m m]⟩ :: ⟨ib, 1, ints l⟩ :: (inner init ++ ll))) (hn : n = init.length + 1) (hm : l.length = m) : PL ρ ll base H p (init ++ [(ib, l)]) ov fu := by
  refine .inr ⟨b, by simp, ?_⟩
  have hin : inner (init ++ [(ib, l)]) = inner init ++ [⟨ib, 1, ints l⟩] := by simp [inner]
  have hhd : heads (init ++ [(ib, l)]) = heads init ++ [.slc ib 0 l.length l.length] := by simp [heads]
  have hn2 : (init ++ [(ib, l)]).length = n := by rw [hn]; simp
  rw [hin, hhd, hn2, hm]
  exact h.perm (List.Perm.cons _ (List.Perm.cons _ (perm_in _ (inner init) ll)))
abbrev A57r : ACode := sndC (sndC A57.body)
set_option maxHeartbeats 2000000 in
theorem byte_last {Q : Prog} (hq70 : Q.fns 70 = some A70) (ho70 : ∀ a, Q.orc 70 a = none) {ρ : Rst} {ll : List Cel} {base : Nat} {H : AHeap} {p : Nat} {c : Int} (hc : 48 ≤ c ∧ c ≤ 59) {s : PS} (hg : s.Good) (h : PLs ρ ll base H p s) (hne : s.L ≠ []) {e : Env} (e0 : Env.get e 0 = .ptr p 6) (e1 : Env.get e 1 = .int .u8 c)
    {res : List ARes} (hres : res = []) {K : AV → AHeap → Prop} (hK : ∀ r H', Keep base H H' → PLs ρ ll base H' p (PS.step c s) → K r H') : ACode.wp Q A57r (fnK res K) e H := by
  subst hres
  obtain ⟨M, hp, eM⟩ := h
  rcases hp with ⟨rfl, _⟩ | ⟨b, hMne, hp⟩
  · exact absurd (by rw [← eM]; rfl) hne
  obtain ⟨init, ⟨ib, l⟩, rfl⟩ : ∃ init x, M = init ++ [x] := ⟨M.dropLast, M.getLast hMne, (List.dropLast_concat_getLast hMne).symm⟩
  have hL : s.L = init.map (·.2) ++ [l] := by rw [← eM]; simp
  have hin : inner (init ++ [(ib, l)]) = inner init ++ [⟨ib, 1, ints l⟩] := by simp [inner]
  have hhd : heads (init ++ [(ib, l)]) = heads init ++ [.slc ib 0 l.length l.length] := by simp [heads]
  rw [hin] at hp
  have hl8 := hg.el l (by rw [hL]; simp)
  have hlen := hg.len
  have hlen' : init.length + 1 ≤ 16 := by rw [hL] at hlen; simpa using hlen
  obtain ⟨n, hn⟩ : ∃ n, n = init.length + 1 := ⟨_, rfl⟩
  have hn2 : (init ++ [(ib, l)]).length = n := by rw [hn]; simp
  obtain ⟨m, hm⟩ : ∃ m, l.length = m := ⟨_, rfl⟩
  rw [hhd, hn2, hm] at hp
  have hp : Hp base H (⟨p, 1, ρ.cs (.slc b 0 n n) (.bool s.ov) (.bool s.fu)⟩ :: ⟨b, 1, heads init ++ [.slc ib 0 m m]⟩ :: ⟨ib, 1, ints l⟩ :: (inner init ++ ll)) :=
    hp.perm (List.Perm.cons _ (List.Perm.cons _ (perm_in _ (inner init) ll).symm))
  have hpls : PLs ρ ll base H p s := ⟨_, mkPL hp hn hm, eM⟩
  have hstep : PS.step c s = s.last c (init.map (·.2)) l := by unfold PS.step; rw [hL]; simp
  have w1 : IntKind.wrap .i64 ((n : Int) - 1) = (init.length : Int) := by rw [wrapI64 (by omega) (by omega)]; omega
  have x1 : idxSV 1 (.slc b 0 n n) (.int .i64 (init.length : Int)) = some (.ptr b (0 + init.length)) := idxSV_slc (by omega)
  have l0 := hp.load (o := 6) (List.mem_cons_self ..) rfl
  have l2 := hp.load (o := 8) (List.mem_cons_self ..) rfl
  have lb := hp.load (b := b) (o := init.length) (v := .slc ib 0 m m) (List.mem_cons_of_mem _ (List.mem_cons_self ..)) (by simp [heads])
  have w2 : IntKind.wrap .i64 ((m : Int) - 1) = ((m - 1 : Nat) : Int) := by rw [wrapI64 (by omega) (by omega)]; omega
  by_cases h59 : c = 59
  · subst h59
    simp only [A57r, A57, sndC, e0, e1, l0, l2, lb, w1, w2, x1, SX, Opd.ev, resVal, resVals, ARes.val, Bool.false_eq_true, Bool.not_false, Bool.not_true, List.getD_cons_succ, List.getD_cons_zero, List.map_cons, List.map_nil, Nat.add_zero, Nat.zero_add, Option.map_none, Option.map_some, Option.some.injEq, and_true, decide_false, decide_true, true_and, reduceCtorEq, Nat.reduceEqDiff, ↓reduceIte, Int.reduceEq, Int.reduceLT, Int.reduceLE, Nat.reduceAdd]
    refine (begins_pls hq70 ho70 hpls hg.len).mono ?_
    rintro r H' ⟨hk, hq⟩
    simp only [A57r, A57, sndC, e0, e1, l0, l2, lb, w1, w2, x1, SX, Opd.ev, resVal, resVals, ARes.val, Bool.false_eq_true, Bool.not_false, Bool.not_true, List.getD_cons_succ, List.getD_cons_zero, List.map_cons, List.map_nil, Nat.add_zero, Nat.zero_add, Option.map_none, Option.map_some, Option.some.injEq, and_true, decide_false, decide_true, true_and, reduceCtorEq, Nat.reduceEqDiff, ↓reduceIte, Int.reduceEq, Int.reduceLT, Int.reduceLE, Nat.reduceAdd]
    refine hK _ _ hk ?_
    rw [hstep]; exact hq
  by_cases hfu : s.fu = true
  · simp only [A57r, A57, sndC, e0, e1, l0, l2, lb, w1, w2, x1, h59, hfu, SX, Opd.ev, resVal, resVals, ARes.val, Bool.false_eq_true, Bool.not_false, Bool.not_true, List.getD_cons_succ, List.getD_cons_zero, List.map_cons, List.map_nil, Nat.add_zero, Nat.zero_add, Option.map_none, Option.map_some, Option.some.injEq, and_true, decide_false, decide_true, true_and, reduceCtorEq, Nat.reduceEqDiff, ↓reduceIte, Int.reduceEq, Int.reduceLT, Int.reduceLE, Nat.reduceAdd]
    refine hK _ _ (Keep.refl _ _) ?_
    rw [hstep]
    unfold PS.last
    rw [if_neg h59, if_pos hfu]
    exact hpls
  have hfu' : s.fu = false := by simpa using hfu
  have hmap : ∀ (i' : Nat) (l' : List Int), (init ++ [(i', l')]).map (·.2) = init.map (·.2) ++ [l'] := by intro i' l'; simp
  by_cases h58 : c = 58
  · subst h58
    by_cases h8 : m = 8
    · have h8' : (((m - 1 : Nat) : Int) + 1 = 8) := by omega
      have w3 : IntKind.wrap .i64 (((m - 1 : Nat) : Int) + 1) = 8 := by rw [wrapI64 (by omega) (by omega)]; omega
      obtain ⟨H1, s1, h1, k1, _⟩ := hp.store (o := 8) (v := .bool true) rfl (by simp)
      simp only [A57r, A57, sndC, e0, e1, l0, l2, lb, w1, w2, w3, x1, hfu', s1, SX, Opd.ev, resVal, resVals, ARes.val, Bool.false_eq_true, Bool.not_false, Bool.not_true, List.getD_cons_succ, List.getD_cons_zero, List.map_cons, List.map_nil, Nat.add_zero, Nat.zero_add, Option.map_none, Option.map_some, Option.some.injEq, and_true, decide_false, decide_true, true_and, reduceCtorEq, Nat.reduceEqDiff, ↓reduceIte, Int.reduceEq, Int.reduceLT, Int.reduceLE, Nat.reduceAdd]
      refine hK _ _ k1 ?_
      rw [hstep]
      unfold PS.last
      rw [if_neg (by omega), if_neg hfu, if_pos rfl, if_pos (by omega)]
      exact ⟨_, mkPL h1 hn hm, eM⟩
    · have w3 : IntKind.wrap .i64 (((m - 1 : Nat) : Int) + 1) = (m : Int) := by rw [wrapI64 (by omega) (by omega)]; omega
      have h8' : ¬ (m : Int) = 8 := by omega
      obtain ⟨H1, s1, h1, k1⟩ := hp.make [.int .i64 0] 1
      obtain ⟨B, r1, c1⟩ := h1.rowOf (cs := [.int .i64 0]) (List.mem_cons_self ..)
      obtain ⟨H2, s2, h2, k2⟩ := (h1.rot4).append1 (bytes := 8) (o2 := 0) (c2 := 1) (v := .int .i64 0) (n := m) (by simp [hm]) r1 (by rw [c1]; rfl) rfl (by omega) (by omega)
      have h3 := h2.swap.drop.rot3
      obtain ⟨H3, s3, h4, k3, _⟩ := h3.store (o := init.length) (v := .slc H1.next 0 (m + 1) (m + 1)) rfl (by simp [heads])
      have h5 : Hp base H3 (⟨b, 1, heads init ++ [.slc H1.next 0 (m + 1) (m + 1)]⟩ :: ⟨H1.next, 1, ints (l ++ [0])⟩ :: ⟨p, 1, ρ.cs (.slc b 0 n n) (.bool s.ov) (.bool s.fu)⟩ :: (inner init ++ ll)) := by
        have e1 : (heads init ++ [AV.slc ib 0 m m]).set init.length (.slc H1.next 0 (m + 1) (m + 1)) = heads init ++ [.slc H1.next 0 (m + 1) (m + 1)] := by simp [heads]
        have e2 : ints (l ++ [0]) = ints l ++ [.int .i64 0] := by simp
        rw [e1] at h4
        rw [e2]; exact h4
      simp only [A57r, A57, sndC, e0, e1, l0, l2, lb, w1, w2, w3, x1, hfu', h8', s1, s2, s3, SX, Opd.ev, resVal, resVals, ARes.val, Bool.false_eq_true, Bool.not_false, Bool.not_true, List.getD_cons_succ, List.getD_cons_zero, List.map_cons, List.map_nil, Nat.add_zero, Nat.zero_add, Option.map_none, Option.map_some, Option.some.injEq, and_true, decide_false, decide_true, true_and, reduceCtorEq, Nat.reduceEqDiff, ↓reduceIte, Int.reduceEq, Int.reduceLT, Int.reduceLE, Nat.reduceAdd]
      refine hK _ _ (k1.trans (k2.trans k3)) ?_
      rw [hstep]
      unfold PS.last
      rw [if_neg (by omega), if_neg hfu, if_pos rfl, if_neg (by omega)]
      exact ⟨_, mkPL h5.rot3 hn (by simp [hm]), by rw [hmap]⟩
  · have h58' : ¬ c = 58 := h58
    obtain ⟨x, hx⟩ : ∃ x, l.getD (m - 1) 0 = x := ⟨_, rfl⟩
    have hxm : l[m - 1]? = some x := by
      rw [List.getD_eq_getElem?_getD, List.getElem?_eq_getElem (by omega)] at hx
      rw [List.getElem?_eq_getElem (by omega), ← hx]; rfl
    have hxr := hl8.2.2 x (List.mem_of_getElem? hxm)
    have lx := hp.load (b := ib) (o := m - 1) (v := .int .i64 x) (List.mem_cons_of_mem _ (List.mem_cons_of_mem _ (List.mem_cons_self ..))) (by simp [hxm])
    have x2 : idxSV 1 (.slc ib 0 m m) (.int .i64 ((m - 1 : Nat) : Int)) = some (.ptr ib (0 + (m - 1))) := idxSV_slc (by omega)
    have w4 : IntKind.wrap .i64 (10 * x) = 10 * x := wrapI64 (by omega) (by omega)
    have w5 : IntKind.wrap .u8 (c - 48) = c - 48 := by simp [IntKind.wrap, IntKind.signed, IntKind.bits]; omega
    have w6 : IntKind.wrap .i64 (c - 48) = c - 48 := wrapI64 (by omega) (by omega)
    have w7 : IntKind.wrap .i64 (10 * x + (c - 48)) = 10 * x + (c - 48) := wrapI64 (by omega) (by omega)
    obtain ⟨H1, s1, h1, k1, _⟩ := (hp.rot3).store (o := m - 1) (v := .int .i64 (min (10 * x + (c - 48)) 9999)) rfl (by simp; omega)
    have h2 : Hp base H1 (⟨ib, 1, ints (l.set (m - 1) (min (10 * x + (c - 48)) 9999))⟩ :: ⟨p, 1, ρ.cs (.slc b 0 n n) (.bool s.ov) (.bool s.fu)⟩ :: ⟨b, 1, heads init ++ [.slc ib 0 m m]⟩ :: (inner init ++ ll)) := by
      have e1 : (ints l).set (m - 1) (.int .i64 (min (10 * x + (c - 48)) 9999)) = ints (l.set (m - 1) (min (10 * x + (c - 48)) 9999)) := by simp [List.map_set]
      rw [e1] at h1; exact h1
    simp only [A57r, A57, sndC, e0, e1, l0, l2, lb, w1, w2, x1, hfu', h59, h58', lx, x2, w4, w5, w6, w7, s1, SX, Opd.ev, resVal, resVals, ARes.val, Bool.false_eq_true, Bool.not_false, Bool.not_true, List.getD_cons_succ, List.getD_cons_zero, List.map_cons, List.map_nil, Nat.add_zero, Nat.zero_add, Option.map_none, Option.map_some, Option.some.injEq, and_true, decide_false, decide_true, true_and, reduceCtorEq, Nat.reduceEqDiff, ↓reduceIte, Int.reduceEq, Int.reduceLT, Int.reduceLE, Nat.reduceAdd]
    refine hK _ _ k1 ?_
    rw [hstep]
    unfold PS.last
    rw [if_neg h59, if_neg hfu, if_neg h58]
    exact ⟨_, mkPL h2.rot3.rot3 hn (by simp [hm]), by rw [hmap, hm, hx]⟩
theorem pls_ov {ρ : Rst} {ll : List Cel} {base : Nat} {H : AHeap} {p : Nat} {s : PS} (h : PLs ρ ll base H p s) : loadV H none (.ptr p 7) = some (.bool s.ov) := by
  obtain ⟨M, h, e⟩ := h
  rcases h with ⟨rfl, h⟩ | ⟨b, hne, h⟩ <;> exact h.load (o := 7) (List.mem_cons_self ..) rfl
theorem pls_len {ρ : Rst} {ll : List Cel} {base : Nat} {H : AHeap} {p : Nat} {s : PS} (h : PLs ρ ll base H p s) : ∃ sv, loadV H none (.ptr p 6) = some sv ∧ lngV H 1 sv = some (.int .i64 s.L.length) := by
  obtain ⟨M, h, e⟩ := h
  have hl : s.L.length = M.length := by rw [← e]; simp
  rw [hl]
  rcases h with ⟨rfl, h⟩ | ⟨b, hne, h⟩
  · exact ⟨_, h.load (o := 6) (List.mem_cons_self ..) rfl, rfl⟩
  · exact ⟨_, h.load (o := 6) (List.mem_cons_self ..) rfl, rfl⟩
set_option maxHeartbeats 2000000 in
theorem byte_spec {Q : Prog} (hq : Q.fns 57 = some A57) (ho : ∀ a, Q.orc 57 a = none) (hq70 : Q.fns 70 = some A70) (ho70 : ∀ a, Q.orc 70 a = none) {ρ : Rst} {ll : List Cel} {base : Nat} {H : AHeap} {p : Nat} {c : Int} {s : PS} (hg : s.Good) (h : PLs ρ ll base H p s) :
    FnTo Q 57 [.ptr p 6, .int .u8 c] H (fun r H' => Keep base H H' ∧ PLs ρ ll base H' p (s.byte c)) := by
  refine fn_wp (ho _) hq (by simp [A57]) ?_
  have l1 := pls_ov h
  obtain ⟨sv, l0, ln⟩ := pls_len h
  by_cases hov : s.ov = true
  · rw [hov] at l1
    simp only [A57, l1, SX, Opd.ev, resVal, resVals, ARes.val, Bool.false_eq_true, Bool.not_false, Bool.not_true, List.getD_cons_succ, List.getD_cons_zero, List.map_cons, List.map_nil, Nat.add_zero, Nat.zero_add, Option.map_none, Option.map_some, Option.some.injEq, and_true, decide_false, decide_true, true_and, reduceCtorEq, Nat.reduceEqDiff, ↓reduceIte, Int.reduceEq, Int.reduceLT, Int.reduceLE, Nat.reduceAdd]
    exact ⟨Keep.refl _ _, by unfold PS.byte; rw [if_pos (.inl hov)]; exact h⟩
  have hov' : s.ov = false := by simpa using hov
  rw [hov'] at l1
  by_cases h48 : c < 48
  · simp only [A57, l1, h48, SX, Opd.ev, resVal, resVals, ARes.val, Bool.false_eq_true, Bool.not_false, Bool.not_true, List.getD_cons_succ, List.getD_cons_zero, List.map_cons, List.map_nil, Nat.add_zero, Nat.zero_add, Option.map_none, Option.map_some, Option.some.injEq, and_true, decide_false, decide_true, true_and, reduceCtorEq, Nat.reduceEqDiff, ↓reduceIte, Int.reduceEq, Int.reduceLT, Int.reduceLE, Nat.reduceAdd]
    exact ⟨Keep.refl _ _, by unfold PS.byte; rw [if_pos (.inr (.inl h48))]; exact h⟩
  by_cases h59 : 59 < c
  · simp only [A57, l1, h48, h59, SX, Opd.ev, resVal, resVals, ARes.val, Bool.false_eq_true, Bool.not_false, Bool.not_true, List.getD_cons_succ, List.getD_cons_zero, List.map_cons, List.map_nil, Nat.add_zero, Nat.zero_add, Option.map_none, Option.map_some, Option.some.injEq, and_true, decide_false, decide_true, true_and, reduceCtorEq, Nat.reduceEqDiff, ↓reduceIte, Int.reduceEq, Int.reduceLT, Int.reduceLE, Nat.reduceAdd]
    exact ⟨Keep.refl _ _, by unfold PS.byte; rw [if_pos (.inr (.inr h59))]; exact h⟩
  have hb : s.byte c = PS.step c (if s.L.length = 0 then s.begins else s) := by unfold PS.byte; rw [if_neg (by simp [hov']; omega)]
  rw [hb]
  obtain ⟨s1, hs1⟩ : ∃ s1, (if s.L.length = 0 then s.begins else s) = s1 := ⟨_, rfl⟩
  rw [hs1]
  have hg1 : s1.Good := by
    rw [← hs1]
    split
    · exact begins_good hg
    · exact hg
  have hne1 : s1.L ≠ [] := by
    rw [← hs1]
    split
    · rename_i h0
      unfold PS.begins
      rw [if_neg (by omega)]
      simp
    · rename_i h0
      intro hh; rw [hh] at h0; simp at h0
  obtain ⟨K, hK⟩ : ∃ K : AV → AHeap → Prop, K = fun r H' => Keep base H H' ∧ PLs ρ ll base H' p (PS.step c s1) := ⟨_, rfl⟩
  rw [← hK]
  have key : ∀ (e : Env) (H' : AHeap), Keep base H H' → PLs ρ ll base H' p s1 → Env.get e 0 = .ptr p 6 → Env.get e 1 = .int .u8 c → ACode.wp Q (sndC (sndC A57.body)) (fnK A57.res K) e H' := by
    intro e H' hk hp e0 e1
    refine byte_last hq70 ho70 (by omega) hg1 hp hne1 e0 e1 rfl ?_
    intro r H2 hk2 hp2
    rw [hK]
    exact ⟨hk.trans hk2, hp2⟩
  have second : ∀ (e : Env), Env.get e 0 = .ptr p 6 → Env.get e 1 = .int .u8 c → ACode.wp Q (sndC A57.body) (fnK A57.res K) e H := by
    intro e e0 e1
    rw [wp_parts (sndC A57.body) rfl]
    generalize ACode.wp Q (sndC (sndC A57.body)) (fnK A57.res K) = kr at key ⊢
    by_cases h0 : s.L.length = 0
    · have h0' : (s.L.length : Int) = 0 := by omega
      rw [if_pos h0] at hs1
      simp only [A57, sndC, fstC, e0, e1, l0, ln, h0', SX, Opd.ev, resVal, resVals, ARes.val, Bool.false_eq_true, Bool.not_false, Bool.not_true, List.getD_cons_succ, List.getD_cons_zero, List.map_cons, List.map_nil, Nat.add_zero, Nat.zero_add, Option.map_none, Option.map_some, Option.some.injEq, and_true, decide_false, decide_true, true_and, reduceCtorEq, Nat.reduceEqDiff, ↓reduceIte, Int.reduceEq, Int.reduceLT, Int.reduceLE, Nat.reduceAdd]
      refine (begins_pls hq70 ho70 h hg.len).mono ?_
      rintro r H' ⟨hk, hp⟩
      simp only [SX, Opd.ev, resVal, resVals, ARes.val, Bool.false_eq_true, Bool.not_false, Bool.not_true, List.getD_cons_succ, List.getD_cons_zero, List.map_cons, List.map_nil, Nat.add_zero, Nat.zero_add, Option.map_none, Option.map_some, Option.some.injEq, and_true, decide_false, decide_true, true_and, reduceCtorEq, Nat.reduceEqDiff, ↓reduceIte, Int.reduceEq, Int.reduceLT, Int.reduceLE, Nat.reduceAdd]
      refine key _ _ hk (hs1 ▸ hp) ?_ ?_ <;> simp only [e0, e1, SX, Opd.ev, resVal, resVals, ARes.val, Bool.false_eq_true, Bool.not_false, Bool.not_true, List.getD_cons_succ, List.getD_cons_zero, List.map_cons, List.map_nil, Nat.add_zero, Nat.zero_add, Option.map_none, Option.map_some, Option.some.injEq, and_true, decide_false, decide_true, true_and, reduceCtorEq, Nat.reduceEqDiff, ↓reduceIte, Int.reduceEq, Int.reduceLT, Int.reduceLE, Nat.reduceAdd]
    · have h0' : ¬ (s.L.length : Int) = 0 := by omega
      rw [if_neg h0] at hs1
      simp only [A57, sndC, fstC, e0, e1, l0, ln, h0', SX, Opd.ev, resVal, resVals, ARes.val, Bool.false_eq_true, Bool.not_false, Bool.not_true, List.getD_cons_succ, List.getD_cons_zero, List.map_cons, List.map_nil, Nat.add_zero, Nat.zero_add, Option.map_none, Option.map_some, Option.some.injEq, and_true, decide_false, decide_true, true_and, reduceCtorEq, Nat.reduceEqDiff, ↓reduceIte, Int.reduceEq, Int.reduceLT, Int.reduceLE, Nat.reduceAdd]
      refine key _ _ (Keep.refl _ _) (hs1 ▸ h) ?_ ?_ <;> simp only [e0, e1, SX, Opd.ev, resVal, resVals, ARes.val, Bool.false_eq_true, Bool.not_false, Bool.not_true, List.getD_cons_succ, List.getD_cons_zero, List.map_cons, List.map_nil, Nat.add_zero, Nat.zero_add, Option.map_none, Option.map_some, Option.some.injEq, and_true, decide_false, decide_true, true_and, reduceCtorEq, Nat.reduceEqDiff, ↓reduceIte, Int.reduceEq, Int.reduceLT, Int.reduceLE, Nat.reduceAdd]
  rw [wp_parts A57.body rfl]
  generalize ACode.wp Q (sndC A57.body) (fnK A57.res K) = kr at second ⊢
  simp only [A57, sndC, fstC, l1, h48, h59, SX, Opd.ev, resVal, resVals, ARes.val, Bool.false_eq_true, Bool.not_false, Bool.not_true, List.getD_cons_succ, List.getD_cons_zero, List.map_cons, List.map_nil, Nat.add_zero, Nat.zero_add, Option.map_none, Option.map_some, Option.some.injEq, and_true, decide_false, decide_true, true_and, reduceCtorEq, Nat.reduceEqDiff, ↓reduceIte, Int.reduceEq, Int.reduceLT, Int.reduceLE, Nat.reduceAdd]
  refine second _ ?_ ?_ <;> simp only [SX, Opd.ev, resVal, resVals, ARes.val, Bool.false_eq_true, Bool.not_false, Bool.not_true, List.getD_cons_succ, List.getD_cons_zero, List.map_cons, List.map_nil, Nat.add_zero, Nat.zero_add, Option.map_none, Option.map_some, Option.some.injEq, and_true, decide_false, decide_true, true_and, reduceCtorEq, Nat.reduceEqDiff, ↓reduceIte, Int.reduceEq, Int.reduceLT, Int.reduceLE, Nat.reduceAdd]
theorem last_good {c : Int} (hc : 48 ≤ c ∧ c ≤ 59) {s : PS} (h : s.Good) {init : List (List Int)} {l : List Int} (e : s.L = init ++ [l]) : (s.last c init l).Good := by
  have hlen := h.len
  rw [e] at hlen
  have hi : ∀ x ∈ init, _ := fun x hx => h.el x (by rw [e]; simp [hx])
  have hl := h.el l (by rw [e]; simp)
  unfold PS.last
  split
  · exact begins_good h
  · split
    · exact h
    · split
      · split
        · exact ⟨h.len, h.el⟩
        · refine ⟨by simpa using hlen, fun x hx => ?_⟩
          rcases List.mem_append.1 hx with hx | hx
          · exact hi x hx
          · simp at hx; subst hx
            refine ⟨by simp, by simp; omega, fun y hy => ?_⟩
            rcases List.mem_append.1 hy with hy | hy
            · exact hl.2.2 y hy
            · simp at hy; omega
      · refine ⟨by simpa using hlen, fun x hx => ?_⟩
        rcases List.mem_append.1 hx with hx | hx
        · exact hi x hx
        · simp at hx; subst hx
          refine ⟨by simpa using hl.1, by simpa using hl.2.1, fun y hy => ?_⟩
          rcases List.mem_or_eq_of_mem_set hy with hy | rfl
          · exact hl.2.2 y hy
          · have : 0 ≤ l[l.length - 1]?.getD 0 := by
              rw [List.getElem?_eq_getElem (by omega)]
              exact (hl.2.2 _ (List.getElem_mem _)).1
            omega
theorem byte_good {c : Int} {s : PS} (h : s.Good) : (s.byte c).Good := by
  unfold PS.byte
  split
  · exact h
  · rename_i hc
    obtain ⟨s1, hs1⟩ : ∃ s1, (if s.L.length = 0 then s.begins else s) = s1 := ⟨_, rfl⟩
    rw [hs1]
    have hg1 : s1.Good := by
      rw [← hs1]
      split
      · exact begins_good h
      · exact h
    have hne1 : s1.L ≠ [] := by
      rw [← hs1]
      split
      · rename_i h0
        unfold PS.begins
        rw [if_neg (by omega)]
        simp
      · rename_i h0
        intro hh; rw [hh] at h0; simp at h0
    unfold PS.step
    refine last_good (by simp only [not_or, Int.not_lt] at hc; omega) hg1 ?_
    rw [List.getLastD_eq_getLast?, List.getLast?_eq_some_getLast hne1]
    exact (List.dropLast_concat_getLast hne1).symm
def PS.none : PS := ⟨[], false, false⟩
theorem none_good : PS.none.Good := ⟨by simp [PS.none], fun l hl => by simp [PS.none] at hl⟩
def PS.feed (s : PS) (t : List UInt8) : PS := t.foldl (fun s b => s.byte (b.toNat : Int)) s
theorem feed_good : ∀ {t : List UInt8} {s : PS}, s.Good → (s.feed t).Good
  | [], s, h => h
  | b :: t, s, h => feed_good (t := t) (byte_good h)
set_option maxHeartbeats 2000000 in
theorem clone_spec {Q : Prog} (hq : Q.fns 68 = some A68) (ho : ∀ a, Q.orc 68 a = Option.none) {base : Nat} {H : AHeap} {l : List Cel} (h : Hp base H l) {b m c : Nat} {x : List Int} {B : Blk} (hB : H.row b = some B) (hc : B.cells = ints x) (hm : x.length = m) (h0 : 0 < m) (hs : m ≤ 1000000) :
    FnTo Q 68 [.slc b 0 m c] H (fun r H' => r = .slc (H.next + 1) 0 m m ∧ Hp base H' (⟨H.next + 1, 1, ints x⟩ :: l) ∧ Keep base H H') := by
  refine fn_wp (ho _) hq (by simp [A68]) ?_
  obtain ⟨H1, s1, h1, k1⟩ := h.make [] 1
  have hb : b ≠ H.next := by
    intro hh
    have := h.fr b (by omega)
    simp [AHeap.row, this] at hB
  have hB1 : H1.row b = some B := by
    rw [← s1]
    unfold AHeap.row at hB ⊢
    rw [AHeap.get_alloc, if_neg hb]
    exact hB
  have hn1 : H1.next = H.next + 1 := by rw [← s1]; rfl
  obtain ⟨H2, s2, h2, k2⟩ := h1.clone (bytes := 8) (c2 := c) hB1 hc (by simpa using hm) (by simp [AV.one]) h0 (by omega) (by omega)
  rw [hn1] at s2 h2
  simp only [A68, s1, s2, SX, Opd.ev, resVal, resVals, ARes.val, Bool.false_eq_true, Bool.not_false, Bool.not_true, List.getD_cons_succ, List.getD_cons_zero, List.map_cons, List.map_nil, Nat.add_zero, Nat.zero_add, Option.map_none, Option.map_some, Option.some.injEq, and_true, decide_false, decide_true, true_and, reduceCtorEq, Nat.reduceEqDiff, ↓reduceIte, Int.reduceEq, Int.reduceLT, Int.reduceLE, Nat.reduceAdd]
  exact ⟨h2, k1.trans k2⟩
/-- a list of lists, its blocks its own -/
def LL (base : Nat) (H : AHeap) (v : AV) (M : List (Nat × List Int)) : Prop :=
  (M = [] ∧ v = .nils ∧ Hp base H []) ∨ ∃ b, M ≠ [] ∧ v = .slc b 0 M.length M.length ∧ Hp base H (⟨b, 1, heads M⟩ :: inner M)
theorem LL.hp {base : Nat} {H : AHeap} {v : AV} {M : List (Nat × List Int)} (h : LL base H v M) : Hp base H [] := by
  rcases h with ⟨_, _, h⟩ | ⟨b, _, _, h⟩
  · exact h
  · exact h.sub (List.nil_sublist _)
/-- one list more -/
theorem LL.push {base : Nat} {H : AHeap} {v : AV} {M : List (Nat × List Int)} {ib m tb : Nat} {l : List Int} (hv : (M = [] ∧ v = .nils ∧ Hp base H [⟨tb, 1, [.slc ib 0 m m]⟩, ⟨ib, 1, ints l⟩]) ∨ ∃ b, M ≠ [] ∧ v = .slc b 0 M.length M.length ∧ Hp base H (⟨tb, 1, [.slc ib 0 m m]⟩ :: ⟨ib, 1, ints l⟩ :: ⟨b, 1, heads M⟩ :: inner M)) (hm : l.length = m) (hs : M.length ≤ 100000) :
    ∃ w H', appendE H 1 24 v (.slc tb 0 1 1) = some (w, H') ∧ LL base H' w (M ++ [(ib, l)]) ∧ Keep base H H' := by
  have hhd : heads (M ++ [(ib, l)]) = heads M ++ [.slc ib 0 m m] := by simp [heads, hm]
  have hin : inner (M ++ [(ib, l)]) = inner M ++ [⟨ib, 1, ints l⟩] := by simp [inner]
  rcases hv with ⟨rfl, rfl, h⟩ | ⟨b, hne, rfl, h⟩
  · obtain ⟨B, r4, c4⟩ := h.rowOf (cs := [.slc ib 0 m m]) (List.mem_cons_self ..)
    obtain ⟨H5, s5, h5, k5⟩ := h.append0 (bytes := 24) (o2 := 0) (c2 := 1) (v := .slc ib 0 m m) r4 (by rw [c4]; rfl) rfl (by omega) (by omega)
    refine ⟨_, H5, s5, .inr ⟨H.next, by simp, rfl, ?_⟩, k5⟩
    rw [hhd, hin]
    exact h5.swap.drop
  · obtain ⟨B, r4, c4⟩ := h.rowOf (cs := [.slc ib 0 m m]) (List.mem_cons_self ..)
    obtain ⟨H5, s5, h5, k5⟩ := (h.rot3).append1 (bytes := 24) (o2 := 0) (c2 := 1) (v := .slc ib 0 m m) (n := M.length) (by simp [heads]) r4 (by rw [c4]; rfl) rfl (by omega) (by omega)
    refine ⟨_, H5, s5, .inr ⟨H.next, by simp, by simp, ?_⟩, k5⟩
    rw [hhd, hin]
    exact h5.swap.drop.perm (List.Perm.cons _ (List.perm_append_comm (l₁ := [_]) (l₂ := inner M)))
set_option maxHeartbeats 2000000 in
theorem all_spec {Q : Prog} {ρ : Rst} {ll : List Cel} (hq : Q.fns 55 = some A55) (ho : ∀ a, Q.orc 55 a = Option.none) (hq68 : Q.fns 68 = some A68) (ho68 : ∀ a, Q.orc 68 a = Option.none) {base : Nat} {H : AHeap} {p : Nat} {s : PS} (hg : s.Good) (h : PLs ρ ll base H p s) :
    FnTo Q 55 [.ptr p 6] H (fun r H' => Keep H.next H H' ∧ ∃ M, LL H.next H' r M ∧ M.map (·.2) = s.L) := by
  refine fn_wp (ho _) hq (by simp [A55]) ?_
  obtain ⟨M, hp, eM⟩ := h
  have hML : M.length = s.L.length := by rw [← eM]; simp
  have hlen := hg.len
  obtain ⟨sv, l0, ln, hsv⟩ : ∃ sv, loadV H none (.ptr p 6) = some sv ∧ lngV H 1 sv = some (.int .i64 M.length) ∧ (M ≠ [] → ∃ b, sv = .slc b 0 M.length M.length ∧ Hp base H (⟨p, 1, ρ.cs (.slc b 0 M.length M.length) (.bool s.ov) (.bool s.fu)⟩ :: ⟨b, 1, heads M⟩ :: (inner M ++ ll))) := by
    rcases hp with ⟨rfl, hp⟩ | ⟨b, hne, hp⟩
    · exact ⟨_, hp.load (o := 6) (List.mem_cons_self ..) rfl, rfl, fun h => absurd rfl h⟩
    · exact ⟨_, hp.load (o := 6) (List.mem_cons_self ..) rfl, rfl, fun _ => ⟨b, rfl, hp⟩⟩
  have hf : ∀ b, H.next ≤ b → H.get b = Option.none := by
    rcases hp with ⟨rfl, hp⟩ | ⟨b, hne, hp⟩ <;> exact hp.fr
  simp only [A55, l0, ln, SX, Opd.ev, resVal, resVals, ARes.val, Bool.false_eq_true, Bool.not_false, Bool.not_true, List.getD_cons_succ, List.getD_cons_zero, List.map_cons, List.map_nil, Nat.add_zero, Nat.zero_add, Option.map_none, Option.map_some, Option.some.injEq, and_true, decide_false, decide_true, true_and, reduceCtorEq, Nat.reduceEqDiff, ↓reduceIte, Int.reduceEq, Int.reduceLT, Int.reduceLE, Nat.reduceAdd]
  obtain ⟨I, hI⟩ : ∃ I : Nat → Env → AHeap → Prop, ∀ m e H', I m e H' ↔ (Keep H.next H H' ∧ ∃ (k : Nat) (v : AV) (M' : List (Nat × List Int)), m = M.length - k ∧ k ≤ M.length ∧ Env.get e 3 = v ∧ Env.get e 11 = sv ∧ Env.get e 12 = .int .i64 M.length ∧ Env.get e 13 = .int .i64 k ∧ LL H.next H' v M' ∧ M'.map (·.2) = s.L.take k) := ⟨_, fun _ _ _ => Iff.rfl⟩
  refine loop_by I M.length ?_ ?_
  · refine (hI _ _ _).2 ⟨Keep.refl _ _, 0, .nils, [], rfl, by omega, ?_⟩
    simp only [SX, Opd.ev, resVal, resVals, ARes.val, Bool.false_eq_true, Bool.not_false, Bool.not_true, List.getD_cons_succ, List.getD_cons_zero, List.map_cons, List.map_nil, Nat.add_zero, Nat.zero_add, Option.map_none, Option.map_some, Option.some.injEq, and_true, decide_false, decide_true, true_and, reduceCtorEq, Nat.reduceEqDiff, ↓reduceIte, Int.reduceEq, Int.reduceLT, Int.reduceLE, Nat.reduceAdd]
    exact ⟨rfl, .inl ⟨rfl, rfl, Hp.nil H hf⟩, rfl⟩
  · intro m e H' hinv
    obtain ⟨hk, k, v, M', rfl, hkl, e3, e11, e12, e13, hv, hM'⟩ := (hI _ _ _).1 hinv
    by_cases h2 : (k : Int) < M.length
    · have h3 : k < M.length := by omega
      obtain ⟨b, rfl, hb⟩ := hsv (by intro hh; rw [hh] at h3; simp at h3)
      have hb' := hb.keep hk hv.hp.bn hv.hp.fr
      obtain ⟨⟨ib, l⟩, hx⟩ : ∃ x, M[k]? = some x := ⟨_, List.getElem?_eq_getElem h3⟩
      have hll : s.L[k]? = some l := by rw [← eM]; simp [hx]
      have hl8 := hg.el l (List.mem_of_getElem? hll)
      obtain ⟨m, hm⟩ : ∃ m, l.length = m := ⟨_, rfl⟩
      have x1 : idxSV 1 (.slc b 0 M.length M.length) (.int .i64 (k : Int)) = some (.ptr b (0 + k)) := idxSV_slc h3
      have lb := hb'.load (b := b) (o := k) (v := .slc ib 0 m m) (List.mem_cons_of_mem _ (List.mem_cons_self ..)) (by simp [heads, hx, hm])
      have hibm : (⟨ib, 1, ints l⟩ : Cel) ∈ inner M := List.mem_map.2 ⟨(ib, l), List.mem_of_getElem? hx, rfl⟩
      obtain ⟨B, rB, cB⟩ := hb'.rowOf (List.mem_cons_of_mem _ (List.mem_cons_of_mem _ (List.mem_append_left ll hibm)))
      have hw : IntKind.wrap .i64 ((k : Int) + 1) = ((k + 1 : Nat) : Int) := by rw [wrapI64 (by omega) (by omega)]; rfl
      have hM'l : M'.length = k := by
        have : (M'.map (·.2)).length = (s.L.take k).length := by rw [hM']
        simp at this; omega
      simp only [e3, e11, e12, e13, h2, x1, lb, SX, Opd.ev, resVal, resVals, ARes.val, Bool.false_eq_true, Bool.not_false, Bool.not_true, List.getD_cons_succ, List.getD_cons_zero, List.map_cons, List.map_nil, Nat.add_zero, Nat.zero_add, Option.map_none, Option.map_some, Option.some.injEq, and_true, decide_false, decide_true, true_and, reduceCtorEq, Nat.reduceEqDiff, ↓reduceIte, Int.reduceEq, Int.reduceLT, Int.reduceLE, Nat.reduceAdd]
      obtain ⟨l0, hl0, hcase⟩ : ∃ l0, Hp H.next H' l0 ∧ ((M' = [] ∧ v = .nils ∧ l0 = []) ∨ ∃ b, M' ≠ [] ∧ v = .slc b 0 M'.length M'.length ∧ l0 = ⟨b, 1, heads M'⟩ :: inner M') := by
        rcases hv with ⟨h1, h2, h3⟩ | ⟨b, h1, h2, h3⟩
        · exact ⟨_, h3, .inl ⟨h1, h2, rfl⟩⟩
        · exact ⟨_, h3, .inr ⟨b, h1, h2, rfl⟩⟩
      refine (clone_spec hq68 ho68 hl0 rB cB hm (by omega) (by omega)).mono ?_
      rintro r H2 ⟨rfl, h2', k2⟩
      obtain ⟨H3, s3, h3', k3⟩ := h2'.make [.slc (H'.next + 1) 0 m m] 1
      obtain ⟨w, H4, s4, h4, k4⟩ := LL.push (H := H3) (base := H.next) (v := v) (M := M') (ib := H'.next + 1) (m := m) (tb := H2.next) (l := l) (by
        rcases hcase with ⟨q1, q2, rfl⟩ | ⟨b, q1, q2, rfl⟩
        · exact .inl ⟨q1, q2, h3'⟩
        · exact .inr ⟨b, q1, q2, h3'⟩) hm (by omega)
      simp only [e3, e11, e12, e13, h2, x1, lb, hw, s3, s4, SX, Opd.ev, resVal, resVals, ARes.val, Bool.false_eq_true, Bool.not_false, Bool.not_true, List.getD_cons_succ, List.getD_cons_zero, List.map_cons, List.map_nil, Nat.add_zero, Nat.zero_add, Option.map_none, Option.map_some, Option.some.injEq, and_true, decide_false, decide_true, true_and, reduceCtorEq, Nat.reduceEqDiff, ↓reduceIte, Int.reduceEq, Int.reduceLT, Int.reduceLE, Nat.reduceAdd]
      refine ⟨M.length - (k + 1), by omega, (hI _ _ _).2 ⟨hk.trans (k2.trans (k3.trans k4)), k + 1, w, M' ++ [(H'.next + 1, l)], rfl, by omega, ?_⟩⟩
      simp only [e3, e11, e12, e13, SX, Opd.ev, resVal, resVals, ARes.val, Bool.false_eq_true, Bool.not_false, Bool.not_true, List.getD_cons_succ, List.getD_cons_zero, List.map_cons, List.map_nil, Nat.add_zero, Nat.zero_add, Option.map_none, Option.map_some, Option.some.injEq, and_true, decide_false, decide_true, true_and, reduceCtorEq, Nat.reduceEqDiff, ↓reduceIte, Int.reduceEq, Int.reduceLT, Int.reduceLE, Nat.reduceAdd]
      refine ⟨h4, ?_⟩
      rw [List.map_append, hM', List.take_succ_eq_append_getElem (by omega)]
      congr 1
      rw [List.getElem?_eq_getElem (by omega)] at hll
      simp only [Option.some.injEq] at hll
      rw [hll]; rfl
    · obtain rfl : k = M.length := by omega
      simp only [e3, e11, e12, e13, h2, SX, Opd.ev, resVal, resVals, ARes.val, Bool.false_eq_true, Bool.not_false, Bool.not_true, List.getD_cons_succ, List.getD_cons_zero, List.map_cons, List.map_nil, Nat.add_zero, Nat.zero_add, Option.map_none, Option.map_some, Option.some.injEq, and_true, decide_false, decide_true, true_and, reduceCtorEq, Nat.reduceEqDiff, ↓reduceIte, Int.reduceEq, Int.reduceLT, Int.reduceLE, Nat.reduceAdd]
      refine ⟨hk, M', hv, ?_⟩
      rw [hM', hML, List.take_length]
/-! ### Bits -/
theorem wrapU8 {x : Int} (h0 : 0 ≤ x) (h1 : x ≤ 255) : IntKind.wrap .u8 x = x := by
  simp [IntKind.wrap, IntKind.signed, IntKind.bits]; omega
theorem and_u8 (m : Int) (hm : m = 63 ∨ m = 31 ∨ m = 15 ∨ m = 7) {b : Int} (h0 : 0 ≤ b) (h1 : b ≤ 255) : binV .and (.int .u8 b) (.int .u8 m) = some (.int .u8 (b % (m + 1))) := by
  have key : ∀ n : Fin 256, ∀ m : Fin 64, (m.val = 63 ∨ m.val = 31 ∨ m.val = 15 ∨ m.val = 7) → (BitVec.ofInt 8 (n.val : Int) &&& BitVec.ofInt 8 (m.val : Int)).toNat = n.val % (m.val + 1) := by decide +kernel
  obtain ⟨n, rfl⟩ : ∃ n : Nat, b = n := ⟨b.toNat, by omega⟩
  obtain ⟨k, rfl⟩ : ∃ k : Nat, m = k := ⟨m.toNat, by omega⟩
  have := key ⟨n, by omega⟩ ⟨k, by omega⟩ (by simp only; omega)
  have e : binV .and (.int .u8 (n : Int)) (.int .u8 (k : Int)) = some (.int .u8 (IntKind.wrap .u8 (((BitVec.ofInt 8 (n : Int) &&& BitVec.ofInt 8 (k : Int)).toNat : Nat) : Int))) := rfl
  have hlt : n % (k + 1) < 256 := Nat.lt_of_le_of_lt (Nat.mod_le _ _) (by omega)
  rw [e, this, wrapU8 (by omega) (by omega)]
  simp
theorem shl_i32 {x : Int} (k : IntKind) : binV .shl (.int .i32 x) (.int k 6) = some (.int .i32 (IntKind.wrap .i32 (x * 64))) := rfl
theorem wrapI32 {x : Int} (h0 : -2147483648 ≤ x) (h1 : x ≤ 2147483647) : IntKind.wrap .i32 x = x := by
  simp only [IntKind.wrap, IntKind.signed, IntKind.bits]
  simp only [if_true, Nat.reduceSub, Int.reducePow]
  simp
  omega
theorem or_i32 {x y : Int} (h0 : 0 ≤ x) (h1 : x < 33554432) (h2 : 0 ≤ y) (h3 : y < 64) : binV .or (.int .i32 (x * 64)) (.int .i32 y) = some (.int .i32 (x * 64 + y)) := by
  obtain ⟨n, rfl⟩ : ∃ n : Nat, x = n := ⟨x.toNat, by omega⟩
  obtain ⟨k, rfl⟩ : ∃ k : Nat, y = k := ⟨y.toNat, by omega⟩
  have e1 : (BitVec.ofInt 32 ((n : Int) * 64)).toNat = n * 64 := by
    rw [show (n : Int) * 64 = ((n * 64 : Nat) : Int) by omega, BitVec.ofInt_natCast, BitVec.toNat_ofNat]
    exact Nat.mod_eq_of_lt (by omega)
  have e2 : (BitVec.ofInt 32 (k : Int)).toNat = k := by
    rw [BitVec.ofInt_natCast, BitVec.toNat_ofNat]
    exact Nat.mod_eq_of_lt (by omega)
  have e3 : (n * 64) ||| k = n * 64 + k := by
    have := Nat.two_pow_add_eq_or_of_lt (b := k) (i := 6) (by omega) n
    rw [Nat.mul_comm n 64]
    exact this.symm
  have e : binV .or (.int .i32 ((n : Int) * 64)) (.int .i32 (k : Int)) = some (.int .i32 (IntKind.wrap .i32 (((BitVec.ofInt 32 ((n : Int) * 64) ||| BitVec.ofInt 32 (k : Int)).toNat : Nat) : Int))) := rfl
  rw [e, BitVec.toNat_or, e1, e2, e3, wrapI32 (by omega) (by omega)]
  simp
theorem wrapI32u8 {b : Int} (h0 : 0 ≤ b) (h1 : b ≤ 255) : IntKind.wrap .i32 b = b := wrapI32 (by omega) (by omega)
/-! ### The decoder -/
structure DSt where
  kept : Int
  left : Int
  lo : Int
  hi : Int
  x : Int
def DSt.zero : DSt := ⟨0, 0, 0, 0, 0⟩
def DSt.cs (d : DSt) : List AV := [.int .i64 d.kept, .int .i64 d.left, .int .u8 d.lo, .int .u8 d.hi, .int .i32 d.x]
def begD (b : Int) : Int × Int × Int × Int :=
  if b < 128 then (0, 0, 0, b) else if b < 194 ∨ 244 < b then (-1, 0, 0, 0) else if b < 224 then (1, 128, 191, b % 32) else if b = 224 then (2, 160, 191, 0)
  else if b = 237 then (2, 128, 159, b % 16) else if b < 240 then (2, 128, 191, b % 16) else if b = 240 then (3, 144, 191, 0) else if b = 244 then (3, 128, 143, b % 8) else (3, 128, 191, b % 8)
def DSt.first (d : DSt) (b : Int) : List Int × DSt :=
  if (begD b).1 < 0 then ([65533], d) else if (begD b).1 = 0 then ([(begD b).2.2.2], d) else ([], ⟨1, (begD b).1, (begD b).2.1, (begD b).2.2.1, (begD b).2.2.2⟩)
def DSt.byte (d : DSt) (b : Int) : List Int × DSt :=
  if 0 < d.kept ∧ d.lo ≤ b ∧ b ≤ d.hi then (if d.left = 1 then ([d.x * 64 + b % 64], DSt.zero) else ([], ⟨d.kept + 1, d.left - 1, 128, 191, d.x * 64 + b % 64⟩))
  else if 0 < d.kept then (65533 :: (DSt.zero.first b).1, (DSt.zero.first b).2) else d.first b
structure DSt.Good (d : DSt) : Prop where
  z : d.kept ≤ 0 → d = DSt.zero
  l : 0 < d.kept → 1 ≤ d.left ∧ d.left ≤ 3 ∧ d.kept ≤ 4 - d.left ∧ 0 ≤ d.x ∧ (d.left = 3 → d.x < 8) ∧ (d.left = 2 → d.x < 512) ∧ (d.left = 1 → d.x < 32768)
theorem zero_good : DSt.zero.Good := ⟨fun _ => rfl, fun h => by simp [DSt.zero] at h⟩
theorem begD_good {b : Int} (h0 : 0 ≤ b) (h1 : b ≤ 255) : (begD b).1 ≤ 3 ∧ 0 ≤ (begD b).2.2.2 ∧ (begD b).2.2.2 ≤ 255 ∧ ((begD b).1 = 3 → (begD b).2.2.2 < 8) ∧ ((begD b).1 = 2 → (begD b).2.2.2 < 16) ∧ ((begD b).1 = 1 → (begD b).2.2.2 < 32) := by
  unfold begD
  repeat' split
  all_goals simp only
  all_goals omega
theorem first_good {d : DSt} (h : d = DSt.zero) {b : Int} (h0 : 0 ≤ b) (h1 : b ≤ 255) : (d.first b).2.Good := by
  have hb := begD_good h0 h1
  unfold DSt.first
  split
  · rw [h]; exact zero_good
  · split
    · rw [h]; exact zero_good
    · refine ⟨fun hh => ?_, fun _ => ?_⟩
      · simp at hh
      · simp only; omega
theorem byteD_good {d : DSt} (h : d.Good) {b : Int} (h0 : 0 ≤ b) (h1 : b ≤ 255) : (d.byte b).2.Good := by
  unfold DSt.byte
  split
  · rename_i hc
    have hl := h.l hc.1
    split
    · exact zero_good
    · refine ⟨fun hh => ?_, fun _ => ?_⟩
      · simp only at hh; omega
      · simp only; omega
  · split
    · exact first_good rfl h0 h1
    · exact first_good (h.z (by omega)) h0 h1
theorem ex40 (a b c d : AV) : extractV 0 (.tup [a, b, c, d]) = some a := rfl
theorem ex41 (a b c d : AV) : extractV 1 (.tup [a, b, c, d]) = some b := rfl
theorem ex42 (a b c d : AV) : extractV 2 (.tup [a, b, c, d]) = some c := rfl
theorem ex43 (a b c d : AV) : extractV 3 (.tup [a, b, c, d]) = some d := rfl
def bld5V (z : List AV) (a b c d e : AV) : Option AV := ROp.run ⟨0, .nil⟩ .nil (.build z [(0, 1, .c a), (1, 1, .c b), (2, 1, .c c), (3, 1, .c d), (4, 1, .c e)])
theorem bld5 (H : AHeap) (en : Env) (z : List AV) (a b c d e : Opd) : ROp.run H en (.build z [(0, 1, a), (1, 1, b), (2, 1, c), (3, 1, d), (4, 1, e)]) = bld5V z (a.ev en) (b.ev en) (c.ev en) (d.ev en) (e.ev en) := rfl
theorem bld5V_int (z0 z1 z2 z3 z4 : AV) (k0 k1 k2 k3 k4 : IntKind) (a b c d e : Int) : bld5V [z0, z1, z2, z3, z4] (.int k0 a) (.int k1 b) (.int k2 c) (.int k3 d) (.int k4 e) = some (.agg [.int k0 a, .int k1 b, .int k2 c, .int k3 d, .int k4 e]) := rfl
def arr2 (l : List Int) : AV := .agg [.int .i32 (l.getD 0 0), .int .i32 (l.getD 1 0)]
section
variable {Q : Prog} (ho : ∀ f, (Nat.beq f 11 || Nat.beq f 24) = false → ∀ a, Q.orc f a = Option.none) {base : Nat} {H : AHeap} {p : Nat} {d : DSt} {R : List AV} {l : List Cel}
include ho
set_option maxHeartbeats 2000000 in
theorem begD_spec (q74 : Q.fns 74 = some A74) {b : Int} (h0 : 0 ≤ b) (h1 : b ≤ 255) : FnTo Q 74 [.int .u8 b] H (fun r H' => r = .tup [.int .i64 (begD b).1, .int .u8 (begD b).2.1, .int .u8 (begD b).2.2.1, .int .i32 (begD b).2.2.2] ∧ H' = H) := by
  refine fn_wp (ho 74 rfl _) q74 (by simp [A74]) ?_
  have wb := wrapI32u8 h0 h1
  have m31 := and_u8 31 (by omega) h0 h1
  have m15 := and_u8 15 (by omega) h0 h1
  have m7 := and_u8 7 (by omega) h0 h1
  simp only [Int.reduceAdd] at m31 m15 m7
  have w31 : IntKind.wrap .i32 (b % 32) = b % 32 := wrapI32 (by omega) (by omega)
  have w15 : IntKind.wrap .i32 (b % 16) = b % 16 := wrapI32 (by omega) (by omega)
  have w7 : IntKind.wrap .i32 (b % 8) = b % 8 := wrapI32 (by omega) (by omega)
  have fin : ∀ x : Int × Int × Int × Int, x = begD b → (AV.tup [.int .i64 x.1, .int .u8 x.2.1, .int .u8 x.2.2.1, .int .i32 x.2.2.2] = .tup [.int .i64 (begD b).1, .int .u8 (begD b).2.1, .int .u8 (begD b).2.2.1, .int .i32 (begD b).2.2.2]) := by
    intro x hx; rw [hx]
  by_cases c1 : b < 128
  · simp only [A74, c1, wb, resVal, resVals, ARes.val, SX, Opd.ev, resVal, resVals, ARes.val, Bool.false_eq_true, Bool.not_false, Bool.not_true, List.getD_cons_succ, List.getD_cons_zero, List.map_cons, List.map_nil, Nat.add_zero, Nat.zero_add, Option.map_none, Option.map_some, Option.some.injEq, and_true, decide_false, decide_true, true_and, reduceCtorEq, Nat.reduceEqDiff, ↓reduceIte, Int.reduceEq, Int.reduceLT, Int.reduceLE, Nat.reduceAdd]
    exact fin (0, 0, 0, b) (by unfold begD; rw [if_pos c1])
  by_cases c2 : b < 194
  · simp only [A74, c1, c2, resVal, resVals, ARes.val, SX, Opd.ev, resVal, resVals, ARes.val, Bool.false_eq_true, Bool.not_false, Bool.not_true, List.getD_cons_succ, List.getD_cons_zero, List.map_cons, List.map_nil, Nat.add_zero, Nat.zero_add, Option.map_none, Option.map_some, Option.some.injEq, and_true, decide_false, decide_true, true_and, reduceCtorEq, Nat.reduceEqDiff, ↓reduceIte, Int.reduceEq, Int.reduceLT, Int.reduceLE, Nat.reduceAdd]
    exact fin (-1, 0, 0, 0) (by unfold begD; rw [if_neg c1, if_pos (.inl c2)])
  by_cases c3 : 244 < b
  · simp only [A74, c1, c2, c3, resVal, resVals, ARes.val, SX, Opd.ev, resVal, resVals, ARes.val, Bool.false_eq_true, Bool.not_false, Bool.not_true, List.getD_cons_succ, List.getD_cons_zero, List.map_cons, List.map_nil, Nat.add_zero, Nat.zero_add, Option.map_none, Option.map_some, Option.some.injEq, and_true, decide_false, decide_true, true_and, reduceCtorEq, Nat.reduceEqDiff, ↓reduceIte, Int.reduceEq, Int.reduceLT, Int.reduceLE, Nat.reduceAdd]
    exact fin (-1, 0, 0, 0) (by unfold begD; rw [if_neg c1, if_pos (.inr c3)])
  by_cases c4 : b < 224
  · simp only [A74, c1, c2, c3, c4, m31, w31, resVal, resVals, ARes.val, SX, Opd.ev, resVal, resVals, ARes.val, Bool.false_eq_true, Bool.not_false, Bool.not_true, List.getD_cons_succ, List.getD_cons_zero, List.map_cons, List.map_nil, Nat.add_zero, Nat.zero_add, Option.map_none, Option.map_some, Option.some.injEq, and_true, decide_false, decide_true, true_and, reduceCtorEq, Nat.reduceEqDiff, ↓reduceIte, Int.reduceEq, Int.reduceLT, Int.reduceLE, Nat.reduceAdd]
    exact fin (1, 128, 191, b % 32) (by unfold begD; rw [if_neg c1, if_neg (by omega), if_pos c4])
  by_cases c5 : b = 224
  · simp only [A74, c1, c2, c3, c4, c5, resVal, resVals, ARes.val, SX, Opd.ev, resVal, resVals, ARes.val, Bool.false_eq_true, Bool.not_false, Bool.not_true, List.getD_cons_succ, List.getD_cons_zero, List.map_cons, List.map_nil, Nat.add_zero, Nat.zero_add, Option.map_none, Option.map_some, Option.some.injEq, and_true, decide_false, decide_true, true_and, reduceCtorEq, Nat.reduceEqDiff, ↓reduceIte, Int.reduceEq, Int.reduceLT, Int.reduceLE, Nat.reduceAdd]
    subst c5
    exact fin (2, 160, 191, 0) (by decide)
  by_cases c6 : b = 237
  · have c6' : decide (b = 237) = true := by simpa using c6
    simp only [A74, c1, c2, c3, c4, c5, c6', m15, w15, resVal, resVals, ARes.val, SX, Opd.ev, resVal, resVals, ARes.val, Bool.false_eq_true, Bool.not_false, Bool.not_true, List.getD_cons_succ, List.getD_cons_zero, List.map_cons, List.map_nil, Nat.add_zero, Nat.zero_add, Option.map_none, Option.map_some, Option.some.injEq, and_true, decide_false, decide_true, true_and, reduceCtorEq, Nat.reduceEqDiff, ↓reduceIte, Int.reduceEq, Int.reduceLT, Int.reduceLE, Nat.reduceAdd]
    exact fin (2, 128, 159, b % 16) (by rw [c6]; decide)
  by_cases c7 : b < 240
  · simp only [A74, c1, c2, c3, c4, c5, c6, c7, m15, w15, resVal, resVals, ARes.val, SX, Opd.ev, resVal, resVals, ARes.val, Bool.false_eq_true, Bool.not_false, Bool.not_true, List.getD_cons_succ, List.getD_cons_zero, List.map_cons, List.map_nil, Nat.add_zero, Nat.zero_add, Option.map_none, Option.map_some, Option.some.injEq, and_true, decide_false, decide_true, true_and, reduceCtorEq, Nat.reduceEqDiff, ↓reduceIte, Int.reduceEq, Int.reduceLT, Int.reduceLE, Nat.reduceAdd]
    exact fin (2, 128, 191, b % 16) (by unfold begD; rw [if_neg c1, if_neg (by omega), if_neg c4, if_neg c5, if_neg c6, if_pos c7])
  by_cases c8 : b = 240
  · simp only [A74, c1, c2, c3, c4, c5, c6, c7, c8, resVal, resVals, ARes.val, SX, Opd.ev, resVal, resVals, ARes.val, Bool.false_eq_true, Bool.not_false, Bool.not_true, List.getD_cons_succ, List.getD_cons_zero, List.map_cons, List.map_nil, Nat.add_zero, Nat.zero_add, Option.map_none, Option.map_some, Option.some.injEq, and_true, decide_false, decide_true, true_and, reduceCtorEq, Nat.reduceEqDiff, ↓reduceIte, Int.reduceEq, Int.reduceLT, Int.reduceLE, Nat.reduceAdd]
    subst c8
    exact fin (3, 144, 191, 0) (by decide)
  by_cases c9 : b = 244
  · have c9' : decide (b = 244) = true := by simpa using c9
    simp only [A74, c1, c2, c3, c4, c5, c6, c7, c8, c9', m7, w7, resVal, resVals, ARes.val, SX, Opd.ev, resVal, resVals, ARes.val, Bool.false_eq_true, Bool.not_false, Bool.not_true, List.getD_cons_succ, List.getD_cons_zero, List.map_cons, List.map_nil, Nat.add_zero, Nat.zero_add, Option.map_none, Option.map_some, Option.some.injEq, and_true, decide_false, decide_true, true_and, reduceCtorEq, Nat.reduceEqDiff, ↓reduceIte, Int.reduceEq, Int.reduceLT, Int.reduceLE, Nat.reduceAdd]
    exact fin (3, 128, 143, b % 8) (by rw [c9]; decide)
  · simp only [A74, c1, c2, c3, c4, c5, c6, c7, c8, c9, m7, w7, resVal, resVals, ARes.val, SX, Opd.ev, resVal, resVals, ARes.val, Bool.false_eq_true, Bool.not_false, Bool.not_true, List.getD_cons_succ, List.getD_cons_zero, List.map_cons, List.map_nil, Nat.add_zero, Nat.zero_add, Option.map_none, Option.map_some, Option.some.injEq, and_true, decide_false, decide_true, true_and, reduceCtorEq, Nat.reduceEqDiff, ↓reduceIte, Int.reduceEq, Int.reduceLT, Int.reduceLE, Nat.reduceAdd]
    exact fin (3, 128, 191, b % 8) (by unfold begD; rw [if_neg c1, if_neg (by omega), if_neg c4, if_neg c5, if_neg c6, if_neg c7, if_neg c8, if_neg c9])
set_option maxHeartbeats 2000000 in
theorem first_spec (q69 : Q.fns 69 = some A69) (q74 : Q.fns 74 = some A74) {b : Int} (h0 : 0 ≤ b) (h1 : b ≤ 255) (h : Hp base H (⟨p, 1, d.cs ++ R⟩ :: l)) :
    FnTo Q 69 [.ptr p 0, .int .u8 b] H (fun r H' => r = .tup [.int .i32 ((d.first b).1.getD 0 0), .bool (decide ((d.first b).1 ≠ []))] ∧ Hp base H' (⟨p, 1, (d.first b).2.cs ++ R⟩ :: l) ∧ Keep base H H') := by
  refine fn_wp (ho 69 rfl _) q69 (by simp [A69]) ?_
  simp only [A69, SX, Opd.ev, resVal, resVals, ARes.val, Bool.false_eq_true, Bool.not_false, Bool.not_true, List.getD_cons_succ, List.getD_cons_zero, List.map_cons, List.map_nil, Nat.add_zero, Nat.zero_add, Option.map_none, Option.map_some, Option.some.injEq, and_true, decide_false, decide_true, true_and, reduceCtorEq, Nat.reduceEqDiff, ↓reduceIte, Int.reduceEq, Int.reduceLT, Int.reduceLE, Nat.reduceAdd]
  refine (begD_spec ho q74 h0 h1).mono ?_
  rintro r H' ⟨rfl, rfl⟩
  simp only [ex40, ex41, ex42, ex43, SX, Opd.ev, resVal, resVals, ARes.val, Bool.false_eq_true, Bool.not_false, Bool.not_true, List.getD_cons_succ, List.getD_cons_zero, List.map_cons, List.map_nil, Nat.add_zero, Nat.zero_add, Option.map_none, Option.map_some, Option.some.injEq, and_true, decide_false, decide_true, true_and, reduceCtorEq, Nat.reduceEqDiff, ↓reduceIte, Int.reduceEq, Int.reduceLT, Int.reduceLE, Nat.reduceAdd]
  by_cases c1 : (begD b).1 < 0
  · have e : d.first b = ([65533], d) := by unfold DSt.first; rw [if_pos c1]
    simp only [c1, resVal, resVals, ARes.val, SX, Opd.ev, resVal, resVals, ARes.val, Bool.false_eq_true, Bool.not_false, Bool.not_true, List.getD_cons_succ, List.getD_cons_zero, List.map_cons, List.map_nil, Nat.add_zero, Nat.zero_add, Option.map_none, Option.map_some, Option.some.injEq, and_true, decide_false, decide_true, true_and, reduceCtorEq, Nat.reduceEqDiff, ↓reduceIte, Int.reduceEq, Int.reduceLT, Int.reduceLE, Nat.reduceAdd]
    rw [e]
    exact ⟨rfl, h, Keep.refl _ _⟩
  by_cases c2 : (begD b).1 = 0
  · have c2' : decide ((begD b).1 = 0) = true := by simpa using c2
    have e : d.first b = ([(begD b).2.2.2], d) := by unfold DSt.first; rw [if_neg c1, if_pos c2]
    simp only [c1, c2', resVal, resVals, ARes.val, SX, Opd.ev, resVal, resVals, ARes.val, Bool.false_eq_true, Bool.not_false, Bool.not_true, List.getD_cons_succ, List.getD_cons_zero, List.map_cons, List.map_nil, Nat.add_zero, Nat.zero_add, Option.map_none, Option.map_some, Option.some.injEq, and_true, decide_false, decide_true, true_and, reduceCtorEq, Nat.reduceEqDiff, ↓reduceIte, Int.reduceEq, Int.reduceLT, Int.reduceLE, Nat.reduceAdd]
    rw [e]
    exact ⟨rfl, h, Keep.refl _ _⟩
  · have e : d.first b = ([], ⟨1, (begD b).1, (begD b).2.1, (begD b).2.2.1, (begD b).2.2.2⟩) := by unfold DSt.first; rw [if_neg c1, if_neg c2]
    obtain ⟨H1, s1, g1, k1, n1⟩ := h.storeO (a := []) (x := d.cs) (c := R) (o := 0) (n := 5) rfl rfl rfl (new := [.int .i64 1, .int .i64 (begD b).1, .int .u8 (begD b).2.1, .int .u8 (begD b).2.2.1, .int .i32 (begD b).2.2.2]) rfl rfl
    simp only [c1, c2, bld5, bld5V_int, s1, resVal, resVals, ARes.val, SX, Opd.ev, resVal, resVals, ARes.val, Bool.false_eq_true, Bool.not_false, Bool.not_true, List.getD_cons_succ, List.getD_cons_zero, List.map_cons, List.map_nil, Nat.add_zero, Nat.zero_add, Option.map_none, Option.map_some, Option.some.injEq, and_true, decide_false, decide_true, true_and, reduceCtorEq, Nat.reduceEqDiff, ↓reduceIte, Int.reduceEq, Int.reduceLT, Int.reduceLE, Nat.reduceAdd]
    rw [e]
    exact ⟨rfl, g1, k1⟩
def DSt.other (d : DSt) (b : Int) : List Int × DSt := if 0 < d.kept then (65533 :: (DSt.zero.first b).1, (DSt.zero.first b).2) else d.first b
omit ho in
theorem first_len (d : DSt) (b : Int) : (d.first b).1 = [] ∨ ∃ x, (d.first b).1 = [x] := by
  unfold DSt.first
  split
  · exact .inr ⟨_, rfl⟩
  · split
    · exact .inr ⟨_, rfl⟩
    · exact .inl rfl
set_option maxHeartbeats 4000000 in
theorem rest56 (q69 : Q.fns 69 = some A69) (q74 : Q.fns 74 = some A74) {b : Int} (h0 : 0 ≤ b) (h1 : b ≤ 255) {q : Nat} (h : Hp base H (⟨q, 1, [.int .i32 0, .int .i32 0]⟩ :: ⟨p, 1, d.cs ++ R⟩ :: l)) {e : Env} (e0 : Env.get e 0 = .ptr p 0) (e1 : Env.get e 1 = .int .u8 b) (e4 : Env.get e 4 = .ptr q 0) (e5 : Env.get e 5 = .int .i64 0)
    {K : AV → AHeap → Prop} (hk : ∀ H', Hp base H' (⟨p, 1, (d.other b).2.cs ++ R⟩ :: l) → Keep base H H' → K (.tup [arr2 (d.other b).1, .int .i64 (d.other b).1.length]) H') : ACode.wp Q A56_rest (fnK A56.res K) e H := by
  have res : A56.res = [.cell 4 (some 2), .t 5] := rfl
  rw [res]
  have l0 := h.load (b := p) (k := 1) (cs := d.cs ++ R) (List.mem_cons_of_mem _ (List.mem_cons_self ..)) (o := 0) rfl
  have xi0 : ∀ q, idxAV 2 1 (.ptr q 0) (.int .i64 0) = some (.ptr q 0) := fun _ => rfl
  have xi1 : ∀ q, idxAV 2 1 (.ptr q 0) (.int .i64 1) = some (.ptr q 1) := fun _ => rfl
  have wa : IntKind.wrap .i64 1 = 1 := by decide
  have wb : IntKind.wrap .i64 2 = 2 := by decide
  have stop : ∀ (x y : Int) (H2 : AHeap), ∀ d2 : DSt, Hp base H2 (⟨q, 1, [.int .i32 x, .int .i32 y]⟩ :: ⟨p, 1, d2.cs ++ R⟩ :: l) → ∃ H', loadV H2 (some 2) (.ptr q 0) = some (.agg [.int .i32 x, .int .i32 y]) ∧ storeE H2 2 (.ptr q 0) (.agg [.int .i32 x, .int .i32 y]) = some (.undef, H') ∧ loadV H' (some 2) (.ptr q 0) = some (.agg [.int .i32 x, .int .i32 y]) ∧ Hp base H' (⟨p, 1, d2.cs ++ R⟩ :: l) ∧ Keep base H2 H' := by
    intro x y H2 d2 h2
    obtain ⟨H', s, g, k, n⟩ := h2.storeN (n := 2) (new := [.int .i32 x, .int .i32 y]) rfl rfl rfl
    exact ⟨H', h2.loadN (List.mem_cons_self ..) rfl, s, g.loadN (List.mem_cons_self ..) rfl, g.drop, k⟩
  by_cases c1 : 0 < d.kept
  · have e : d.other b = (65533 :: (DSt.zero.first b).1, (DSt.zero.first b).2) := by unfold DSt.other; rw [if_pos c1]
    rw [e] at hk
    obtain ⟨H1, s1, g1, k1, n1⟩ := (h.swap).storeO (a := []) (x := d.cs) (c := R) (o := 0) (n := 5) rfl rfl rfl (new := DSt.zero.cs) rfl rfl
    obtain ⟨H2, s2, g2, k2, n2⟩ := (Hp.swap g1).store (o := 0) (v := .int .i32 65533) rfl (by simp)
    have s1 : storeE H 5 (.ptr p 0) (.agg [.int .i64 0, .int .i64 0, .int .u8 0, .int .u8 0, .int .i32 0]) = some (.undef, H1) := s1
    simp only [A56_rest, e0, e1, e4, e5, l0, c1, run_build0, s1, xi0, s2, SX, Opd.ev, resVal, resVals, ARes.val, Bool.false_eq_true, Bool.not_false, Bool.not_true, List.getD_cons_succ, List.getD_cons_zero, List.map_cons, List.map_nil, Nat.add_zero, Nat.zero_add, Option.map_none, Option.map_some, Option.some.injEq, and_true, decide_false, decide_true, true_and, reduceCtorEq, Nat.reduceEqDiff, ↓reduceIte, Int.reduceEq, Int.reduceLT, Int.reduceLE, Nat.reduceAdd]
    refine (first_spec ho (d := DSt.zero) q69 q74 h0 h1 (g2.swap)).mono ?_
    rintro r H3 ⟨rfl, g3, k3⟩
    simp only [e0, e1, e4, e5, ex0, ex1, SX, Opd.ev, resVal, resVals, ARes.val, Bool.false_eq_true, Bool.not_false, Bool.not_true, List.getD_cons_succ, List.getD_cons_zero, List.map_cons, List.map_nil, Nat.add_zero, Nat.zero_add, Option.map_none, Option.map_some, Option.some.injEq, and_true, decide_false, decide_true, true_and, reduceCtorEq, Nat.reduceEqDiff, ↓reduceIte, Int.reduceEq, Int.reduceLT, Int.reduceLE, Nat.reduceAdd]
    rcases first_len DSt.zero b with hf | ⟨x, hf⟩
    · rw [hf] at hk ⊢
      obtain ⟨H', l4, s4, l5, g4, k4⟩ := stop 65533 0 H3 _ g3.swap
      have hd : decide (([] : List Int) ≠ []) = false := rfl
      simp only [hd, e0, e1, e4, e5, l4, s4, l5, resVal, resVals, ARes.val, SX, Opd.ev, resVal, resVals, ARes.val, Bool.false_eq_true, Bool.not_false, Bool.not_true, List.getD_cons_succ, List.getD_cons_zero, List.map_cons, List.map_nil, Nat.add_zero, Nat.zero_add, Option.map_none, Option.map_some, Option.some.injEq, and_true, decide_false, decide_true, true_and, reduceCtorEq, Nat.reduceEqDiff, ↓reduceIte, Int.reduceEq, Int.reduceLT, Int.reduceLE, Nat.reduceAdd]
      exact hk H' g4 (((k1.trans k2).trans k3).trans k4)
    · rw [hf] at hk ⊢
      obtain ⟨H4, s4, g4, k4, n4⟩ := (Hp.swap g3).store (o := 1) (v := .int .i32 x) rfl (by simp)
      obtain ⟨H', l4, s5, l5, g5, k5⟩ := stop 65533 x H4 _ g4
      have hd : decide (([x] : List Int) ≠ []) = true := rfl
      have hx : ([x] : List Int).getD 0 0 = x := rfl
      simp only [hd, hx, e0, e1, e4, e5, xi1, s4, wb, l4, s5, l5, resVal, resVals, ARes.val, Int.reduceAdd, SX, Opd.ev, resVal, resVals, ARes.val, Bool.false_eq_true, Bool.not_false, Bool.not_true, List.getD_cons_succ, List.getD_cons_zero, List.map_cons, List.map_nil, Nat.add_zero, Nat.zero_add, Option.map_none, Option.map_some, Option.some.injEq, and_true, decide_false, decide_true, true_and, reduceCtorEq, Nat.reduceEqDiff, ↓reduceIte, Int.reduceEq, Int.reduceLT, Int.reduceLE, Nat.reduceAdd]
      exact hk H' g5 ((((k1.trans k2).trans k3).trans k4).trans k5)
  · have e : d.other b = d.first b := by unfold DSt.other; rw [if_neg c1]
    rw [e] at hk
    simp only [A56_rest, e0, e1, e4, e5, l0, c1, SX, Opd.ev, resVal, resVals, ARes.val, Bool.false_eq_true, Bool.not_false, Bool.not_true, List.getD_cons_succ, List.getD_cons_zero, List.map_cons, List.map_nil, Nat.add_zero, Nat.zero_add, Option.map_none, Option.map_some, Option.some.injEq, and_true, decide_false, decide_true, true_and, reduceCtorEq, Nat.reduceEqDiff, ↓reduceIte, Int.reduceEq, Int.reduceLT, Int.reduceLE, Nat.reduceAdd]
    refine (first_spec ho (d := d) q69 q74 h0 h1 (h.swap)).mono ?_
    rintro r H3 ⟨rfl, g3, k3⟩
    simp only [e0, e1, e4, e5, ex0, ex1, SX, Opd.ev, resVal, resVals, ARes.val, Bool.false_eq_true, Bool.not_false, Bool.not_true, List.getD_cons_succ, List.getD_cons_zero, List.map_cons, List.map_nil, Nat.add_zero, Nat.zero_add, Option.map_none, Option.map_some, Option.some.injEq, and_true, decide_false, decide_true, true_and, reduceCtorEq, Nat.reduceEqDiff, ↓reduceIte, Int.reduceEq, Int.reduceLT, Int.reduceLE, Nat.reduceAdd]
    rcases first_len d b with hf | ⟨x, hf⟩
    · rw [hf] at hk ⊢
      obtain ⟨H', l4, s4, l5, g4, k4⟩ := stop 0 0 H3 _ g3.swap
      have hd : decide (([] : List Int) ≠ []) = false := rfl
      simp only [hd, e0, e1, e4, e5, l4, s4, l5, resVal, resVals, ARes.val, SX, Opd.ev, resVal, resVals, ARes.val, Bool.false_eq_true, Bool.not_false, Bool.not_true, List.getD_cons_succ, List.getD_cons_zero, List.map_cons, List.map_nil, Nat.add_zero, Nat.zero_add, Option.map_none, Option.map_some, Option.some.injEq, and_true, decide_false, decide_true, true_and, reduceCtorEq, Nat.reduceEqDiff, ↓reduceIte, Int.reduceEq, Int.reduceLT, Int.reduceLE, Nat.reduceAdd]
      exact hk H' g4 (k3.trans k4)
    · rw [hf] at hk ⊢
      obtain ⟨H4, s4, g4, k4, n4⟩ := (Hp.swap g3).store (o := 0) (v := .int .i32 x) rfl (by simp)
      obtain ⟨H', l4, s5, l5, g5, k5⟩ := stop x 0 H4 _ g4
      have hd : decide (([x] : List Int) ≠ []) = true := rfl
      have hx : ([x] : List Int).getD 0 0 = x := rfl
      simp only [hd, hx, e0, e1, e4, e5, xi0, s4, wa, l4, s5, l5, resVal, resVals, ARes.val, Int.reduceAdd, SX, Opd.ev, resVal, resVals, ARes.val, Bool.false_eq_true, Bool.not_false, Bool.not_true, List.getD_cons_succ, List.getD_cons_zero, List.map_cons, List.map_nil, Nat.add_zero, Nat.zero_add, Option.map_none, Option.map_some, Option.some.injEq, and_true, decide_false, decide_true, true_and, reduceCtorEq, Nat.reduceEqDiff, ↓reduceIte, Int.reduceEq, Int.reduceLT, Int.reduceLE, Nat.reduceAdd]
      exact hk H' g5 ((k3.trans k4).trans k5)
set_option maxHeartbeats 4000000 in
theorem byteD_spec (q56 : Q.fns 56 = some A56) (q69 : Q.fns 69 = some A69) (q74 : Q.fns 74 = some A74) {b : Int} (h0 : 0 ≤ b) (h1 : b ≤ 255) (hg : d.Good) (h : Hp base H (⟨p, 1, d.cs ++ R⟩ :: l)) :
    FnTo Q 56 [.ptr p 0, .int .u8 b] H (fun r H' => r = .tup [arr2 (d.byte b).1, .int .i64 (d.byte b).1.length] ∧ Hp base H' (⟨p, 1, (d.byte b).2.cs ++ R⟩ :: l) ∧ Keep base H H') := by
  refine fn_wp (ho 56 rfl _) q56 (by simp [A56]) ?_
  obtain ⟨H1, s1, g1, k1⟩ := h.make [.int .i32 0, .int .i32 0] 1
  have m0 := g1.load (b := p) (k := 1) (cs := d.cs ++ R) (List.mem_cons_of_mem _ (List.mem_cons_self ..)) (o := 0) rfl
  have m1 := g1.load (b := p) (k := 1) (cs := d.cs ++ R) (List.mem_cons_of_mem _ (List.mem_cons_self ..)) (o := 1) rfl
  have m2 := g1.load (b := p) (k := 1) (cs := d.cs ++ R) (List.mem_cons_of_mem _ (List.mem_cons_self ..)) (o := 2) rfl
  have m3 := g1.load (b := p) (k := 1) (cs := d.cs ++ R) (List.mem_cons_of_mem _ (List.mem_cons_self ..)) (o := 3) rfl
  have m4 := g1.load (b := p) (k := 1) (cs := d.cs ++ R) (List.mem_cons_of_mem _ (List.mem_cons_self ..)) (o := 4) rfl
  have hbb : 0 ≤ b % 64 ∧ b % 64 < 64 := by omega
  have m63 := and_u8 63 (by omega) h0 h1
  simp only [Int.reduceAdd] at m63
  have w63 : IntKind.wrap .i32 (b % 64) = b % 64 := wrapI32 (by omega) (by omega)
  have rest : ¬ (0 < d.kept ∧ d.lo ≤ b ∧ b ≤ d.hi) → ∀ (e : Env), Env.get e 0 = .ptr p 0 → Env.get e 1 = .int .u8 b → Env.get e 4 = .ptr H.next 0 → Env.get e 5 = .int .i64 0 → ACode.wp Q A56_rest (fnK A56.res fun r H' => r = .tup [arr2 (d.byte b).1, .int .i64 (d.byte b).1.length] ∧ Hp base H' (⟨p, 1, (d.byte b).2.cs ++ R⟩ :: l) ∧ Keep base H H') e H1 := by
    intro hh e e0 e1 e4 e5
    refine rest56 ho q69 q74 h0 h1 g1 e0 e1 e4 e5 ?_
    intro H' g' k'
    have e : d.byte b = d.other b := by unfold DSt.byte DSt.other; rw [if_neg hh]
    rw [e]
    exact ⟨rfl, g', k1.trans k'⟩
  have res : A56.res = [.cell 4 (some 2), .t 5] := rfl
  rw [res] at rest
  by_cases c1 : 0 < d.kept
  · obtain ⟨q1, q2, q3, q4, q5, q6, q7⟩ := hg.l c1
    have hx64 : d.x < 33554432 := by omega
    have w2 : IntKind.wrap .i32 (d.x * 64) = d.x * 64 := wrapI32 (by omega) (by omega)
    have w3 : IntKind.wrap .i64 (d.kept + 1) = d.kept + 1 := wrapI64 (by omega) (by omega)
    have w4 : IntKind.wrap .i64 (d.left - 1) = d.left - 1 := wrapI64 (by omega) (by omega)
    have bo := or_i32 q4 hx64 hbb.1 hbb.2
    by_cases c2 : d.lo ≤ b
    · by_cases c3 : b ≤ d.hi
      · obtain ⟨H2, s2, g2, k2, n2⟩ := (g1.swap).storeO (a := []) (x := d.cs) (c := R) (o := 0) (n := 5) rfl rfl rfl (new := DSt.cs ⟨d.kept + 1, d.left - 1, 128, 191, d.x * 64 + b % 64⟩) rfl rfl
        have s2 : storeE H1 5 (.ptr p 0) (.agg [.int .i64 (d.kept + 1), .int .i64 (d.left - 1), .int .u8 128, .int .u8 191, .int .i32 (d.x * 64 + b % 64)]) = some (.undef, H2) := s2
        have n1 := g2.load (b := p) (k := 1) (List.mem_cons_self ..) (o := 1) (v := .int .i64 (d.left - 1)) rfl
        have n4 := g2.load (b := p) (k := 1) (List.mem_cons_self ..) (o := 4) (v := .int .i32 (d.x * 64 + b % 64)) rfl
        by_cases c4 : d.left = 1
        · have hb : d.byte b = ([d.x * 64 + b % 64], DSt.zero) := by unfold DSt.byte; rw [if_pos ⟨c1, c2, c3⟩, if_pos c4]
          have c4' : decide (d.left - 1 = 0) = true := by simp; omega
          have xi0 : ∀ q, idxAV 2 1 (.ptr q 0) (.int .i64 0) = some (.ptr q 0) := fun _ => rfl
          obtain ⟨H3, s3, g3, k3, n3⟩ := (Hp.swap g2).store (o := 0) (v := .int .i32 (d.x * 64 + b % 64)) rfl (by simp)
          obtain ⟨H4, s4, g4, k4, n4'⟩ := (Hp.swap g3).storeO (a := []) (x := DSt.cs ⟨d.kept + 1, d.left - 1, 128, 191, d.x * 64 + b % 64⟩) (c := R) (o := 0) (n := 5) rfl rfl rfl (new := DSt.zero.cs) rfl rfl
          have s4 : storeE H3 5 (.ptr p 0) (.agg [.int .i64 0, .int .i64 0, .int .u8 0, .int .u8 0, .int .i32 0]) = some (.undef, H4) := s4
          obtain ⟨H5, s5, g5, k5, n5⟩ := (Hp.swap g4).storeN (n := 2) (new := [.int .i32 (d.x * 64 + b % 64), .int .i32 0]) rfl rfl rfl
          have l4 := (Hp.swap g4).loadN (b := H.next) (k := 1) (cs := [.int .i32 (d.x * 64 + b % 64), .int .i32 0]) (List.mem_cons_self ..) (n := 2) rfl
          have l5 := g5.loadN (List.mem_cons_self ..) (n := 2) rfl
          simp only [A56, run_allocL, s1, m0, m1, m2, m3, m4, c1, c2, c3, w3, w4, shl_i32, w2, m63, w63, bo, bld5, bld5V_int, s2, n1, n4, c4', xi0, s3, run_build0, s4, l4, s5, l5, resVal, resVals, ARes.val, SX, Opd.ev, resVal, resVals, ARes.val, Bool.false_eq_true, Bool.not_false, Bool.not_true, List.getD_cons_succ, List.getD_cons_zero, List.map_cons, List.map_nil, Nat.add_zero, Nat.zero_add, Option.map_none, Option.map_some, Option.some.injEq, and_true, decide_false, decide_true, true_and, reduceCtorEq, Nat.reduceEqDiff, ↓reduceIte, Int.reduceEq, Int.reduceLT, Int.reduceLE, Nat.reduceAdd]
          rw [hb]
          exact ⟨rfl, g5.drop, ((((k1.trans k2).trans k3).trans k4).trans k5)⟩
        · have hb : d.byte b = ([], ⟨d.kept + 1, d.left - 1, 128, 191, d.x * 64 + b % 64⟩) := by unfold DSt.byte; rw [if_pos ⟨c1, c2, c3⟩, if_neg c4]
          have c4' : decide (d.left - 1 = 0) = false := by simp; omega
          obtain ⟨H5, s5, g5, k5, n5⟩ := (Hp.swap g2).storeN (n := 2) (new := [.int .i32 0, .int .i32 0]) rfl rfl rfl
          have l4 := (Hp.swap g2).loadN (b := H.next) (k := 1) (cs := [.int .i32 0, .int .i32 0]) (List.mem_cons_self ..) (n := 2) rfl
          have l5 := g5.loadN (List.mem_cons_self ..) (n := 2) rfl
          simp only [A56, run_allocL, s1, m0, m1, m2, m3, m4, c1, c2, c3, w3, w4, shl_i32, w2, m63, w63, bo, bld5, bld5V_int, s2, n1, n4, c4', l4, s5, l5, resVal, resVals, ARes.val, SX, Opd.ev, resVal, resVals, ARes.val, Bool.false_eq_true, Bool.not_false, Bool.not_true, List.getD_cons_succ, List.getD_cons_zero, List.map_cons, List.map_nil, Nat.add_zero, Nat.zero_add, Option.map_none, Option.map_some, Option.some.injEq, and_true, decide_false, decide_true, true_and, reduceCtorEq, Nat.reduceEqDiff, ↓reduceIte, Int.reduceEq, Int.reduceLT, Int.reduceLE, Nat.reduceAdd]
          rw [hb]
          exact ⟨rfl, g5.drop, ((k1.trans k2).trans k5)⟩
      · simp only [A56, run_allocL, s1, m0, m1, m2, m3, m4, c1, c2, c3, SX, Opd.ev, resVal, resVals, ARes.val, Bool.false_eq_true, Bool.not_false, Bool.not_true, List.getD_cons_succ, List.getD_cons_zero, List.map_cons, List.map_nil, Nat.add_zero, Nat.zero_add, Option.map_none, Option.map_some, Option.some.injEq, and_true, decide_false, decide_true, true_and, reduceCtorEq, Nat.reduceEqDiff, ↓reduceIte, Int.reduceEq, Int.reduceLT, Int.reduceLE, Nat.reduceAdd]
        refine rest (fun h => c3 h.2.2) _ ?_ ?_ ?_ ?_ <;> simp only [SX, Opd.ev, resVal, resVals, ARes.val, Bool.false_eq_true, Bool.not_false, Bool.not_true, List.getD_cons_succ, List.getD_cons_zero, List.map_cons, List.map_nil, Nat.add_zero, Nat.zero_add, Option.map_none, Option.map_some, Option.some.injEq, and_true, decide_false, decide_true, true_and, reduceCtorEq, Nat.reduceEqDiff, ↓reduceIte, Int.reduceEq, Int.reduceLT, Int.reduceLE, Nat.reduceAdd]
    · simp only [A56, run_allocL, s1, m0, m1, m2, m3, m4, c1, c2, SX, Opd.ev, resVal, resVals, ARes.val, Bool.false_eq_true, Bool.not_false, Bool.not_true, List.getD_cons_succ, List.getD_cons_zero, List.map_cons, List.map_nil, Nat.add_zero, Nat.zero_add, Option.map_none, Option.map_some, Option.some.injEq, and_true, decide_false, decide_true, true_and, reduceCtorEq, Nat.reduceEqDiff, ↓reduceIte, Int.reduceEq, Int.reduceLT, Int.reduceLE, Nat.reduceAdd]
      refine rest (fun h => c2 h.2.1) _ ?_ ?_ ?_ ?_ <;> simp only [SX, Opd.ev, resVal, resVals, ARes.val, Bool.false_eq_true, Bool.not_false, Bool.not_true, List.getD_cons_succ, List.getD_cons_zero, List.map_cons, List.map_nil, Nat.add_zero, Nat.zero_add, Option.map_none, Option.map_some, Option.some.injEq, and_true, decide_false, decide_true, true_and, reduceCtorEq, Nat.reduceEqDiff, ↓reduceIte, Int.reduceEq, Int.reduceLT, Int.reduceLE, Nat.reduceAdd]
  · simp only [A56, run_allocL, s1, m0, c1, SX, Opd.ev, resVal, resVals, ARes.val, Bool.false_eq_true, Bool.not_false, Bool.not_true, List.getD_cons_succ, List.getD_cons_zero, List.map_cons, List.map_nil, Nat.add_zero, Nat.zero_add, Option.map_none, Option.map_some, Option.some.injEq, and_true, decide_false, decide_true, true_and, reduceCtorEq, Nat.reduceEqDiff, ↓reduceIte, Int.reduceEq, Int.reduceLT, Int.reduceLE, Nat.reduceAdd]
    refine rest (fun h => c1 h.1) _ ?_ ?_ ?_ ?_ <;> simp only [SX, Opd.ev, resVal, resVals, ARes.val, Bool.false_eq_true, Bool.not_false, Bool.not_true, List.getD_cons_succ, List.getD_cons_zero, List.map_cons, List.map_nil, Nat.add_zero, Nat.zero_add, Option.map_none, Option.map_some, Option.some.injEq, and_true, decide_false, decide_true, true_and, reduceCtorEq, Nat.reduceEqDiff, ↓reduceIte, Int.reduceEq, Int.reduceLT, Int.reduceLE, Nat.reduceAdd]
set_option maxHeartbeats 2000000 in
theorem waitsD_spec (q33 : Q.fns 33 = some A33) (h : Hp base H (⟨p, 1, d.cs ++ R⟩ :: l)) : FnTo Q 33 [.ptr p 0] H (fun r H' => r = .int .i64 d.kept ∧ H' = H) := by
  refine fn_wp (ho 33 rfl _) q33 (by simp [A33]) ?_
  have l0 := h.load (b := p) (k := 1) (cs := d.cs ++ R) (List.mem_cons_self ..) (o := 0) rfl
  simp only [A33, l0, SX, Opd.ev, resVal, resVals, ARes.val, Bool.false_eq_true, Bool.not_false, Bool.not_true, List.getD_cons_succ, List.getD_cons_zero, List.map_cons, List.map_nil, Nat.add_zero, Nat.zero_add, Option.map_none, Option.map_some, Option.some.injEq, and_true, decide_false, decide_true, true_and, reduceCtorEq, Nat.reduceEqDiff, ↓reduceIte, Int.reduceEq, Int.reduceLT, Int.reduceLE, Nat.reduceAdd]
def DSt.ends (d : DSt) : DSt := if d.kept = 0 then d else DSt.zero
set_option maxHeartbeats 2000000 in
theorem endD_spec (q33 : Q.fns 33 = some A33) (q40 : Q.fns 40 = some A40) (h : Hp base H (⟨p, 1, d.cs ++ R⟩ :: l)) :
    FnTo Q 40 [.ptr p 0] H (fun r H' => r = .tup [.int .i32 (if d.kept = 0 then 0 else 65533), .bool (decide (d.kept ≠ 0))] ∧ Hp base H' (⟨p, 1, d.ends.cs ++ R⟩ :: l) ∧ Keep base H H') := by
  refine fn_wp (ho 40 rfl _) q40 (by simp [A40]) ?_
  simp only [A40, SX, Opd.ev, resVal, resVals, ARes.val, Bool.false_eq_true, Bool.not_false, Bool.not_true, List.getD_cons_succ, List.getD_cons_zero, List.map_cons, List.map_nil, Nat.add_zero, Nat.zero_add, Option.map_none, Option.map_some, Option.some.injEq, and_true, decide_false, decide_true, true_and, reduceCtorEq, Nat.reduceEqDiff, ↓reduceIte, Int.reduceEq, Int.reduceLT, Int.reduceLE, Nat.reduceAdd]
  refine (waitsD_spec ho q33 h).mono ?_
  rintro r H' ⟨rfl, rfl⟩
  by_cases c : d.kept = 0
  · have c' : decide (d.kept = 0) = true := by simpa using c
    simp only [c', resVal, resVals, ARes.val, SX, Opd.ev, resVal, resVals, ARes.val, Bool.false_eq_true, Bool.not_false, Bool.not_true, List.getD_cons_succ, List.getD_cons_zero, List.map_cons, List.map_nil, Nat.add_zero, Nat.zero_add, Option.map_none, Option.map_some, Option.some.injEq, and_true, decide_false, decide_true, true_and, reduceCtorEq, Nat.reduceEqDiff, ↓reduceIte, Int.reduceEq, Int.reduceLT, Int.reduceLE, Nat.reduceAdd]
    have : d.ends = d := by unfold DSt.ends; rw [if_pos c]
    rw [this]
    exact ⟨by simp [c], h, Keep.refl _ _⟩
  · have c' : decide (d.kept = 0) = false := by simpa using c
    obtain ⟨H1, s1, g1, k1, n1⟩ := h.storeO (a := []) (x := d.cs) (c := R) (o := 0) (n := 5) rfl rfl rfl (new := DSt.zero.cs) rfl rfl
    have s1 : storeE H' 5 (.ptr p 0) (.agg [.int .i64 0, .int .i64 0, .int .u8 0, .int .u8 0, .int .i32 0]) = some (.undef, H1) := s1
    simp only [c', run_build0, s1, resVal, resVals, ARes.val, SX, Opd.ev, resVal, resVals, ARes.val, Bool.false_eq_true, Bool.not_false, Bool.not_true, List.getD_cons_succ, List.getD_cons_zero, List.map_cons, List.map_nil, Nat.add_zero, Nat.zero_add, Option.map_none, Option.map_some, Option.some.injEq, and_true, decide_false, decide_true, true_and, reduceCtorEq, Nat.reduceEqDiff, ↓reduceIte, Int.reduceEq, Int.reduceLT, Int.reduceLE, Nat.reduceAdd]
    have : d.ends = DSt.zero := by unfold DSt.ends; rw [if_neg c]
    rw [this]
    exact ⟨by simp [c], g1, k1⟩
end
/-! ### Blocks in another order -/
noncomputable def decCel : DecidableEq Cel := fun a b => Classical.propDecidable (a = b)
noncomputable def cnt (a : Cel) (l : List Cel) : Nat := @List.count Cel (@instBEqOfDecidableEq _ decCel) a l
noncomputable def one1 (a x : Cel) : Nat := cnt a [x]
theorem cnt_nil (a : Cel) : cnt a [] = 0 := rfl
theorem cnt_append (a : Cel) (l l' : List Cel) : cnt a (l ++ l') = cnt a l + cnt a l' := by
  letI : DecidableEq Cel := decCel
  exact List.count_append
theorem cnt_cons (a x : Cel) (l : List Cel) : cnt a (x :: l) = cnt a l + one1 a x := by
  have := cnt_append a [x] l
  simp only [List.singleton_append] at this
  rw [this]; unfold one1; omega
theorem perm_cnt {l l' : List Cel} (h : ∀ a, cnt a l = cnt a l') : l.Perm l' := by
  letI : DecidableEq Cel := decCel
  exact List.perm_iff_count.2 h
theorem Hp.re {base : Nat} {H : AHeap} {l l' : List Cel} (h : Hp base H l) (e : ∀ a, cnt a l = cnt a l') : Hp base H l' := h.perm (perm_cnt e)
/-! ### Values and the blocks that they lie in -/
structure PEv where
  k : Int
  r : Int
  f : Int
  m : List UInt8
  L : List (List Int)
  t : List UInt8
  deriving DecidableEq
def Ev.pure (a : Ev) : PEv := ⟨a.k, a.r, a.f, a.m, a.L, a.t⟩
abbrev EvC := Ev × List Cel
def PRv (v : AV) (L : List (List Int)) (cl : List Cel) : Prop := (L = [] ∧ v = .nils ∧ cl = []) ∨ ∃ b M, M ≠ [] ∧ M.map (·.2) = L ∧ v = .slc b 0 M.length M.length ∧ cl = ⟨b, 1, heads M⟩ :: inner M
def flatV (E : List EvC) : List AV := E.flatMap fun a => a.1.cs
def flatC (E : List EvC) : List Cel := E.flatMap fun a => a.2
def TRv (v : AV) (E : List EvC) (cl : List Cel) : Prop := (E = [] ∧ v = .nils ∧ cl = []) ∨ ∃ b pre, v = .slc b pre.length E.length E.length ∧ cl = ⟨b, 6, pre ++ flatV E⟩ :: flatC E
def bytesV (t : List UInt8) : List AV := t.map fun c => .int .u8 c.toNat
def XRv (v : AV) (t : List UInt8) (cl : List Cel) : Prop := (t = [] ∧ v = .nils ∧ cl = []) ∨ ∃ b, t ≠ [] ∧ v = .slc b 0 t.length t.length ∧ cl = [⟨b, 1, bytesV t⟩]
structure PSt where
  d : DSt
  st : Int
  ps : PS
  mids : List UInt8
  many : Bool
  fin : Int
  text : List UInt8
  long : Bool
  told : List PEv
def pcs (s : PSt) (lv xv tv : AV) : List AV := s.d.cs ++ [.int .i64 s.st, lv, .bool s.ps.ov, .bool s.ps.fu, .str s.mids, .bool s.many, .int .u8 s.fin, xv, .bool s.long, tv]
structure PC where
  lv : AV
  xv : AV
  tv : AV
  lcl : List Cel
  xcl : List Cel
  tcl : List Cel
  E : List EvC
structure PC.ok (c : PC) (s : PSt) : Prop where
  l : PRv c.lv s.ps.L c.lcl
  x : XRv c.xv s.text c.xcl
  t : TRv c.tv c.E c.tcl
  e : c.E.map (fun a => a.1.pure) = s.told
  ev : ∀ a ∈ c.E, PRv a.1.v a.1.L a.2
def PC.rest (c : PC) (l : List Cel) : List Cel := c.lcl ++ (c.xcl ++ (c.tcl ++ l))
/-- a parser lies at p -/
def Par (base : Nat) (H : AHeap) (p : Nat) (s : PSt) (l : List Cel) : Prop := ∃ c : PC, c.ok s ∧ Hp base H (⟨p, 1, pcs s c.lv c.xv c.tv⟩ :: c.rest l)
theorem PRv.one {v : AV} {L : List (List Int)} {cl : List Cel} (h : PRv v L cl) : v.one = true := by
  rcases h with ⟨_, rfl, _⟩ | ⟨b, M, _, _, rfl, _⟩ <;> rfl
theorem PRv.nil : PRv .nils [] [] := .inl ⟨rfl, rfl, rfl⟩
theorem Par.keep {base : Nat} {H H' : AHeap} {p : Nat} {s : PSt} {l : List Cel} (h : Par base H p s l) (g : Gr H H') : Par base H' p s l := by
  obtain ⟨c, ok, hp⟩ := h
  exact ⟨c, ok, hp.keep g.keep g.next g.fr⟩
theorem Par.fr {base : Nat} {H : AHeap} {p : Nat} {s : PSt} {l : List Cel} (h : Par base H p s l) : Fr H := by
  obtain ⟨c, ok, hp⟩ := h
  exact hp.fr
theorem Par.bn {base : Nat} {H : AHeap} {p : Nat} {s : PSt} {l : List Cel} (h : Par base H p s l) : base ≤ H.next := by
  obtain ⟨c, ok, hp⟩ := h
  exact hp.bn
/-- the other blocks, ahead of those of the parser -/
theorem Par.open {base : Nat} {H : AHeap} {p : Nat} {s : PSt} {l : List Cel} (h : Par base H p s l) : ∃ r, Hp base H (l ++ r) ∧ ∀ H' l', Hp base H' (l' ++ r) → Par base H' p s l' := by
  obtain ⟨c, ok, hp⟩ := h
  refine ⟨⟨p, 1, pcs s c.lv c.xv c.tv⟩ :: (c.lcl ++ (c.xcl ++ c.tcl)), hp.re fun a => ?_, fun H' l' h' => ⟨c, ok, h'.re fun a => ?_⟩⟩
  · simp only [PC.rest, cnt_cons, cnt_append]; omega
  · simp only [PC.rest, cnt_cons, cnt_append]; omega
theorem Par.re {base : Nat} {H : AHeap} {p : Nat} {s : PSt} {l l' : List Cel} (h : Par base H p s l) (e : ∀ a, cnt a l = cnt a l') : Par base H p s l' := by
  obtain ⟨r, hp, back⟩ := h.open
  exact back _ _ (hp.re fun a => by simp only [cnt_append, e a])
theorem Par.hp {base : Nat} {H : AHeap} {p : Nat} {s : PSt} {l : List Cel} (h : Par base H p s l) : Hp base H l := by
  obtain ⟨r, hp, back⟩ := h.open
  exact hp.sub (List.sublist_append_left _ _)
theorem Par.make {base : Nat} {H : AHeap} {p : Nat} {s : PSt} {l : List Cel} (h : Par base H p s l) (cs : List AV) (k : Nat) :
    ∃ H', H.alloc (.row ⟨cs, 0, false, true, 0⟩) = H' ∧ Par base H' p s (⟨H.next, k, cs⟩ :: l) ∧ Keep base H H' := by
  obtain ⟨r, hp, back⟩ := h.open
  obtain ⟨H', e, g, k⟩ := hp.make cs k
  exact ⟨H', e, back _ _ g, k⟩
theorem Par.drop {base : Nat} {H : AHeap} {p : Nat} {s : PSt} {l : List Cel} {x : Cel} (h : Par base H p s (x :: l)) : Par base H p s l := by
  obtain ⟨r, hp, back⟩ := h.open
  exact back _ _ (Hp.drop (l := l ++ r) hp)
theorem Par.join {base : Nat} {H H' : AHeap} {p : Nat} {s : PSt} {l l' : List Cel} (h : Par base H p s l) (g : Gr H H') (h' : Hp H.next H' l') : Par base H' p s (l' ++ l) := by
  obtain ⟨r, hp, back⟩ := h.open
  refine back _ _ ?_
  rw [List.append_assoc]
  exact hp.join g h'
/-! ### Events -/
def zeroE : List AV := [.int .i64 0, .int .i32 0, .int .u8 0, .str [], .nils, .str []]
def bs6V (v : AV) : Option (AObj × AKind) := LOp.run .nil (.bslice 6 1 zeroE [(0, .c v)])
theorem run_bslice6 (e : Env) (x : Opd) : LOp.run e (.bslice 6 1 zeroE [(0, x)]) = bs6V (x.ev e) := rfl
theorem bs6V_ev {a : Ev} (h : a.v.one = true) : bs6V a.val = some (.row ⟨a.cs, 0, false, true, 0⟩, .slc 1 1) := by
  have h1 : a.val.cells = a.cs := rfl
  have h2 : a.cs.length = 6 := rfl
  have h3 : a.cs.all AV.one = true := by simp only [Ev.cs, List.all_cons, List.all_nil, h]; rfl
  have h4 : zeros zeroE (1 * 6) = zeroE := rfl
  have h5 : over zeroE (0 * 6) a.cs = a.cs := rfl
  simp only [bs6V, LOp.run, h4, List.map_cons, List.map_nil, Opd.ev, buildIn, h1, h2, h5]
  simp [h3, zeroE]
theorem box_evV {a : Ev} (h : a.v.one = true) : boxV a.val = some (.row ⟨a.cs, 0, false, true, 0⟩, .ptr) := by
  have h3 : a.cs.all AV.one = true := by simp only [Ev.cs, List.all_cons, List.all_nil, h]; rfl
  have h1 : a.val.cells = a.cs := rfl
  simp only [boxV, h1, h3, if_true]
def PSt.tell (s : PSt) (e : PEv) : PSt := { s with told := s.told ++ [e] }
theorem ev_ones {E : List EvC} (h : ∀ a ∈ E, PRv a.1.v a.1.L a.2) : (flatV E).all AV.one = true := by
  induction E with
  | nil => rfl
  | cons a E ih =>
    have h1 := (h a (List.mem_cons_self ..)).one
    have h3 : a.1.cs.all AV.one = true := by simp only [Ev.cs, List.all_cons, List.all_nil, h1]; rfl
    simp only [flatV, List.flatMap_cons, List.all_append, h3, Bool.true_and]
    exact ih fun x hx => h x (List.mem_cons_of_mem _ hx)
theorem flatV_len (E : List EvC) : (flatV E).length = E.length * 6 := by
  induction E with
  | nil => rfl
  | cons a E ih =>
    have : (flatV (a :: E)).length = 6 + (flatV E).length := by simp only [flatV, List.flatMap_cons, List.length_append]; rfl
    rw [this, ih, List.length_cons]; omega
theorem flatV_app (E F : List EvC) : flatV (E ++ F) = flatV E ++ flatV F := List.flatMap_append ..
theorem flatC_app (E F : List EvC) : flatC (E ++ F) = flatC E ++ flatC F := List.flatMap_append ..
theorem flatV_one (a : EvC) : flatV [a] = a.1.cs := by simp [flatV]
theorem flatC_one (a : EvC) : flatC [a] = a.2 := by simp [flatC]
/-- events behind events -/
theorem TRv.push {base : Nat} {H : AHeap} {v : AV} {E F : List EvC} {cl l : List Cel} {w : AV} (h : TRv v E cl) (hp : Hp base H (cl ++ l)) (hsrc : srcCells H 6 w = some (F.length, flatV F)) (hF : ∀ a ∈ F, PRv a.1.v a.1.L a.2) (h0 : 0 < F.length) (hs : E.length + F.length ≤ 10000000) :
    ∃ b H', appendE H 6 72 v w = some (.slc b 0 (E ++ F).length (E ++ F).length, H') ∧ Hp base H' (⟨b, 6, flatV (E ++ F)⟩ :: (flatC E ++ l)) ∧ Keep base H H' := by
  rcases h with ⟨rfl, rfl, rfl⟩ | ⟨b, pre, rfl, rfl⟩
  · obtain ⟨H', s, g, k⟩ := hp.appendK0 (k := 6) (bytes := 72) (by omega) hsrc h0 (ev_ones hF) (by omega) (by omega)
    exact ⟨_, H', s, g, k⟩
  · obtain ⟨H', s, g, k⟩ := Hp.appendK (l := flatC E ++ l) hp (k := 6) (bytes := 72) rfl (flatV_len E) (by omega) hsrc h0 (ev_ones hF) (by omega) (by omega)
    refine ⟨_, H', by rw [List.length_append]; exact s, ?_, k⟩
    rw [flatV_app]; exact g
section
variable {Q : Prog} (ho : ∀ f, (Nat.beq f 11 || Nat.beq f 24) = false → ∀ a, Q.orc f a = Option.none) {base : Nat} {H : AHeap} {p : Nat} {s : PSt} {l : List Cel}
include ho
set_option maxHeartbeats 4000000 in
theorem tells_spec (q54 : Q.fns 54 = some A54) {a : EvC} (ha : PRv a.1.v a.1.L a.2) (h : Par base H p s (a.2 ++ l)) (hs : s.told.length ≤ 1000000) :
    FnTo Q 54 [.ptr p 0, a.1.val] H (fun r H' => Par base H' p (s.tell a.1.pure) l ∧ Keep base H H') := by
  refine fn_wp (ho 54 rfl _) q54 (by simp [A54]) ?_
  obtain ⟨c, ok, hp⟩ := h
  have hE : c.E.length = s.told.length := by rw [← ok.e]; simp
  obtain ⟨H1, s1, g1, k1⟩ := hp.make a.1.cs 6
  have l1 := g1.load (b := p) (k := 1) (cs := pcs s c.lv c.xv c.tv) (by simp) (o := 14) rfl
  have l2 : loadV H1 (some 6) (.ptr H.next 0) = some a.1.val := g1.loadN (b := H.next) (k := 6) (cs := a.1.cs) (by simp) (n := 6) rfl
  obtain ⟨H2, s2, g2, k2⟩ := g1.make a.1.cs 6
  have hz : [AV.int .i64 0, .int .i32 0, .int .u8 0, .str [], .nils, .str []] = zeroE := rfl
  have g2' : Hp base H2 (c.tcl ++ (⟨H1.next, 6, [] ++ (a.1.cs ++ [])⟩ :: (⟨p, 1, pcs s c.lv c.xv c.tv⟩ :: (c.lcl ++ (c.xcl ++ (a.2 ++ l)))))) := by
    rw [List.append_nil, List.nil_append]
    exact g2.drop.sub (l' := _) (List.Sublist.refl _) |> fun _ => (g2.swap.drop).re fun x => by simp only [PC.rest, cnt_cons, cnt_append]; omega
  have hsrc : srcCells H2 6 (.slc H1.next 0 1 1) = some ([a].length, flatV [a]) := by
    rw [flatV_one]
    exact g2'.src (k' := 6) (pre := []) (post := []) (ys := a.1.cs) (List.mem_append_right _ (List.mem_cons_self ..)) rfl rfl (by omega)
  obtain ⟨b, H3, s3, g3, k3⟩ := ok.t.push g2' hsrc (fun x hx => by simp only [List.mem_singleton] at hx; subst hx; exact ha) (by simp) (by simp; omega)
  have g3' : Hp base H3 (⟨p, 1, pcs s c.lv c.xv c.tv⟩ :: ⟨b, 6, flatV (c.E ++ [a])⟩ :: (flatC c.E ++ (c.lcl ++ (c.xcl ++ (a.2 ++ l))))) := by
    have := g3.re (l' := ⟨H1.next, 6, [] ++ (a.1.cs ++ [])⟩ :: (⟨p, 1, pcs s c.lv c.xv c.tv⟩ :: ⟨b, 6, flatV (c.E ++ [a])⟩ :: (flatC c.E ++ (c.lcl ++ (c.xcl ++ (a.2 ++ l)))))) (fun x => by simp only [cnt_cons, cnt_append]; omega)
    exact this.drop
  obtain ⟨H4, s4, g4, k4, n4⟩ := g3'.store (o := 14) (v := .slc b 0 (c.E ++ [a]).length (c.E ++ [a]).length) rfl (by simp [pcs, DSt.cs])
  simp only [A54, box_evV ha.one, s1, l1, l2, hz, run_bslice6, bs6V_ev ha.one, s2, s3, s4, resNil, SX, Opd.ev, resVal, resVals, ARes.val, Bool.false_eq_true, Bool.not_false, Bool.not_true, List.getD_cons_succ, List.getD_cons_zero, List.map_cons, List.map_nil, Nat.add_zero, Nat.zero_add, Option.map_none, Option.map_some, Option.some.injEq, and_true, decide_false, decide_true, true_and, reduceCtorEq, Nat.reduceEqDiff, ↓reduceIte, Int.reduceEq, Int.reduceLT, Int.reduceLE, Nat.reduceAdd]
  refine ⟨⟨⟨c.lv, c.xv, .slc b 0 (c.E ++ [a]).length (c.E ++ [a]).length, c.lcl, c.xcl, ⟨b, 6, flatV (c.E ++ [a])⟩ :: flatC (c.E ++ [a]), c.E ++ [a]⟩, ⟨ok.l, ok.x, .inr ⟨b, [], rfl, rfl⟩, ?_, ?_⟩, ?_⟩, ((k1.trans k2).trans k3).trans k4⟩
  · simp only [PSt.tell, List.map_append, ok.e, List.map_cons, List.map_nil]
  · intro x hx
    rcases List.mem_append.1 hx with hx | hx
    · exact ok.ev x hx
    · simp only [List.mem_singleton] at hx; subst hx; exact ha
  · refine Hp.re (l := ⟨p, 1, (pcs s c.lv c.xv c.tv).set 14 (.slc b 0 (c.E ++ [a]).length (c.E ++ [a]).length)⟩ :: ⟨b, 6, flatV (c.E ++ [a])⟩ :: (flatC c.E ++ (c.lcl ++ (c.xcl ++ (a.2 ++ l))))) g4 fun x => ?_
    have e1 : (pcs s c.lv c.xv c.tv).set 14 (.slc b 0 (c.E ++ [a]).length (c.E ++ [a]).length) = pcs (s.tell a.1.pure) c.lv c.xv (.slc b 0 (c.E ++ [a]).length (c.E ++ [a]).length) := rfl
    rw [e1, flatC_app, flatC_one]
    simp only [PC.rest, cnt_cons, cnt_append]
    omega
end

end Go.Proofs.Yteockjhckmlclaa.AM
