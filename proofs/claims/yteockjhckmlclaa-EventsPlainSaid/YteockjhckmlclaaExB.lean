/-
  The parser of events, walked on the abstract machine (turned to the machine with types).
-/
import Derived.Test.YteockjhckmlclaaExA
set_option linter.unusedVariables false
set_option linter.unusedSimpArgs false
namespace Go.Proofs.Yteockjhckmlclaa.AM
open Go
structure EvQ (Q : Prog) : Prop where
  q14 : Q.fns 14 = some A14
  q16 : Q.fns 16 = some A16
  q19 : Q.fns 19 = some A19
  q22 : Q.fns 22 = some A22
  q27 : Q.fns 27 = some A27
  q28 : Q.fns 28 = some A28
  q29 : Q.fns 29 = some A29
  q30 : Q.fns 30 = some A30
  q31 : Q.fns 31 = some A31
  q32 : Q.fns 32 = some A32
  q33 : Q.fns 33 = some A33
  q40 : Q.fns 40 = some A40
  q41 : Q.fns 41 = some A41
  q48 : Q.fns 48 = some A48
  q49 : Q.fns 49 = some A49
  q50 : Q.fns 50 = some A50
  q51 : Q.fns 51 = some A51
  q52 : Q.fns 52 = some A52
  q53 : Q.fns 53 = some A53
  q54 : Q.fns 54 = some A54
  q55 : Q.fns 55 = some A55
  q56 : Q.fns 56 = some A56
  q57 : Q.fns 57 = some A57
  q58 : Q.fns 58 = some A58
  q59 : Q.fns 59 = some A59
  q68 : Q.fns 68 = some A68
  q69 : Q.fns 69 = some A69
  q70 : Q.fns 70 = some A70
  q74 : Q.fns 74 = some A74
  ho : ∀ f, (Nat.beq f 11 || Nat.beq f 24) = false → ∀ a, Q.orc f a = Option.none
/-- an event without parameters -/
def ev0 (k r f : Int) (m t : List UInt8) : EvC := (⟨k, r, f, m, .nils, t, []⟩, [])
theorem ev0_ok (k r f : Int) (m t : List UInt8) : PRv (ev0 k r f m t).1.v (ev0 k r f m t).1.L (ev0 k r f m t).2 := PRv.nil
theorem ev0_pure (k r f : Int) (m t : List UInt8) : (ev0 k r f m t).1.pure = ⟨k, r, f, m, [], t⟩ := rfl
theorem build_print (r : Int) : buildV zeroE [(0, 1, .int .i64 1), (1, 1, .int .i32 r)] = some (ev0 1 r 0 [] []).1.val := rfl
theorem build_exec (c : Int) : buildV zeroE [(0, 1, .int .i64 2), (2, 1, .int .u8 c)] = some (ev0 2 0 c [] []).1.val := rfl
theorem build_esc (c : Int) (m : List UInt8) : buildV zeroE [(0, 1, .int .i64 3), (2, 1, .int .u8 c), (3, 1, .str m)] = some (ev0 3 0 c m []).1.val := rfl
theorem build_osc (t : List UInt8) : buildV zeroE [(0, 1, .int .i64 5), (5, 1, .str t)] = some (ev0 5 0 0 [] t).1.val := rfl
theorem build_csi (c : Int) (m : List UInt8) {v : AV} {L : List (List Int)} {cl : List Cel} (h : PRv v L cl) : buildV zeroE [(0, 1, .int .i64 4), (2, 1, .int .u8 c), (3, 1, .str m), (4, 1, v)] = some (Ev.val ⟨4, 0, c, m, v, [], L⟩) := by
  rcases h with ⟨_, rfl, _⟩ | ⟨b, M, _, _, rfl, _⟩ <;> rfl
theorem build_dcs (c : Int) (m t : List UInt8) {v : AV} {L : List (List Int)} {cl : List Cel} (h : PRv v L cl) : buildV zeroE [(0, 1, .int .i64 6), (2, 1, .int .u8 c), (3, 1, .str m), (4, 1, v), (5, 1, .str t)] = some (Ev.val ⟨6, 0, c, m, v, t, L⟩) := by
  rcases h with ⟨_, rfl, _⟩ | ⟨b, M, _, _, rfl, _⟩ <;> rfl
theorem hzE : [AV.int .i64 0, .int .i32 0, .int .u8 0, .str [], .nils, .str []] = zeroE := rfl
def PSt.prints (s : PSt) (xs : List Int) : PSt := { s with told := s.told ++ xs.map fun r => ⟨1, r, 0, [], [], []⟩ }
theorem prints_tell (s : PSt) (xs : List Int) (r : Int) : (s.prints xs).tell ⟨1, r, 0, [], [], []⟩ = s.prints (xs ++ [r]) := by
  simp [PSt.prints, PSt.tell]
theorem prints_nil (s : PSt) : s.prints [] = s := by simp [PSt.prints]
def PSt.endS (s : PSt) : PSt := if s.d.kept = 0 then s else { s with d := DSt.zero, told := s.told ++ [⟨1, 65533, 0, [], [], []⟩] }
section
variable {Q : Prog} (eq : EvQ Q) {base : Nat} {H : AHeap} {p : Nat} {s : PSt} {l : List Cel}
include eq
set_option maxHeartbeats 4000000 in
theorem prints_spec {q cap : Nat} {xs : List Int} {post : List AV} (h : Par base H p s (⟨q, 1, xs.map (.int .i32) ++ post⟩ :: l)) (hs : s.told.length + xs.length ≤ 1000000) :
    FnTo Q 41 [.ptr p 0, .slc q 0 xs.length cap] H (fun r H' => Par base H' p (s.prints xs) (⟨q, 1, xs.map (.int .i32) ++ post⟩ :: l) ∧ Keep base H H') := by
  refine fn_wp (eq.ho 41 rfl _) eq.q41 (by simp [A41]) ?_
  simp only [A41, SX, Opd.ev, resVal, resVals, ARes.val, Bool.false_eq_true, Bool.not_false, Bool.not_true, List.getD_cons_succ, List.getD_cons_zero, List.map_cons, List.map_nil, Nat.add_zero, Nat.zero_add, Option.map_none, Option.map_some, Option.some.injEq, and_true, decide_false, decide_true, true_and, reduceCtorEq, Nat.reduceEqDiff, ↓reduceIte, Int.reduceEq, Int.reduceLT, Int.reduceLE, Nat.reduceAdd]
  obtain ⟨I, hI⟩ : ∃ I : Nat → Env → AHeap → Prop, ∀ m e H', I m e H' ↔ (Keep base H H' ∧ ∃ i : Nat, m = xs.length - i ∧ i ≤ xs.length ∧ Par base H' p (s.prints (xs.take i)) (⟨q, 1, xs.map (.int .i32) ++ post⟩ :: l) ∧ Env.get e 0 = .ptr p 0 ∧ Env.get e 6 = .slc q 0 xs.length cap ∧ Env.get e 7 = .int .i64 xs.length ∧ Env.get e 8 = .int .i64 i) := ⟨_, fun _ _ _ => Iff.rfl⟩
  refine loop_by I xs.length ?_ ?_
  · refine (hI _ _ _).2 ⟨Keep.refl _ _, 0, rfl, by omega, by rw [List.take_zero, prints_nil]; exact h, ?_⟩
    simp only [SX, Opd.ev, resVal, resVals, ARes.val, Bool.false_eq_true, Bool.not_false, Bool.not_true, List.getD_cons_succ, List.getD_cons_zero, List.map_cons, List.map_nil, Nat.add_zero, Nat.zero_add, Option.map_none, Option.map_some, Option.some.injEq, and_true, decide_false, decide_true, true_and, reduceCtorEq, Nat.reduceEqDiff, ↓reduceIte, Int.reduceEq, Int.reduceLT, Int.reduceLE, Nat.reduceAdd]; rfl
  · intro m e H1 hinv
    obtain ⟨k1, i, rfl, hi, par, e0, e6, e7, e8⟩ := (hI _ _ _).1 hinv
    by_cases d : (i : Int) < xs.length
    · obtain ⟨r, hr⟩ : ∃ r, xs[i]? = some r := ⟨_, List.getElem?_eq_getElem (by omega)⟩
      have xi : idxSV 1 (.slc q 0 xs.length cap) (.int .i64 i) = some (.ptr q (0 + i)) := idxSV_slc (by omega)
      have lr := par.hp.load (b := q) (k := 1) (cs := xs.map (.int .i32) ++ post) (List.mem_cons_self ..) (o := i) (v := .int .i32 r) (by rw [List.getElem?_append_left (by simp; omega), List.getElem?_map, hr]; rfl)
      have w1 : IntKind.wrap .i64 ((i : Int) + 1) = ((i + 1 : Nat) : Int) := by rw [wrapI64 (by omega) (by omega)]; rfl
      simp only [e0, e6, e7, e8, d, xi, lr, hzE, run_build, build_print, SX, Opd.ev, resVal, resVals, ARes.val, Bool.false_eq_true, Bool.not_false, Bool.not_true, List.getD_cons_succ, List.getD_cons_zero, List.map_cons, List.map_nil, Nat.add_zero, Nat.zero_add, Option.map_none, Option.map_some, Option.some.injEq, and_true, decide_false, decide_true, true_and, reduceCtorEq, Nat.reduceEqDiff, ↓reduceIte, Int.reduceEq, Int.reduceLT, Int.reduceLE, Nat.reduceAdd]
      refine (tells_spec eq.ho eq.q54 (ev0_ok 1 r 0 [] []) (l := ⟨q, 1, xs.map (.int .i32) ++ post⟩ :: l) par (by simp [PSt.prints]; omega)).mono ?_
      rintro r' H2 ⟨par2, k2⟩
      simp only [e0, e6, e7, e8, w1, SX, Opd.ev, resVal, resVals, ARes.val, Bool.false_eq_true, Bool.not_false, Bool.not_true, List.getD_cons_succ, List.getD_cons_zero, List.map_cons, List.map_nil, Nat.add_zero, Nat.zero_add, Option.map_none, Option.map_some, Option.some.injEq, and_true, decide_false, decide_true, true_and, reduceCtorEq, Nat.reduceEqDiff, ↓reduceIte, Int.reduceEq, Int.reduceLT, Int.reduceLE, Nat.reduceAdd]
      refine ⟨xs.length - (i + 1), by omega, (hI _ _ _).2 ⟨k1.trans k2, i + 1, rfl, by omega, ?_, ?_⟩⟩
      · rw [ev0_pure, prints_tell] at par2
        rw [List.take_add_one, hr]
        exact par2
      · simp only [e0, e6, e7, e8, SX, Opd.ev, resVal, resVals, ARes.val, Bool.false_eq_true, Bool.not_false, Bool.not_true, List.getD_cons_succ, List.getD_cons_zero, List.map_cons, List.map_nil, Nat.add_zero, Nat.zero_add, Option.map_none, Option.map_some, Option.some.injEq, and_true, decide_false, decide_true, true_and, reduceCtorEq, Nat.reduceEqDiff, ↓reduceIte, Int.reduceEq, Int.reduceLT, Int.reduceLE, Nat.reduceAdd]
    · simp only [e0, e6, e7, e8, d, resNil, SX, Opd.ev, resVal, resVals, ARes.val, Bool.false_eq_true, Bool.not_false, Bool.not_true, List.getD_cons_succ, List.getD_cons_zero, List.map_cons, List.map_nil, Nat.add_zero, Nat.zero_add, Option.map_none, Option.map_some, Option.some.injEq, and_true, decide_false, decide_true, true_and, reduceCtorEq, Nat.reduceEqDiff, ↓reduceIte, Int.reduceEq, Int.reduceLT, Int.reduceLE, Nat.reduceAdd]
      rw [List.take_of_length_le (by omega)] at par
      exact ⟨par, k1⟩
set_option maxHeartbeats 4000000 in
theorem endS_spec (h : Par base H p s l) (hs : s.told.length ≤ 900000) :
    FnTo Q 19 [.ptr p 0] H (fun r H' => Par base H' p s.endS l ∧ Keep base H H') := by
  refine fn_wp (eq.ho 19 rfl _) eq.q19 (by simp [A19]) ?_
  obtain ⟨c, ok, hp⟩ := h
  simp only [A19, SX, Opd.ev, resVal, resVals, ARes.val, Bool.false_eq_true, Bool.not_false, Bool.not_true, List.getD_cons_succ, List.getD_cons_zero, List.map_cons, List.map_nil, Nat.add_zero, Nat.zero_add, Option.map_none, Option.map_some, Option.some.injEq, and_true, decide_false, decide_true, true_and, reduceCtorEq, Nat.reduceEqDiff, ↓reduceIte, Int.reduceEq, Int.reduceLT, Int.reduceLE, Nat.reduceAdd]
  refine (endD_spec eq.ho (d := s.d) eq.q33 eq.q40 hp).mono ?_
  rintro r H1 ⟨rfl, g1, k1⟩
  by_cases c0 : s.d.kept = 0
  · have e1 : s.d.ends = s.d := by unfold DSt.ends; rw [if_pos c0]
    have e2 : s.endS = s := by unfold PSt.endS; rw [if_pos c0]
    have hd : decide (s.d.kept ≠ 0) = false := by simp [c0]
    simp only [hd, ex0, ex1, resNil, SX, Opd.ev, resVal, resVals, ARes.val, Bool.false_eq_true, Bool.not_false, Bool.not_true, List.getD_cons_succ, List.getD_cons_zero, List.map_cons, List.map_nil, Nat.add_zero, Nat.zero_add, Option.map_none, Option.map_some, Option.some.injEq, and_true, decide_false, decide_true, true_and, reduceCtorEq, Nat.reduceEqDiff, ↓reduceIte, Int.reduceEq, Int.reduceLT, Int.reduceLE, Nat.reduceAdd]
    rw [e2]
    rw [e1] at g1
    exact ⟨⟨c, ok, g1⟩, k1⟩
  · have e1 : s.d.ends = DSt.zero := by unfold DSt.ends; rw [if_neg c0]
    have e2 : s.endS = ({ s with d := DSt.zero } : PSt).prints [65533] := by unfold PSt.endS; rw [if_neg c0]; rfl
    have hd : decide (s.d.kept ≠ 0) = true := by simp [c0]
    rw [e1] at g1
    have par1 : Par base H1 p { s with d := DSt.zero } l := ⟨c, ⟨ok.l, ok.x, ok.t, ok.e, ok.ev⟩, g1⟩
    obtain ⟨H2, s2, par2, k2⟩ := par1.make [.int .i32 65533] 1
    have hb : bs1V (.int .i32 65533) = some (.row ⟨[.int .i32 65533], 0, false, true, 0⟩, .slc 1 1) := rfl
    have hif : (if s.d.kept = 0 then (0 : Int) else 65533) = 65533 := if_neg c0
    simp only [hd, hif, ex0, ex1, hb, s2, SX, Opd.ev, resVal, resVals, ARes.val, Bool.false_eq_true, Bool.not_false, Bool.not_true, List.getD_cons_succ, List.getD_cons_zero, List.map_cons, List.map_nil, Nat.add_zero, Nat.zero_add, Option.map_none, Option.map_some, Option.some.injEq, and_true, decide_false, decide_true, true_and, reduceCtorEq, Nat.reduceEqDiff, ↓reduceIte, Int.reduceEq, Int.reduceLT, Int.reduceLE, Nat.reduceAdd]
    refine (prints_spec eq (xs := [65533]) (post := []) (cap := 1) par2 (by simp; omega)).mono ?_
    rintro r H3 ⟨par3, k3⟩
    simp only [resNil, SX, Opd.ev, resVal, resVals, ARes.val, Bool.false_eq_true, Bool.not_false, Bool.not_true, List.getD_cons_succ, List.getD_cons_zero, List.map_cons, List.map_nil, Nat.add_zero, Nat.zero_add, Option.map_none, Option.map_some, Option.some.injEq, and_true, decide_false, decide_true, true_and, reduceCtorEq, Nat.reduceEqDiff, ↓reduceIte, Int.reduceEq, Int.reduceLT, Int.reduceLE, Nat.reduceAdd]
    rw [e2]
    exact ⟨par3.drop, (k1.trans k2).trans k3⟩
set_option maxHeartbeats 4000000 in
theorem waits_spec (h : Par base H p s l) : FnTo Q 16 [.ptr p 0] H (fun r H' => r = .bool (decide (s.st ≠ 0 ∨ 0 < s.d.kept)) ∧ H' = H) := by
  refine fn_wp (eq.ho 16 rfl _) eq.q16 (by simp [A16]) ?_
  obtain ⟨c, ok, hp⟩ := h
  have l5 := hp.load (b := p) (k := 1) (cs := pcs s c.lv c.xv c.tv) (List.mem_cons_self ..) (o := 5) rfl
  by_cases c1 : s.st = 0
  · have c1' : (!decide (s.st = 0)) = false := by simp [c1]
    simp only [A16, l5, c1', SX, Opd.ev, resVal, resVals, ARes.val, Bool.false_eq_true, Bool.not_false, Bool.not_true, List.getD_cons_succ, List.getD_cons_zero, List.map_cons, List.map_nil, Nat.add_zero, Nat.zero_add, Option.map_none, Option.map_some, Option.some.injEq, and_true, decide_false, decide_true, true_and, reduceCtorEq, Nat.reduceEqDiff, ↓reduceIte, Int.reduceEq, Int.reduceLT, Int.reduceLE, Nat.reduceAdd]
    refine (waitsD_spec eq.ho (d := s.d) eq.q33 hp).mono ?_
    rintro r H' ⟨rfl, rfl⟩
    simp only [SX, Opd.ev, resVal, resVals, ARes.val, Bool.false_eq_true, Bool.not_false, Bool.not_true, List.getD_cons_succ, List.getD_cons_zero, List.map_cons, List.map_nil, Nat.add_zero, Nat.zero_add, Option.map_none, Option.map_some, Option.some.injEq, and_true, decide_false, decide_true, true_and, reduceCtorEq, Nat.reduceEqDiff, ↓reduceIte, Int.reduceEq, Int.reduceLT, Int.reduceLE, Nat.reduceAdd]
    simp [c1]
  · have c1' : (!decide (s.st = 0)) = true := by simp [c1]
    simp only [A16, l5, c1', SX, Opd.ev, resVal, resVals, ARes.val, Bool.false_eq_true, Bool.not_false, Bool.not_true, List.getD_cons_succ, List.getD_cons_zero, List.map_cons, List.map_nil, Nat.add_zero, Nat.zero_add, Option.map_none, Option.map_some, Option.some.injEq, and_true, decide_false, decide_true, true_and, reduceCtorEq, Nat.reduceEqDiff, ↓reduceIte, Int.reduceEq, Int.reduceLT, Int.reduceLE, Nat.reduceAdd]
    simp [c1]
end
def nGround (c : Int) : Int × Int := if c < 32 then (2, 0) else if c = 127 then (0, 0) else (1, 0)
def nEscape (c : Int) : Int × Int :=
  if c < 32 then (2, 1) else if c < 48 then (3, 2) else if c = 80 then (0, 7) else if c = 91 then (0, 3) else if c = 93 then (0, 12) else if c = 88 then (0, 13) else if c = 94 then (0, 13) else if c = 95 then (0, 13) else if c < 127 then (5, 0) else (0, 1)
def nInter (c : Int) : Int × Int := if c < 32 then (2, 2) else if c < 48 then (3, 2) else if c < 127 then (5, 0) else (0, 2)
def nLet (c : Int) : Int × Int := if c < 32 then (2, 6) else if 64 ≤ c then (if c < 127 then (0, 0) else (0, 6)) else (0, 6)
def nText (st c : Int) : Int × Int :=
  if st = 10 then (if c = 127 then (0, 10) else (8, 10)) else if st = 12 then (if 32 ≤ c then (8, 12) else if c = 7 then (0, 0) else (0, 12)) else (0, st)
def nSeq (c on inn param off en : Int) : Int × Int :=
  if c < 32 then (if en = 6 then (2, on) else (0, on)) else if 127 ≤ c then (0, on) else if c < 48 then (3, inn) else if c < 64 then (if on = inn then (0, off) else if c < 60 then (4, param) else if on = 3 ∨ on = 7 then (3, param) else (0, off))
  else if en = 6 then (6, 0) else (7, 10)
def nx (st c : Int) : Int × Int :=
  if c = 24 then (2, 0) else if c = 26 then (2, 0) else if c = 27 then (0, 1) else
  if st = 1 then nEscape c else if st = 2 then nInter c else if st = 3 ∨ st = 4 ∨ st = 5 then nSeq c st 5 4 6 6 else if st = 6 then nLet c
  else if st = 7 ∨ st = 8 ∨ st = 9 then nSeq c st 9 8 11 7 else if st = 10 ∨ st = 11 ∨ st = 12 ∨ st = 13 then nText st c else nGround c
def tup2 (x : Int × Int) : AV := .tup [.int .i64 x.1, .int .i64 x.2]
theorem tup2_eq {a b : Int} {x : Int × Int} (h : (a, b) = x) : AV.tup [.int .i64 a, .int .i64 b] = tup2 x := by rw [← h]; rfl
theorem ext2 (x : Int × Int) : extractV 0 (tup2 x) = some (.int .i64 x.1) ∧ extractV 1 (tup2 x) = some (.int .i64 x.2) := ⟨rfl, rfl⟩
section
variable {Q : Prog} (eq : EvQ Q) {H : AHeap} {c : Int}
include eq
theorem ground_spec : FnTo Q 53 [.int .u8 c] H (fun r H' => r = tup2 (nGround c) ∧ H' = H) := by
  refine fn_wp (eq.ho 53 rfl _) eq.q53 (by simp [A53]) ?_
  by_cases c1 : c < 32
  · simp only [A53, c1, SX, Opd.ev, resVal, resVals, ARes.val, Bool.false_eq_true, Bool.not_false, Bool.not_true, List.getD_cons_succ, List.getD_cons_zero, List.map_cons, List.map_nil, Nat.add_zero, Nat.zero_add, Option.map_none, Option.map_some, Option.some.injEq, and_true, decide_false, decide_true, true_and, reduceCtorEq, Nat.reduceEqDiff, ↓reduceIte, Int.reduceEq, Int.reduceLT, Int.reduceLE, Nat.reduceAdd]
    exact tup2_eq (by simp [nGround, c1])
  by_cases c2 : c = 127
  · simp only [A53, c1, c2, SX, Opd.ev, resVal, resVals, ARes.val, Bool.false_eq_true, Bool.not_false, Bool.not_true, List.getD_cons_succ, List.getD_cons_zero, List.map_cons, List.map_nil, Nat.add_zero, Nat.zero_add, Option.map_none, Option.map_some, Option.some.injEq, and_true, decide_false, decide_true, true_and, reduceCtorEq, Nat.reduceEqDiff, ↓reduceIte, Int.reduceEq, Int.reduceLT, Int.reduceLE, Nat.reduceAdd]
    exact tup2_eq (by simp [nGround])
  · simp only [A53, c1, c2, SX, Opd.ev, resVal, resVals, ARes.val, Bool.false_eq_true, Bool.not_false, Bool.not_true, List.getD_cons_succ, List.getD_cons_zero, List.map_cons, List.map_nil, Nat.add_zero, Nat.zero_add, Option.map_none, Option.map_some, Option.some.injEq, and_true, decide_false, decide_true, true_and, reduceCtorEq, Nat.reduceEqDiff, ↓reduceIte, Int.reduceEq, Int.reduceLT, Int.reduceLE, Nat.reduceAdd]
    exact tup2_eq (by simp [nGround, c1, c2])
theorem inter_spec : FnTo Q 49 [.int .u8 c] H (fun r H' => r = tup2 (nInter c) ∧ H' = H) := by
  refine fn_wp (eq.ho 49 rfl _) eq.q49 (by simp [A49]) ?_
  by_cases c1 : c < 32
  · simp only [A49, c1, SX, Opd.ev, resVal, resVals, ARes.val, Bool.false_eq_true, Bool.not_false, Bool.not_true, List.getD_cons_succ, List.getD_cons_zero, List.map_cons, List.map_nil, Nat.add_zero, Nat.zero_add, Option.map_none, Option.map_some, Option.some.injEq, and_true, decide_false, decide_true, true_and, reduceCtorEq, Nat.reduceEqDiff, ↓reduceIte, Int.reduceEq, Int.reduceLT, Int.reduceLE, Nat.reduceAdd]
    exact tup2_eq (by simp [nInter, c1])
  by_cases c2 : c < 48
  · simp only [A49, c1, c2, SX, Opd.ev, resVal, resVals, ARes.val, Bool.false_eq_true, Bool.not_false, Bool.not_true, List.getD_cons_succ, List.getD_cons_zero, List.map_cons, List.map_nil, Nat.add_zero, Nat.zero_add, Option.map_none, Option.map_some, Option.some.injEq, and_true, decide_false, decide_true, true_and, reduceCtorEq, Nat.reduceEqDiff, ↓reduceIte, Int.reduceEq, Int.reduceLT, Int.reduceLE, Nat.reduceAdd]
    exact tup2_eq (by simp [nInter, c1, c2])
  by_cases c3 : c < 127
  · simp only [A49, c1, c2, c3, SX, Opd.ev, resVal, resVals, ARes.val, Bool.false_eq_true, Bool.not_false, Bool.not_true, List.getD_cons_succ, List.getD_cons_zero, List.map_cons, List.map_nil, Nat.add_zero, Nat.zero_add, Option.map_none, Option.map_some, Option.some.injEq, and_true, decide_false, decide_true, true_and, reduceCtorEq, Nat.reduceEqDiff, ↓reduceIte, Int.reduceEq, Int.reduceLT, Int.reduceLE, Nat.reduceAdd]
    exact tup2_eq (by simp [nInter, c1, c2, c3])
  · simp only [A49, c1, c2, c3, SX, Opd.ev, resVal, resVals, ARes.val, Bool.false_eq_true, Bool.not_false, Bool.not_true, List.getD_cons_succ, List.getD_cons_zero, List.map_cons, List.map_nil, Nat.add_zero, Nat.zero_add, Option.map_none, Option.map_some, Option.some.injEq, and_true, decide_false, decide_true, true_and, reduceCtorEq, Nat.reduceEqDiff, ↓reduceIte, Int.reduceEq, Int.reduceLT, Int.reduceLE, Nat.reduceAdd]
    exact tup2_eq (by simp [nInter, c1, c2, c3])
theorem let_spec : FnTo Q 51 [.int .u8 c] H (fun r H' => r = tup2 (nLet c) ∧ H' = H) := by
  refine fn_wp (eq.ho 51 rfl _) eq.q51 (by simp [A51]) ?_
  by_cases c1 : c < 32
  · simp only [A51, c1, SX, Opd.ev, resVal, resVals, ARes.val, Bool.false_eq_true, Bool.not_false, Bool.not_true, List.getD_cons_succ, List.getD_cons_zero, List.map_cons, List.map_nil, Nat.add_zero, Nat.zero_add, Option.map_none, Option.map_some, Option.some.injEq, and_true, decide_false, decide_true, true_and, reduceCtorEq, Nat.reduceEqDiff, ↓reduceIte, Int.reduceEq, Int.reduceLT, Int.reduceLE, Nat.reduceAdd]
    exact tup2_eq (by simp [nLet, c1])
  by_cases c2 : 64 ≤ c
  · by_cases c3 : c < 127
    · simp only [A51, c1, c2, c3, SX, Opd.ev, resVal, resVals, ARes.val, Bool.false_eq_true, Bool.not_false, Bool.not_true, List.getD_cons_succ, List.getD_cons_zero, List.map_cons, List.map_nil, Nat.add_zero, Nat.zero_add, Option.map_none, Option.map_some, Option.some.injEq, and_true, decide_false, decide_true, true_and, reduceCtorEq, Nat.reduceEqDiff, ↓reduceIte, Int.reduceEq, Int.reduceLT, Int.reduceLE, Nat.reduceAdd]
      exact tup2_eq (by simp [nLet, c1, c2, c3])
    · simp only [A51, c1, c2, c3, SX, Opd.ev, resVal, resVals, ARes.val, Bool.false_eq_true, Bool.not_false, Bool.not_true, List.getD_cons_succ, List.getD_cons_zero, List.map_cons, List.map_nil, Nat.add_zero, Nat.zero_add, Option.map_none, Option.map_some, Option.some.injEq, and_true, decide_false, decide_true, true_and, reduceCtorEq, Nat.reduceEqDiff, ↓reduceIte, Int.reduceEq, Int.reduceLT, Int.reduceLE, Nat.reduceAdd]
      exact tup2_eq (by simp [nLet, c1, c2, c3])
  · simp only [A51, c1, c2, SX, Opd.ev, resVal, resVals, ARes.val, Bool.false_eq_true, Bool.not_false, Bool.not_true, List.getD_cons_succ, List.getD_cons_zero, List.map_cons, List.map_nil, Nat.add_zero, Nat.zero_add, Option.map_none, Option.map_some, Option.some.injEq, and_true, decide_false, decide_true, true_and, reduceCtorEq, Nat.reduceEqDiff, ↓reduceIte, Int.reduceEq, Int.reduceLT, Int.reduceLE, Nat.reduceAdd]
    exact tup2_eq (by simp [nLet, c1, c2])
set_option maxHeartbeats 2000000 in
theorem escape_spec : FnTo Q 48 [.int .u8 c] H (fun r H' => r = tup2 (nEscape c) ∧ H' = H) := by
  refine fn_wp (eq.ho 48 rfl _) eq.q48 (by simp [A48]) ?_
  by_cases c1 : c < 32
  · simp only [A48, c1, SX, Opd.ev, resVal, resVals, ARes.val, Bool.false_eq_true, Bool.not_false, Bool.not_true, List.getD_cons_succ, List.getD_cons_zero, List.map_cons, List.map_nil, Nat.add_zero, Nat.zero_add, Option.map_none, Option.map_some, Option.some.injEq, and_true, decide_false, decide_true, true_and, reduceCtorEq, Nat.reduceEqDiff, ↓reduceIte, Int.reduceEq, Int.reduceLT, Int.reduceLE, Nat.reduceAdd]
    exact tup2_eq (by simp [nEscape, c1])
  by_cases c2 : c < 48
  · simp only [A48, c1, c2, SX, Opd.ev, resVal, resVals, ARes.val, Bool.false_eq_true, Bool.not_false, Bool.not_true, List.getD_cons_succ, List.getD_cons_zero, List.map_cons, List.map_nil, Nat.add_zero, Nat.zero_add, Option.map_none, Option.map_some, Option.some.injEq, and_true, decide_false, decide_true, true_and, reduceCtorEq, Nat.reduceEqDiff, ↓reduceIte, Int.reduceEq, Int.reduceLT, Int.reduceLE, Nat.reduceAdd]
    exact tup2_eq (by simp [nEscape, c1, c2])
  by_cases c3 : c = 80
  · simp only [A48, c1, c2, c3, SX, Opd.ev, resVal, resVals, ARes.val, Bool.false_eq_true, Bool.not_false, Bool.not_true, List.getD_cons_succ, List.getD_cons_zero, List.map_cons, List.map_nil, Nat.add_zero, Nat.zero_add, Option.map_none, Option.map_some, Option.some.injEq, and_true, decide_false, decide_true, true_and, reduceCtorEq, Nat.reduceEqDiff, ↓reduceIte, Int.reduceEq, Int.reduceLT, Int.reduceLE, Nat.reduceAdd]
    exact tup2_eq (by simp [nEscape])
  by_cases c4 : c = 91
  · simp only [A48, c1, c2, c3, c4, SX, Opd.ev, resVal, resVals, ARes.val, Bool.false_eq_true, Bool.not_false, Bool.not_true, List.getD_cons_succ, List.getD_cons_zero, List.map_cons, List.map_nil, Nat.add_zero, Nat.zero_add, Option.map_none, Option.map_some, Option.some.injEq, and_true, decide_false, decide_true, true_and, reduceCtorEq, Nat.reduceEqDiff, ↓reduceIte, Int.reduceEq, Int.reduceLT, Int.reduceLE, Nat.reduceAdd]
    exact tup2_eq (by simp [nEscape])
  by_cases c5 : c = 93
  · simp only [A48, c1, c2, c3, c4, c5, SX, Opd.ev, resVal, resVals, ARes.val, Bool.false_eq_true, Bool.not_false, Bool.not_true, List.getD_cons_succ, List.getD_cons_zero, List.map_cons, List.map_nil, Nat.add_zero, Nat.zero_add, Option.map_none, Option.map_some, Option.some.injEq, and_true, decide_false, decide_true, true_and, reduceCtorEq, Nat.reduceEqDiff, ↓reduceIte, Int.reduceEq, Int.reduceLT, Int.reduceLE, Nat.reduceAdd]
    exact tup2_eq (by simp [nEscape])
  by_cases c6 : c = 88
  · simp only [A48, c1, c2, c3, c4, c5, c6, SX, Opd.ev, resVal, resVals, ARes.val, Bool.false_eq_true, Bool.not_false, Bool.not_true, List.getD_cons_succ, List.getD_cons_zero, List.map_cons, List.map_nil, Nat.add_zero, Nat.zero_add, Option.map_none, Option.map_some, Option.some.injEq, and_true, decide_false, decide_true, true_and, reduceCtorEq, Nat.reduceEqDiff, ↓reduceIte, Int.reduceEq, Int.reduceLT, Int.reduceLE, Nat.reduceAdd]
    exact tup2_eq (by simp [nEscape])
  by_cases c7 : c = 94
  · simp only [A48, c1, c2, c3, c4, c5, c6, c7, SX, Opd.ev, resVal, resVals, ARes.val, Bool.false_eq_true, Bool.not_false, Bool.not_true, List.getD_cons_succ, List.getD_cons_zero, List.map_cons, List.map_nil, Nat.add_zero, Nat.zero_add, Option.map_none, Option.map_some, Option.some.injEq, and_true, decide_false, decide_true, true_and, reduceCtorEq, Nat.reduceEqDiff, ↓reduceIte, Int.reduceEq, Int.reduceLT, Int.reduceLE, Nat.reduceAdd]
    exact tup2_eq (by simp [nEscape])
  by_cases c8 : c = 95
  · simp only [A48, c1, c2, c3, c4, c5, c6, c7, c8, SX, Opd.ev, resVal, resVals, ARes.val, Bool.false_eq_true, Bool.not_false, Bool.not_true, List.getD_cons_succ, List.getD_cons_zero, List.map_cons, List.map_nil, Nat.add_zero, Nat.zero_add, Option.map_none, Option.map_some, Option.some.injEq, and_true, decide_false, decide_true, true_and, reduceCtorEq, Nat.reduceEqDiff, ↓reduceIte, Int.reduceEq, Int.reduceLT, Int.reduceLE, Nat.reduceAdd]
    exact tup2_eq (by simp [nEscape])
  by_cases c9 : c < 127
  · simp only [A48, c1, c2, c3, c4, c5, c6, c7, c8, c9, SX, Opd.ev, resVal, resVals, ARes.val, Bool.false_eq_true, Bool.not_false, Bool.not_true, List.getD_cons_succ, List.getD_cons_zero, List.map_cons, List.map_nil, Nat.add_zero, Nat.zero_add, Option.map_none, Option.map_some, Option.some.injEq, and_true, decide_false, decide_true, true_and, reduceCtorEq, Nat.reduceEqDiff, ↓reduceIte, Int.reduceEq, Int.reduceLT, Int.reduceLE, Nat.reduceAdd]
    exact tup2_eq (by simp [nEscape, c1, c2, c3, c4, c5, c6, c7, c8, c9])
  · simp only [A48, c1, c2, c3, c4, c5, c6, c7, c8, c9, SX, Opd.ev, resVal, resVals, ARes.val, Bool.false_eq_true, Bool.not_false, Bool.not_true, List.getD_cons_succ, List.getD_cons_zero, List.map_cons, List.map_nil, Nat.add_zero, Nat.zero_add, Option.map_none, Option.map_some, Option.some.injEq, and_true, decide_false, decide_true, true_and, reduceCtorEq, Nat.reduceEqDiff, ↓reduceIte, Int.reduceEq, Int.reduceLT, Int.reduceLE, Nat.reduceAdd]
    exact tup2_eq (by simp [nEscape, c1, c2, c3, c4, c5, c6, c7, c8, c9])
set_option maxHeartbeats 2000000 in
theorem text_spec {st : Int} : FnTo Q 52 [.int .i64 st, .int .u8 c] H (fun r H' => r = tup2 (nText st c) ∧ H' = H) := by
  refine fn_wp (eq.ho 52 rfl _) eq.q52 (by simp [A52]) ?_
  by_cases c1 : st = 10
  · have c1' : decide (st = 12) = false := by simp [c1]
    by_cases c2 : c = 127
    · simp only [A52, c1, c2, SX, Opd.ev, resVal, resVals, ARes.val, Bool.false_eq_true, Bool.not_false, Bool.not_true, List.getD_cons_succ, List.getD_cons_zero, List.map_cons, List.map_nil, Nat.add_zero, Nat.zero_add, Option.map_none, Option.map_some, Option.some.injEq, and_true, decide_false, decide_true, true_and, reduceCtorEq, Nat.reduceEqDiff, ↓reduceIte, Int.reduceEq, Int.reduceLT, Int.reduceLE, Nat.reduceAdd]
      exact tup2_eq (by simp [nText])
    · simp only [A52, c1, c2, SX, Opd.ev, resVal, resVals, ARes.val, Bool.false_eq_true, Bool.not_false, Bool.not_true, List.getD_cons_succ, List.getD_cons_zero, List.map_cons, List.map_nil, Nat.add_zero, Nat.zero_add, Option.map_none, Option.map_some, Option.some.injEq, and_true, decide_false, decide_true, true_and, reduceCtorEq, Nat.reduceEqDiff, ↓reduceIte, Int.reduceEq, Int.reduceLT, Int.reduceLE, Nat.reduceAdd]
      exact tup2_eq (by simp [nText, c2])
  by_cases c3 : st = 12
  · by_cases c4 : 32 ≤ c
    · simp only [A52, c1, c3, c4, SX, Opd.ev, resVal, resVals, ARes.val, Bool.false_eq_true, Bool.not_false, Bool.not_true, List.getD_cons_succ, List.getD_cons_zero, List.map_cons, List.map_nil, Nat.add_zero, Nat.zero_add, Option.map_none, Option.map_some, Option.some.injEq, and_true, decide_false, decide_true, true_and, reduceCtorEq, Nat.reduceEqDiff, ↓reduceIte, Int.reduceEq, Int.reduceLT, Int.reduceLE, Nat.reduceAdd]
      exact tup2_eq (by simp [nText, c4])
    · by_cases c5 : c = 7
      · simp only [A52, c1, c3, c4, c5, SX, Opd.ev, resVal, resVals, ARes.val, Bool.false_eq_true, Bool.not_false, Bool.not_true, List.getD_cons_succ, List.getD_cons_zero, List.map_cons, List.map_nil, Nat.add_zero, Nat.zero_add, Option.map_none, Option.map_some, Option.some.injEq, and_true, decide_false, decide_true, true_and, reduceCtorEq, Nat.reduceEqDiff, ↓reduceIte, Int.reduceEq, Int.reduceLT, Int.reduceLE, Nat.reduceAdd]
        exact tup2_eq (by simp [nText])
      · simp only [A52, c1, c3, c4, c5, SX, Opd.ev, resVal, resVals, ARes.val, Bool.false_eq_true, Bool.not_false, Bool.not_true, List.getD_cons_succ, List.getD_cons_zero, List.map_cons, List.map_nil, Nat.add_zero, Nat.zero_add, Option.map_none, Option.map_some, Option.some.injEq, and_true, decide_false, decide_true, true_and, reduceCtorEq, Nat.reduceEqDiff, ↓reduceIte, Int.reduceEq, Int.reduceLT, Int.reduceLE, Nat.reduceAdd]
        exact tup2_eq (by simp [nText, c4, c5])
  · simp only [A52, c1, c3, SX, Opd.ev, resVal, resVals, ARes.val, Bool.false_eq_true, Bool.not_false, Bool.not_true, List.getD_cons_succ, List.getD_cons_zero, List.map_cons, List.map_nil, Nat.add_zero, Nat.zero_add, Option.map_none, Option.map_some, Option.some.injEq, and_true, decide_false, decide_true, true_and, reduceCtorEq, Nat.reduceEqDiff, ↓reduceIte, Int.reduceEq, Int.reduceLT, Int.reduceLE, Nat.reduceAdd]
    exact tup2_eq (by simp [nText, c1, c3])
set_option maxHeartbeats 4000000 in
theorem seq_spec {on inn param off en : Int} : FnTo Q 50 [.int .u8 c, .int .i64 on, .int .i64 inn, .int .i64 param, .int .i64 off, .int .i64 en] H (fun r H' => r = tup2 (nSeq c on inn param off en) ∧ H' = H) := by
  refine fn_wp (eq.ho 50 rfl _) eq.q50 (by simp [A50]) ?_
  have fin : ∀ (a b : Int), (a, b) = nSeq c on inn param off en → AV.tup [.int .i64 a, .int .i64 b] = tup2 (nSeq c on inn param off en) := fun a b h => tup2_eq h
  obtain ⟨K, hK⟩ : ∃ K : AV → AHeap → Prop, K = fun r H' => r = tup2 (nSeq c on inn param off en) ∧ H' = H := ⟨_, rfl⟩
  rw [← hK]
  have hKt : ∀ (a b : Int), (a, b) = nSeq c on inn param off en → K (.tup [.int .i64 a, .int .i64 b]) H := fun a b h => by rw [hK]; exact ⟨fin a b h, rfl⟩
  have res : A50.res = [.t 12, .t 13] := rfl
  have key : ∀ (e : Env), Env.get e 0 = .int .u8 c → Env.get e 1 = .int .i64 on → Env.get e 2 = .int .i64 inn → Env.get e 3 = .int .i64 param → Env.get e 4 = .int .i64 off → Env.get e 5 = .int .i64 en → Env.get e 14 = .bool (decide (on = 3 ∨ on = 7)) → ACode.wp Q (sndC (sndC A50.body)) (fnK A50.res K) e H := by
    intro e e0 e1 e2 e3 e4 e5 e14
    rw [res]
    by_cases c1 : c < 32
    · by_cases c2 : en = 6
      · simp only [A50, sndC, e0, e1, e2, e3, e4, e5, e14, c1, c2, SX, Opd.ev, resVal, resVals, ARes.val, Bool.false_eq_true, Bool.not_false, Bool.not_true, List.getD_cons_succ, List.getD_cons_zero, List.map_cons, List.map_nil, Nat.add_zero, Nat.zero_add, Option.map_none, Option.map_some, Option.some.injEq, and_true, decide_false, decide_true, true_and, reduceCtorEq, Nat.reduceEqDiff, ↓reduceIte, Int.reduceEq, Int.reduceLT, Int.reduceLE, Nat.reduceAdd]
        exact hKt _ _ (by simp [nSeq, c1, c2])
      · simp only [A50, sndC, e0, e1, e2, e3, e4, e5, e14, c1, c2, SX, Opd.ev, resVal, resVals, ARes.val, Bool.false_eq_true, Bool.not_false, Bool.not_true, List.getD_cons_succ, List.getD_cons_zero, List.map_cons, List.map_nil, Nat.add_zero, Nat.zero_add, Option.map_none, Option.map_some, Option.some.injEq, and_true, decide_false, decide_true, true_and, reduceCtorEq, Nat.reduceEqDiff, ↓reduceIte, Int.reduceEq, Int.reduceLT, Int.reduceLE, Nat.reduceAdd]
        exact hKt _ _ (by simp [nSeq, c1, c2])
    by_cases c3 : 127 ≤ c
    · simp only [A50, sndC, e0, e1, e2, e3, e4, e5, e14, c1, c3, SX, Opd.ev, resVal, resVals, ARes.val, Bool.false_eq_true, Bool.not_false, Bool.not_true, List.getD_cons_succ, List.getD_cons_zero, List.map_cons, List.map_nil, Nat.add_zero, Nat.zero_add, Option.map_none, Option.map_some, Option.some.injEq, and_true, decide_false, decide_true, true_and, reduceCtorEq, Nat.reduceEqDiff, ↓reduceIte, Int.reduceEq, Int.reduceLT, Int.reduceLE, Nat.reduceAdd]
      exact hKt _ _ (by simp [nSeq, c1, c3])
    by_cases c4 : c < 48
    · simp only [A50, sndC, e0, e1, e2, e3, e4, e5, e14, c1, c3, c4, SX, Opd.ev, resVal, resVals, ARes.val, Bool.false_eq_true, Bool.not_false, Bool.not_true, List.getD_cons_succ, List.getD_cons_zero, List.map_cons, List.map_nil, Nat.add_zero, Nat.zero_add, Option.map_none, Option.map_some, Option.some.injEq, and_true, decide_false, decide_true, true_and, reduceCtorEq, Nat.reduceEqDiff, ↓reduceIte, Int.reduceEq, Int.reduceLT, Int.reduceLE, Nat.reduceAdd]
      exact hKt _ _ (by simp [nSeq, c1, c3, c4])
    by_cases c5 : c < 64
    · by_cases c6 : on = inn
      · have c6' : decide (on = inn) = true := by simpa using c6
        simp only [A50, sndC, e0, e1, e2, e3, e4, e5, e14, c1, c3, c4, c5, c6', SX, Opd.ev, resVal, resVals, ARes.val, Bool.false_eq_true, Bool.not_false, Bool.not_true, List.getD_cons_succ, List.getD_cons_zero, List.map_cons, List.map_nil, Nat.add_zero, Nat.zero_add, Option.map_none, Option.map_some, Option.some.injEq, and_true, decide_false, decide_true, true_and, reduceCtorEq, Nat.reduceEqDiff, ↓reduceIte, Int.reduceEq, Int.reduceLT, Int.reduceLE, Nat.reduceAdd]
        exact hKt _ _ (by simp [nSeq, c1, c3, c4, c5, c6])
      · by_cases c7 : c < 60
        · simp only [A50, sndC, e0, e1, e2, e3, e4, e5, e14, c1, c3, c4, c5, c6, c7, SX, Opd.ev, resVal, resVals, ARes.val, Bool.false_eq_true, Bool.not_false, Bool.not_true, List.getD_cons_succ, List.getD_cons_zero, List.map_cons, List.map_nil, Nat.add_zero, Nat.zero_add, Option.map_none, Option.map_some, Option.some.injEq, and_true, decide_false, decide_true, true_and, reduceCtorEq, Nat.reduceEqDiff, ↓reduceIte, Int.reduceEq, Int.reduceLT, Int.reduceLE, Nat.reduceAdd]
          exact hKt _ _ (by simp [nSeq, c1, c3, c4, c5, c6, c7])
        · by_cases c8 : on = 3 ∨ on = 7
          · simp only [A50, sndC, e0, e1, e2, e3, e4, e5, e14, c1, c3, c4, c5, c6, c7, c8, SX, Opd.ev, resVal, resVals, ARes.val, Bool.false_eq_true, Bool.not_false, Bool.not_true, List.getD_cons_succ, List.getD_cons_zero, List.map_cons, List.map_nil, Nat.add_zero, Nat.zero_add, Option.map_none, Option.map_some, Option.some.injEq, and_true, decide_false, decide_true, true_and, reduceCtorEq, Nat.reduceEqDiff, ↓reduceIte, Int.reduceEq, Int.reduceLT, Int.reduceLE, Nat.reduceAdd]
            exact hKt _ _ (by simp [nSeq, c1, c3, c4, c5, c6, c7, c8])
          · simp only [A50, sndC, e0, e1, e2, e3, e4, e5, e14, c1, c3, c4, c5, c6, c7, c8, SX, Opd.ev, resVal, resVals, ARes.val, Bool.false_eq_true, Bool.not_false, Bool.not_true, List.getD_cons_succ, List.getD_cons_zero, List.map_cons, List.map_nil, Nat.add_zero, Nat.zero_add, Option.map_none, Option.map_some, Option.some.injEq, and_true, decide_false, decide_true, true_and, reduceCtorEq, Nat.reduceEqDiff, ↓reduceIte, Int.reduceEq, Int.reduceLT, Int.reduceLE, Nat.reduceAdd]
            exact hKt _ _ (by simp [nSeq, c1, c3, c4, c5, c6, c7, c8])
    by_cases c2 : en = 6
    · have c7 : ¬ c < 60 := by omega
      simp only [A50, sndC, e0, e1, e2, e3, e4, e5, e14, c1, c3, c4, c5, c7, c2, SX, Opd.ev, resVal, resVals, ARes.val, Bool.false_eq_true, Bool.not_false, Bool.not_true, List.getD_cons_succ, List.getD_cons_zero, List.map_cons, List.map_nil, Nat.add_zero, Nat.zero_add, Option.map_none, Option.map_some, Option.some.injEq, and_true, decide_false, decide_true, true_and, reduceCtorEq, Nat.reduceEqDiff, ↓reduceIte, Int.reduceEq, Int.reduceLT, Int.reduceLE, Nat.reduceAdd]
      exact hKt _ _ (by simp [nSeq, c1, c3, c4, c5, c2])
    · have c7 : ¬ c < 60 := by omega
      simp only [A50, sndC, e0, e1, e2, e3, e4, e5, e14, c1, c3, c4, c5, c7, c2, SX, Opd.ev, resVal, resVals, ARes.val, Bool.false_eq_true, Bool.not_false, Bool.not_true, List.getD_cons_succ, List.getD_cons_zero, List.map_cons, List.map_nil, Nat.add_zero, Nat.zero_add, Option.map_none, Option.map_some, Option.some.injEq, and_true, decide_false, decide_true, true_and, reduceCtorEq, Nat.reduceEqDiff, ↓reduceIte, Int.reduceEq, Int.reduceLT, Int.reduceLE, Nat.reduceAdd]
      exact hKt _ _ (by simp [nSeq, c1, c3, c4, c5, c2])
  have second : ∀ (e : Env), Env.get e 0 = .int .u8 c → Env.get e 1 = .int .i64 on → Env.get e 2 = .int .i64 inn → Env.get e 3 = .int .i64 param → Env.get e 4 = .int .i64 off → Env.get e 5 = .int .i64 en → ACode.wp Q (sndC A50.body) (fnK A50.res K) e H := by
    intro e e0 e1 e2 e3 e4 e5
    rw [wp_parts (sndC A50.body) rfl]
    generalize ACode.wp Q (sndC (sndC A50.body)) (fnK A50.res K) = kr at key ⊢
    by_cases d1 : on = 3
    · have d1' : decide (on = 3) = true := by simpa using d1
      have hd : decide (on = 3 ∨ on = 7) = true := by simp [d1]
      rw [hd] at key
      simp only [A50, sndC, fstC, e0, e1, e2, e3, e4, e5, d1', SX, Opd.ev, resVal, resVals, ARes.val, Bool.false_eq_true, Bool.not_false, Bool.not_true, List.getD_cons_succ, List.getD_cons_zero, List.map_cons, List.map_nil, Nat.add_zero, Nat.zero_add, Option.map_none, Option.map_some, Option.some.injEq, and_true, decide_false, decide_true, true_and, reduceCtorEq, Nat.reduceEqDiff, ↓reduceIte, Int.reduceEq, Int.reduceLT, Int.reduceLE, Nat.reduceAdd]
      refine key _ ?_ ?_ ?_ ?_ ?_ ?_ ?_ <;> simp only [e0, e1, e2, e3, e4, e5, SX, Opd.ev, resVal, resVals, ARes.val, Bool.false_eq_true, Bool.not_false, Bool.not_true, List.getD_cons_succ, List.getD_cons_zero, List.map_cons, List.map_nil, Nat.add_zero, Nat.zero_add, Option.map_none, Option.map_some, Option.some.injEq, and_true, decide_false, decide_true, true_and, reduceCtorEq, Nat.reduceEqDiff, ↓reduceIte, Int.reduceEq, Int.reduceLT, Int.reduceLE, Nat.reduceAdd]
    · by_cases d2 : on = 7
      · have d1' : decide (on = 3) = false := by simpa using d1
        have d2' : decide (on = 7) = true := by simpa using d2
        have hd : decide (on = 3 ∨ on = 7) = true := by simp [d2]
        rw [hd] at key
        simp only [A50, sndC, fstC, e0, e1, e2, e3, e4, e5, d1', d2', SX, Opd.ev, resVal, resVals, ARes.val, Bool.false_eq_true, Bool.not_false, Bool.not_true, List.getD_cons_succ, List.getD_cons_zero, List.map_cons, List.map_nil, Nat.add_zero, Nat.zero_add, Option.map_none, Option.map_some, Option.some.injEq, and_true, decide_false, decide_true, true_and, reduceCtorEq, Nat.reduceEqDiff, ↓reduceIte, Int.reduceEq, Int.reduceLT, Int.reduceLE, Nat.reduceAdd]
        refine key _ ?_ ?_ ?_ ?_ ?_ ?_ ?_ <;> simp only [e0, e1, e2, e3, e4, e5, SX, Opd.ev, resVal, resVals, ARes.val, Bool.false_eq_true, Bool.not_false, Bool.not_true, List.getD_cons_succ, List.getD_cons_zero, List.map_cons, List.map_nil, Nat.add_zero, Nat.zero_add, Option.map_none, Option.map_some, Option.some.injEq, and_true, decide_false, decide_true, true_and, reduceCtorEq, Nat.reduceEqDiff, ↓reduceIte, Int.reduceEq, Int.reduceLT, Int.reduceLE, Nat.reduceAdd]
      · have hd : decide (on = 3 ∨ on = 7) = false := by simp [d1, d2]
        rw [hd] at key
        simp only [A50, sndC, fstC, e0, e1, e2, e3, e4, e5, d1, d2, SX, Opd.ev, resVal, resVals, ARes.val, Bool.false_eq_true, Bool.not_false, Bool.not_true, List.getD_cons_succ, List.getD_cons_zero, List.map_cons, List.map_nil, Nat.add_zero, Nat.zero_add, Option.map_none, Option.map_some, Option.some.injEq, and_true, decide_false, decide_true, true_and, reduceCtorEq, Nat.reduceEqDiff, ↓reduceIte, Int.reduceEq, Int.reduceLT, Int.reduceLE, Nat.reduceAdd]
        refine key _ ?_ ?_ ?_ ?_ ?_ ?_ ?_ <;> simp only [e0, e1, e2, e3, e4, e5, SX, Opd.ev, resVal, resVals, ARes.val, Bool.false_eq_true, Bool.not_false, Bool.not_true, List.getD_cons_succ, List.getD_cons_zero, List.map_cons, List.map_nil, Nat.add_zero, Nat.zero_add, Option.map_none, Option.map_some, Option.some.injEq, and_true, decide_false, decide_true, true_and, reduceCtorEq, Nat.reduceEqDiff, ↓reduceIte, Int.reduceEq, Int.reduceLT, Int.reduceLE, Nat.reduceAdd]
  rw [wp_parts A50.body rfl]
  generalize ACode.wp Q (sndC A50.body) (fnK A50.res K) = kr at second ⊢
  simp only [A50, sndC, fstC, SX, Opd.ev, resVal, resVals, ARes.val, Bool.false_eq_true, Bool.not_false, Bool.not_true, List.getD_cons_succ, List.getD_cons_zero, List.map_cons, List.map_nil, Nat.add_zero, Nat.zero_add, Option.map_none, Option.map_some, Option.some.injEq, and_true, decide_false, decide_true, true_and, reduceCtorEq, Nat.reduceEqDiff, ↓reduceIte, Int.reduceEq, Int.reduceLT, Int.reduceLE, Nat.reduceAdd]
  refine second _ ?_ ?_ ?_ ?_ ?_ ?_ <;> simp only [SX, Opd.ev, resVal, resVals, ARes.val, Bool.false_eq_true, Bool.not_false, Bool.not_true, List.getD_cons_succ, List.getD_cons_zero, List.map_cons, List.map_nil, Nat.add_zero, Nat.zero_add, Option.map_none, Option.map_some, Option.some.injEq, and_true, decide_false, decide_true, true_and, reduceCtorEq, Nat.reduceEqDiff, ↓reduceIte, Int.reduceEq, Int.reduceLT, Int.reduceLE, Nat.reduceAdd]
set_option maxHeartbeats 8000000 in
theorem next_st {st : Int} (hst : 0 ≤ st ∧ st ≤ 13) : FnTo Q 27 [.int .i64 st, .int .u8 c] H (fun r H' => r = tup2 (nx st c) ∧ H' = H) := by
  refine fn_wp (eq.ho 27 rfl _) eq.q27 (by simp [A27]) ?_
  by_cases c1 : c = 24
  · simp only [A27, c1, SX, Opd.ev, resVal, resVals, ARes.val, Bool.false_eq_true, Bool.not_false, Bool.not_true, List.getD_cons_succ, List.getD_cons_zero, List.map_cons, List.map_nil, Nat.add_zero, Nat.zero_add, Option.map_none, Option.map_some, Option.some.injEq, and_true, decide_false, decide_true, true_and, reduceCtorEq, Nat.reduceEqDiff, ↓reduceIte, Int.reduceEq, Int.reduceLT, Int.reduceLE, Nat.reduceAdd]
    exact tup2_eq (by simp [nx])
  by_cases c2 : c = 26
  · simp only [A27, c1, c2, SX, Opd.ev, resVal, resVals, ARes.val, Bool.false_eq_true, Bool.not_false, Bool.not_true, List.getD_cons_succ, List.getD_cons_zero, List.map_cons, List.map_nil, Nat.add_zero, Nat.zero_add, Option.map_none, Option.map_some, Option.some.injEq, and_true, decide_false, decide_true, true_and, reduceCtorEq, Nat.reduceEqDiff, ↓reduceIte, Int.reduceEq, Int.reduceLT, Int.reduceLE, Nat.reduceAdd]
    exact tup2_eq (by simp [nx])
  by_cases c3 : c = 27
  · simp only [A27, c1, c2, c3, SX, Opd.ev, resVal, resVals, ARes.val, Bool.false_eq_true, Bool.not_false, Bool.not_true, List.getD_cons_succ, List.getD_cons_zero, List.map_cons, List.map_nil, Nat.add_zero, Nat.zero_add, Option.map_none, Option.map_some, Option.some.injEq, and_true, decide_false, decide_true, true_and, reduceCtorEq, Nat.reduceEqDiff, ↓reduceIte, Int.reduceEq, Int.reduceLT, Int.reduceLE, Nat.reduceAdd]
    exact tup2_eq (by simp [nx])
  have hn : st = 0 ∨ st = 1 ∨ st = 2 ∨ st = 3 ∨ st = 4 ∨ st = 5 ∨ st = 6 ∨ st = 7 ∨ st = 8 ∨ st = 9 ∨ st = 10 ∨ st = 11 ∨ st = 12 ∨ st = 13 := by omega
  rcases hn with rfl | rfl | rfl | rfl | rfl | rfl | rfl | rfl | rfl | rfl | rfl | rfl | rfl | rfl
  · simp only [A27, c1, c2, c3, SX, Opd.ev, resVal, resVals, ARes.val, Bool.false_eq_true, Bool.not_false, Bool.not_true, List.getD_cons_succ, List.getD_cons_zero, List.map_cons, List.map_nil, Nat.add_zero, Nat.zero_add, Option.map_none, Option.map_some, Option.some.injEq, and_true, decide_false, decide_true, true_and, reduceCtorEq, Nat.reduceEqDiff, ↓reduceIte, Int.reduceEq, Int.reduceLT, Int.reduceLE, Nat.reduceAdd]
    refine (ground_spec eq).mono ?_
    rintro r H' ⟨rfl, rfl⟩
    simp only [ext2, SX, Opd.ev, resVal, resVals, ARes.val, Bool.false_eq_true, Bool.not_false, Bool.not_true, List.getD_cons_succ, List.getD_cons_zero, List.map_cons, List.map_nil, Nat.add_zero, Nat.zero_add, Option.map_none, Option.map_some, Option.some.injEq, and_true, decide_false, decide_true, true_and, reduceCtorEq, Nat.reduceEqDiff, ↓reduceIte, Int.reduceEq, Int.reduceLT, Int.reduceLE, Nat.reduceAdd]
    exact tup2_eq (by simp [nx, c1, c2, c3])
  · simp only [A27, c1, c2, c3, SX, Opd.ev, resVal, resVals, ARes.val, Bool.false_eq_true, Bool.not_false, Bool.not_true, List.getD_cons_succ, List.getD_cons_zero, List.map_cons, List.map_nil, Nat.add_zero, Nat.zero_add, Option.map_none, Option.map_some, Option.some.injEq, and_true, decide_false, decide_true, true_and, reduceCtorEq, Nat.reduceEqDiff, ↓reduceIte, Int.reduceEq, Int.reduceLT, Int.reduceLE, Nat.reduceAdd]
    refine (escape_spec eq).mono ?_
    rintro r H' ⟨rfl, rfl⟩
    simp only [ext2, SX, Opd.ev, resVal, resVals, ARes.val, Bool.false_eq_true, Bool.not_false, Bool.not_true, List.getD_cons_succ, List.getD_cons_zero, List.map_cons, List.map_nil, Nat.add_zero, Nat.zero_add, Option.map_none, Option.map_some, Option.some.injEq, and_true, decide_false, decide_true, true_and, reduceCtorEq, Nat.reduceEqDiff, ↓reduceIte, Int.reduceEq, Int.reduceLT, Int.reduceLE, Nat.reduceAdd]
    exact tup2_eq (by simp [nx, c1, c2, c3])
  · simp only [A27, c1, c2, c3, SX, Opd.ev, resVal, resVals, ARes.val, Bool.false_eq_true, Bool.not_false, Bool.not_true, List.getD_cons_succ, List.getD_cons_zero, List.map_cons, List.map_nil, Nat.add_zero, Nat.zero_add, Option.map_none, Option.map_some, Option.some.injEq, and_true, decide_false, decide_true, true_and, reduceCtorEq, Nat.reduceEqDiff, ↓reduceIte, Int.reduceEq, Int.reduceLT, Int.reduceLE, Nat.reduceAdd]
    refine (inter_spec eq).mono ?_
    rintro r H' ⟨rfl, rfl⟩
    simp only [ext2, SX, Opd.ev, resVal, resVals, ARes.val, Bool.false_eq_true, Bool.not_false, Bool.not_true, List.getD_cons_succ, List.getD_cons_zero, List.map_cons, List.map_nil, Nat.add_zero, Nat.zero_add, Option.map_none, Option.map_some, Option.some.injEq, and_true, decide_false, decide_true, true_and, reduceCtorEq, Nat.reduceEqDiff, ↓reduceIte, Int.reduceEq, Int.reduceLT, Int.reduceLE, Nat.reduceAdd]
    exact tup2_eq (by simp [nx, c1, c2, c3])
  · simp only [A27, c1, c2, c3, SX, Opd.ev, resVal, resVals, ARes.val, Bool.false_eq_true, Bool.not_false, Bool.not_true, List.getD_cons_succ, List.getD_cons_zero, List.map_cons, List.map_nil, Nat.add_zero, Nat.zero_add, Option.map_none, Option.map_some, Option.some.injEq, and_true, decide_false, decide_true, true_and, reduceCtorEq, Nat.reduceEqDiff, ↓reduceIte, Int.reduceEq, Int.reduceLT, Int.reduceLE, Nat.reduceAdd]
    refine (seq_spec eq).mono ?_
    rintro r H' ⟨rfl, rfl⟩
    simp only [ext2, SX, Opd.ev, resVal, resVals, ARes.val, Bool.false_eq_true, Bool.not_false, Bool.not_true, List.getD_cons_succ, List.getD_cons_zero, List.map_cons, List.map_nil, Nat.add_zero, Nat.zero_add, Option.map_none, Option.map_some, Option.some.injEq, and_true, decide_false, decide_true, true_and, reduceCtorEq, Nat.reduceEqDiff, ↓reduceIte, Int.reduceEq, Int.reduceLT, Int.reduceLE, Nat.reduceAdd]
    exact tup2_eq (by simp [nx, c1, c2, c3])
  · simp only [A27, c1, c2, c3, SX, Opd.ev, resVal, resVals, ARes.val, Bool.false_eq_true, Bool.not_false, Bool.not_true, List.getD_cons_succ, List.getD_cons_zero, List.map_cons, List.map_nil, Nat.add_zero, Nat.zero_add, Option.map_none, Option.map_some, Option.some.injEq, and_true, decide_false, decide_true, true_and, reduceCtorEq, Nat.reduceEqDiff, ↓reduceIte, Int.reduceEq, Int.reduceLT, Int.reduceLE, Nat.reduceAdd]
    refine (seq_spec eq).mono ?_
    rintro r H' ⟨rfl, rfl⟩
    simp only [ext2, SX, Opd.ev, resVal, resVals, ARes.val, Bool.false_eq_true, Bool.not_false, Bool.not_true, List.getD_cons_succ, List.getD_cons_zero, List.map_cons, List.map_nil, Nat.add_zero, Nat.zero_add, Option.map_none, Option.map_some, Option.some.injEq, and_true, decide_false, decide_true, true_and, reduceCtorEq, Nat.reduceEqDiff, ↓reduceIte, Int.reduceEq, Int.reduceLT, Int.reduceLE, Nat.reduceAdd]
    exact tup2_eq (by simp [nx, c1, c2, c3])
  · simp only [A27, c1, c2, c3, SX, Opd.ev, resVal, resVals, ARes.val, Bool.false_eq_true, Bool.not_false, Bool.not_true, List.getD_cons_succ, List.getD_cons_zero, List.map_cons, List.map_nil, Nat.add_zero, Nat.zero_add, Option.map_none, Option.map_some, Option.some.injEq, and_true, decide_false, decide_true, true_and, reduceCtorEq, Nat.reduceEqDiff, ↓reduceIte, Int.reduceEq, Int.reduceLT, Int.reduceLE, Nat.reduceAdd]
    refine (seq_spec eq).mono ?_
    rintro r H' ⟨rfl, rfl⟩
    simp only [ext2, SX, Opd.ev, resVal, resVals, ARes.val, Bool.false_eq_true, Bool.not_false, Bool.not_true, List.getD_cons_succ, List.getD_cons_zero, List.map_cons, List.map_nil, Nat.add_zero, Nat.zero_add, Option.map_none, Option.map_some, Option.some.injEq, and_true, decide_false, decide_true, true_and, reduceCtorEq, Nat.reduceEqDiff, ↓reduceIte, Int.reduceEq, Int.reduceLT, Int.reduceLE, Nat.reduceAdd]
    exact tup2_eq (by simp [nx, c1, c2, c3])
  · simp only [A27, c1, c2, c3, SX, Opd.ev, resVal, resVals, ARes.val, Bool.false_eq_true, Bool.not_false, Bool.not_true, List.getD_cons_succ, List.getD_cons_zero, List.map_cons, List.map_nil, Nat.add_zero, Nat.zero_add, Option.map_none, Option.map_some, Option.some.injEq, and_true, decide_false, decide_true, true_and, reduceCtorEq, Nat.reduceEqDiff, ↓reduceIte, Int.reduceEq, Int.reduceLT, Int.reduceLE, Nat.reduceAdd]
    refine (let_spec eq).mono ?_
    rintro r H' ⟨rfl, rfl⟩
    simp only [ext2, SX, Opd.ev, resVal, resVals, ARes.val, Bool.false_eq_true, Bool.not_false, Bool.not_true, List.getD_cons_succ, List.getD_cons_zero, List.map_cons, List.map_nil, Nat.add_zero, Nat.zero_add, Option.map_none, Option.map_some, Option.some.injEq, and_true, decide_false, decide_true, true_and, reduceCtorEq, Nat.reduceEqDiff, ↓reduceIte, Int.reduceEq, Int.reduceLT, Int.reduceLE, Nat.reduceAdd]
    exact tup2_eq (by simp [nx, c1, c2, c3])
  · simp only [A27, c1, c2, c3, SX, Opd.ev, resVal, resVals, ARes.val, Bool.false_eq_true, Bool.not_false, Bool.not_true, List.getD_cons_succ, List.getD_cons_zero, List.map_cons, List.map_nil, Nat.add_zero, Nat.zero_add, Option.map_none, Option.map_some, Option.some.injEq, and_true, decide_false, decide_true, true_and, reduceCtorEq, Nat.reduceEqDiff, ↓reduceIte, Int.reduceEq, Int.reduceLT, Int.reduceLE, Nat.reduceAdd]
    refine (seq_spec eq).mono ?_
    rintro r H' ⟨rfl, rfl⟩
    simp only [ext2, SX, Opd.ev, resVal, resVals, ARes.val, Bool.false_eq_true, Bool.not_false, Bool.not_true, List.getD_cons_succ, List.getD_cons_zero, List.map_cons, List.map_nil, Nat.add_zero, Nat.zero_add, Option.map_none, Option.map_some, Option.some.injEq, and_true, decide_false, decide_true, true_and, reduceCtorEq, Nat.reduceEqDiff, ↓reduceIte, Int.reduceEq, Int.reduceLT, Int.reduceLE, Nat.reduceAdd]
    exact tup2_eq (by simp [nx, c1, c2, c3])
  · simp only [A27, c1, c2, c3, SX, Opd.ev, resVal, resVals, ARes.val, Bool.false_eq_true, Bool.not_false, Bool.not_true, List.getD_cons_succ, List.getD_cons_zero, List.map_cons, List.map_nil, Nat.add_zero, Nat.zero_add, Option.map_none, Option.map_some, Option.some.injEq, and_true, decide_false, decide_true, true_and, reduceCtorEq, Nat.reduceEqDiff, ↓reduceIte, Int.reduceEq, Int.reduceLT, Int.reduceLE, Nat.reduceAdd]
    refine (seq_spec eq).mono ?_
    rintro r H' ⟨rfl, rfl⟩
    simp only [ext2, SX, Opd.ev, resVal, resVals, ARes.val, Bool.false_eq_true, Bool.not_false, Bool.not_true, List.getD_cons_succ, List.getD_cons_zero, List.map_cons, List.map_nil, Nat.add_zero, Nat.zero_add, Option.map_none, Option.map_some, Option.some.injEq, and_true, decide_false, decide_true, true_and, reduceCtorEq, Nat.reduceEqDiff, ↓reduceIte, Int.reduceEq, Int.reduceLT, Int.reduceLE, Nat.reduceAdd]
    exact tup2_eq (by simp [nx, c1, c2, c3])
  · simp only [A27, c1, c2, c3, SX, Opd.ev, resVal, resVals, ARes.val, Bool.false_eq_true, Bool.not_false, Bool.not_true, List.getD_cons_succ, List.getD_cons_zero, List.map_cons, List.map_nil, Nat.add_zero, Nat.zero_add, Option.map_none, Option.map_some, Option.some.injEq, and_true, decide_false, decide_true, true_and, reduceCtorEq, Nat.reduceEqDiff, ↓reduceIte, Int.reduceEq, Int.reduceLT, Int.reduceLE, Nat.reduceAdd]
    refine (seq_spec eq).mono ?_
    rintro r H' ⟨rfl, rfl⟩
    simp only [ext2, SX, Opd.ev, resVal, resVals, ARes.val, Bool.false_eq_true, Bool.not_false, Bool.not_true, List.getD_cons_succ, List.getD_cons_zero, List.map_cons, List.map_nil, Nat.add_zero, Nat.zero_add, Option.map_none, Option.map_some, Option.some.injEq, and_true, decide_false, decide_true, true_and, reduceCtorEq, Nat.reduceEqDiff, ↓reduceIte, Int.reduceEq, Int.reduceLT, Int.reduceLE, Nat.reduceAdd]
    exact tup2_eq (by simp [nx, c1, c2, c3])
  · simp only [A27, c1, c2, c3, SX, Opd.ev, resVal, resVals, ARes.val, Bool.false_eq_true, Bool.not_false, Bool.not_true, List.getD_cons_succ, List.getD_cons_zero, List.map_cons, List.map_nil, Nat.add_zero, Nat.zero_add, Option.map_none, Option.map_some, Option.some.injEq, and_true, decide_false, decide_true, true_and, reduceCtorEq, Nat.reduceEqDiff, ↓reduceIte, Int.reduceEq, Int.reduceLT, Int.reduceLE, Nat.reduceAdd]
    refine (text_spec eq).mono ?_
    rintro r H' ⟨rfl, rfl⟩
    simp only [ext2, SX, Opd.ev, resVal, resVals, ARes.val, Bool.false_eq_true, Bool.not_false, Bool.not_true, List.getD_cons_succ, List.getD_cons_zero, List.map_cons, List.map_nil, Nat.add_zero, Nat.zero_add, Option.map_none, Option.map_some, Option.some.injEq, and_true, decide_false, decide_true, true_and, reduceCtorEq, Nat.reduceEqDiff, ↓reduceIte, Int.reduceEq, Int.reduceLT, Int.reduceLE, Nat.reduceAdd]
    exact tup2_eq (by simp [nx, c1, c2, c3])
  · simp only [A27, c1, c2, c3, SX, Opd.ev, resVal, resVals, ARes.val, Bool.false_eq_true, Bool.not_false, Bool.not_true, List.getD_cons_succ, List.getD_cons_zero, List.map_cons, List.map_nil, Nat.add_zero, Nat.zero_add, Option.map_none, Option.map_some, Option.some.injEq, and_true, decide_false, decide_true, true_and, reduceCtorEq, Nat.reduceEqDiff, ↓reduceIte, Int.reduceEq, Int.reduceLT, Int.reduceLE, Nat.reduceAdd]
    refine (text_spec eq).mono ?_
    rintro r H' ⟨rfl, rfl⟩
    simp only [ext2, SX, Opd.ev, resVal, resVals, ARes.val, Bool.false_eq_true, Bool.not_false, Bool.not_true, List.getD_cons_succ, List.getD_cons_zero, List.map_cons, List.map_nil, Nat.add_zero, Nat.zero_add, Option.map_none, Option.map_some, Option.some.injEq, and_true, decide_false, decide_true, true_and, reduceCtorEq, Nat.reduceEqDiff, ↓reduceIte, Int.reduceEq, Int.reduceLT, Int.reduceLE, Nat.reduceAdd]
    exact tup2_eq (by simp [nx, c1, c2, c3])
  · simp only [A27, c1, c2, c3, SX, Opd.ev, resVal, resVals, ARes.val, Bool.false_eq_true, Bool.not_false, Bool.not_true, List.getD_cons_succ, List.getD_cons_zero, List.map_cons, List.map_nil, Nat.add_zero, Nat.zero_add, Option.map_none, Option.map_some, Option.some.injEq, and_true, decide_false, decide_true, true_and, reduceCtorEq, Nat.reduceEqDiff, ↓reduceIte, Int.reduceEq, Int.reduceLT, Int.reduceLE, Nat.reduceAdd]
    refine (text_spec eq).mono ?_
    rintro r H' ⟨rfl, rfl⟩
    simp only [ext2, SX, Opd.ev, resVal, resVals, ARes.val, Bool.false_eq_true, Bool.not_false, Bool.not_true, List.getD_cons_succ, List.getD_cons_zero, List.map_cons, List.map_nil, Nat.add_zero, Nat.zero_add, Option.map_none, Option.map_some, Option.some.injEq, and_true, decide_false, decide_true, true_and, reduceCtorEq, Nat.reduceEqDiff, ↓reduceIte, Int.reduceEq, Int.reduceLT, Int.reduceLE, Nat.reduceAdd]
    exact tup2_eq (by simp [nx, c1, c2, c3])
  · simp only [A27, c1, c2, c3, SX, Opd.ev, resVal, resVals, ARes.val, Bool.false_eq_true, Bool.not_false, Bool.not_true, List.getD_cons_succ, List.getD_cons_zero, List.map_cons, List.map_nil, Nat.add_zero, Nat.zero_add, Option.map_none, Option.map_some, Option.some.injEq, and_true, decide_false, decide_true, true_and, reduceCtorEq, Nat.reduceEqDiff, ↓reduceIte, Int.reduceEq, Int.reduceLT, Int.reduceLE, Nat.reduceAdd]
    refine (text_spec eq).mono ?_
    rintro r H' ⟨rfl, rfl⟩
    simp only [ext2, SX, Opd.ev, resVal, resVals, ARes.val, Bool.false_eq_true, Bool.not_false, Bool.not_true, List.getD_cons_succ, List.getD_cons_zero, List.map_cons, List.map_nil, Nat.add_zero, Nat.zero_add, Option.map_none, Option.map_some, Option.some.injEq, and_true, decide_false, decide_true, true_and, reduceCtorEq, Nat.reduceEqDiff, ↓reduceIte, Int.reduceEq, Int.reduceLT, Int.reduceLE, Nat.reduceAdd]
    exact tup2_eq (by simp [nx, c1, c2, c3])
end
/-! ### Texts -/
theorem bytesOf_V (t : List UInt8) : bytesOf (bytesV t) = some t := by
  induction t with
  | nil => rfl
  | cons c t ih =>
    have : bytesV (c :: t) = .int .u8 c.toNat :: bytesV t := rfl
    rw [this]
    simp only [bytesOf, ih]
    simp
theorem bytesV_one (t : List UInt8) : (bytesV t).all AV.one = true := by simp [bytesV, AV.one]
theorem XRv.push {base : Nat} {H : AHeap} {v : AV} {t : List UInt8} {cl l : List Cel} {tb : Nat} {c : UInt8} (h : XRv v t cl) (hp : Hp base H (cl ++ (⟨tb, 1, [.int .u8 c.toNat]⟩ :: l))) (hs : t.length ≤ 1000000) :
    ∃ w H' cl', appendE H 1 1 v (.slc tb 0 1 1) = some (w, H') ∧ XRv w (t ++ [c]) cl' ∧ Hp base H' (cl' ++ (⟨tb, 1, [.int .u8 c.toNat]⟩ :: l)) ∧ Keep base H H' := by
  have hsrc : srcCells H 1 (.slc tb 0 1 1) = some (1, [.int .u8 c.toNat]) := hp.src (k' := 1) (pre := []) (post := []) (ys := [.int .u8 c.toNat]) (List.mem_append_right _ (List.mem_cons_self ..)) rfl rfl (by omega)
  rcases h with ⟨rfl, rfl, rfl⟩ | ⟨b, hne, rfl, rfl⟩
  · obtain ⟨H', s, g, k⟩ := hp.appendK0 (k := 1) (bytes := 1) (by omega) hsrc (by omega) rfl (by omega) (by omega)
    exact ⟨_, H', [⟨H.next, 1, [.int .u8 c.toNat]⟩], s, .inr ⟨H.next, by simp, rfl, rfl⟩, g, k⟩
  · obtain ⟨H', s, g, k⟩ := Hp.appendK (pre := []) (xs := bytesV t) (l := ⟨tb, 1, [.int .u8 c.toNat]⟩ :: l) hp (k := 1) (n := t.length) (bytes := 1) rfl (by simp [bytesV]) (by omega) hsrc (by omega) rfl (by omega) (by omega)
    exact ⟨_, H', [⟨H.next, 1, bytesV (t ++ [c])⟩], s, .inr ⟨H.next, by simp, by simp, rfl⟩, by simpa [bytesV] using g, k⟩
theorem XRv.len {v : AV} {t : List UInt8} {cl : List Cel} (h : XRv v t cl) (H : AHeap) : lngV H 1 v = some (.int .i64 t.length) := by
  rcases h with ⟨rfl, rfl, _⟩ | ⟨b, _, rfl, _⟩ <;> rfl
theorem XRv.one {v : AV} {t : List UInt8} {cl : List Cel} (h : XRv v t cl) : v.one = true := by
  rcases h with ⟨_, rfl, _⟩ | ⟨b, _, rfl, _⟩ <;> rfl
theorem XRv.str {base : Nat} {H : AHeap} {v : AV} {t : List UInt8} {cl l : List Cel} (h : XRv v t cl) (hp : Hp base H l) (hsub : ∀ x ∈ cl, x ∈ l) : strOfBytesV H v = some (.str t) := by
  rcases h with ⟨rfl, rfl, _⟩ | ⟨b, hne, rfl, rfl⟩
  · rfl
  · obtain ⟨B, r, e⟩ := hp.rowOf (hsub ⟨b, 1, bytesV t⟩ (List.mem_singleton.2 rfl))
    have hc : AM.cut B.cells 0 t.length = some (bytesV t) := by
      rw [e]; unfold AM.cut
      rw [if_pos (by simp [bytesV]), List.drop_zero, List.take_of_length_le (by simp [bytesV])]
    simp only [strOfBytesV, ROp.run, Opd.ev, r, hc, bytesOf_V]
theorem same_x {v : AV} {t : List UInt8} {cl : List Cel} (h : XRv v t cl) : AV.same v v = true ∧ AV.same1 v v = true := by
  rcases h with ⟨_, rfl, _⟩ | ⟨b, _, rfl, _⟩
  · exact ⟨rfl, rfl⟩
  · simp [AV.same, AV.same1]
/-! ### A parser's list -/
def rstOf (s : PSt) (xv tv : AV) : Rst := ⟨.int .i64 s.d.kept, .int .i64 s.d.left, .int .u8 s.d.lo, .int .u8 s.d.hi, .int .i32 s.d.x, .int .i64 s.st, .str s.mids, .bool s.many, .int .u8 s.fin, xv, .bool s.long, tv⟩
theorem pls_of {base : Nat} {H : AHeap} {p : Nat} {s : PSt} {c : PC} {l : List Cel} (ok : c.ok s) (hp : Hp base H (⟨p, 1, pcs s c.lv c.xv c.tv⟩ :: c.rest l)) : PLs (rstOf s c.xv c.tv) (c.xcl ++ (c.tcl ++ l)) base H p s.ps := by
  rcases ok.l with ⟨h1, h2, h3⟩ | ⟨b, M, h1, h2, h3, h4⟩
  · refine ⟨[], .inl ⟨rfl, ?_⟩, by rw [h1]; rfl⟩
    rw [h2] at hp
    unfold PC.rest at hp
    rw [h3] at hp
    exact hp
  · refine ⟨M, .inr ⟨b, h1, ?_⟩, h2⟩
    rw [h3] at hp
    unfold PC.rest at hp
    rw [h4] at hp
    exact hp
theorem of_pls {ρ : Rst} {ll : List Cel} {base : Nat} {H : AHeap} {p : Nat} {s : PS} (h : PLs ρ ll base H p s) : ∃ lv lcl, PRv lv s.L lcl ∧ Hp base H (⟨p, 1, ρ.cs lv (.bool s.ov) (.bool s.fu)⟩ :: (lcl ++ ll)) := by
  obtain ⟨M, h, e⟩ := h
  rcases h with ⟨rfl, h⟩ | ⟨b, h1, h⟩
  · exact ⟨.nils, [], .inl ⟨by rw [← e]; rfl, rfl, rfl⟩, h⟩
  · exact ⟨_, _, .inr ⟨b, M, h1, e, rfl, rfl⟩, h⟩
theorem LL.prv {base : Nat} {H : AHeap} {v : AV} {M : List (Nat × List Int)} {L : List (List Int)} (h : LL base H v M) (e : M.map (·.2) = L) : ∃ cl, PRv v L cl ∧ Hp base H cl := by
  rcases h with ⟨rfl, rfl, h⟩ | ⟨b, h1, rfl, h⟩
  · exact ⟨[], .inl ⟨by rw [← e]; rfl, rfl, rfl⟩, h⟩
  · exact ⟨_, .inr ⟨b, M, h1, e, rfl, rfl⟩, h⟩
/-! ### Steps -/
def PSt.putS (s : PSt) (c : UInt8) : PSt := if s.long = true ∨ s.text.length = (if s.st = 12 then 1024 else 256) then { s with long := true } else { s with text := s.text ++ [c] }
def PSt.overS (s : PSt) (a : Int) (c : UInt8) : PSt := if s.many = true ∨ (a = 5 ∧ c = 92 ∧ s.mids = []) then s else if a = 5 then s.tell ⟨3, 0, c.toNat, s.mids, [], []⟩ else s.tell ⟨4, 0, c.toNat, s.mids, s.ps.L, []⟩
def PSt.stopS (s : PSt) (c : UInt8) : PSt := if c = 24 ∨ c = 26 ∨ s.long = true then s else if s.st = 12 then s.tell ⟨5, 0, 0, [], [], s.text⟩ else if s.many = true then s else s.tell ⟨6, 0, s.fin, s.mids, s.ps.L, s.text⟩
def PSt.clrS (s : PSt) : PSt := { s with ps := PS.none, mids := [], many := false, text := [], long := false }
def PSt.midS (s : PSt) (c : UInt8) : PSt := if s.many = true ∨ s.mids.length = 2 then { s with many := true } else { s with many := false, mids := s.mids ++ [c] }
def PSt.doesS (s : PSt) (a : Int) (c : UInt8) : PSt :=
  if a = 1 then ({ s with d := (s.d.byte c.toNat).2 } : PSt).prints (s.d.byte c.toNat).1
  else if a = 2 then s.tell ⟨2, 0, c.toNat, [], [], []⟩ else if a = 3 then s.midS c else if a = 4 then { s with ps := s.ps.byte c.toNat } else if a = 5 then s.overS 5 c else if a = 6 then s.overS 6 c
  else if a = 7 then { s with fin := c.toNat } else if a = 8 then s.putS c else s
section
variable {Q : Prog} (eq : EvQ Q) {base : Nat} {H : AHeap} {p : Nat} {s : PSt} {l : List Cel}
include eq
set_option maxHeartbeats 4000000 in
theorem put_spec {c : UInt8} (h : Par base H p s l) (hs : s.text.length ≤ 1000000) : FnTo Q 59 [.ptr p 0, .int .u8 c.toNat] H (fun r H' => Par base H' p (s.putS c) l ∧ Keep base H H') := by
  refine fn_wp (eq.ho 59 rfl _) eq.q59 (by simp [A59]) ?_
  obtain ⟨C, ok, hp⟩ := h
  have l5 := hp.load (b := p) (k := 1) (cs := pcs s C.lv C.xv C.tv) (List.mem_cons_self ..) (o := 5) rfl
  have l12 := hp.load (b := p) (k := 1) (cs := pcs s C.lv C.xv C.tv) (List.mem_cons_self ..) (o := 12) rfl
  have l13 := hp.load (b := p) (k := 1) (cs := pcs s C.lv C.xv C.tv) (List.mem_cons_self ..) (o := 13) rfl
  have ln := ok.x.len H
  obtain ⟨most, hm⟩ : ∃ m : Nat, (if s.st = 12 then 1024 else 256) = m := ⟨_, rfl⟩
  have hput : s.putS c = if s.long = true ∨ s.text.length = most then { s with long := true } else { s with text := s.text ++ [c] } := by unfold PSt.putS; rw [hm]
  have fin : ∀ lg : Bool, (lg = true ↔ s.long = true ∨ s.text.length = most) → ∃ H1, storeE H 1 (.ptr p 13) (.bool lg) = some (.undef, H1) ∧ loadV H1 Option.none (.ptr p 13) = some (.bool lg) ∧ Keep base H H1 ∧
      (lg = true → Par base H1 p (s.putS c) l) ∧ (lg = false → loadV H1 Option.none (.ptr p 12) = some C.xv ∧ ∃ H2 w H3 H4, H1.alloc (.row ⟨[.int .u8 c.toNat], 0, false, true, 0⟩) = H2 ∧ appendE H2 1 1 C.xv (.slc H1.next 0 1 1) = some (w, H3) ∧ storeE H3 1 (.ptr p 12) w = some (.undef, H4) ∧ Par base H4 p (s.putS c) l ∧ Keep base H1 H4) := by
    intro lg hlg
    obtain ⟨H1, s1, g1, k1, n1⟩ := hp.store (o := 13) (v := .bool lg) rfl (by simp [pcs, DSt.cs])
    have g1' : Hp base H1 (⟨p, 1, pcs { s with long := lg } C.lv C.xv C.tv⟩ :: C.rest l) := g1
    refine ⟨H1, s1, g1'.load (b := p) (k := 1) (List.mem_cons_self ..) (o := 13) rfl, k1, fun hl => ?_, fun hl => ⟨g1'.load (b := p) (k := 1) (List.mem_cons_self ..) (o := 12) rfl, ?_⟩⟩
    · rw [hput, if_pos (hlg.1 hl)]
      subst hl
      exact ⟨C, ⟨ok.l, ok.x, ok.t, ok.e, ok.ev⟩, g1'⟩
    · subst hl
      have hno : ¬ (s.long = true ∨ s.text.length = most) := fun hh => by have := hlg.2 hh; simp at this
      obtain ⟨H2, s2, g2, k2⟩ := g1'.make [.int .u8 c.toNat] 1
      obtain ⟨w, H3, cl', s3, x3, g3, k3⟩ := ok.x.push (c := c) (tb := H1.next) (l := ⟨p, 1, pcs { s with long := false } C.lv C.xv C.tv⟩ :: (C.lcl ++ (C.tcl ++ l))) (g2.re fun a => by simp only [PC.rest, cnt_cons, cnt_append]; omega) hs
      obtain ⟨H4, s4, g4, k4, n4⟩ := (g3.re (l' := ⟨p, 1, pcs { s with long := false } C.lv C.xv C.tv⟩ :: ⟨H1.next, 1, [.int .u8 c.toNat]⟩ :: (C.lcl ++ (cl' ++ (C.tcl ++ l)))) fun a => by simp only [cnt_cons, cnt_append]; omega).store (o := 12) (v := w) x3.one (by simp [pcs, DSt.cs])
      refine ⟨H2, w, H3, H4, s2, s3, s4, ?_, (k2.trans k3).trans k4⟩
      rw [hput, if_neg hno]
      have hlf : s.long = false := by cases hh : s.long with | true => exact absurd (.inl hh) hno | false => rfl
      refine ⟨{ C with xv := w, xcl := cl' }, ⟨ok.l, x3, ok.t, ok.e, ok.ev⟩, ?_⟩
      have e : (pcs { s with long := false } C.lv C.xv C.tv).set 12 w = pcs { s with text := s.text ++ [c] } C.lv w C.tv := by
        simp only [pcs, hlf]; rfl
      rw [e] at g4
      exact g4.swap.drop
  have mst : ∀ (K : AV → AHeap → Prop), True := fun _ => trivial
  by_cases c1 : s.st = 12
  · have c1' : decide (s.st = 12) = true := by simpa using c1
    have hm1 : most = 1024 := by rw [← hm, if_pos c1]
    by_cases c2 : s.long = true
    · obtain ⟨H1, s1, la, k1, f1, f2⟩ := fin true (by simp [c2])
      rw [c2] at l13
      simp only [A59, l5, c1', l13, s1, la, resNil, SX, Opd.ev, resVal, resVals, ARes.val, Bool.false_eq_true, Bool.not_false, Bool.not_true, List.getD_cons_succ, List.getD_cons_zero, List.map_cons, List.map_nil, Nat.add_zero, Nat.zero_add, Option.map_none, Option.map_some, Option.some.injEq, and_true, decide_false, decide_true, true_and, reduceCtorEq, Nat.reduceEqDiff, ↓reduceIte, Int.reduceEq, Int.reduceLT, Int.reduceLE, Nat.reduceAdd]
      exact ⟨f1 rfl, k1⟩
    · have c2' : s.long = false := by simpa using c2
      rw [c2'] at l13
      by_cases c3 : s.text.length = most
      · obtain ⟨H1, s1, la, k1, f1, f2⟩ := fin true (by simp [c3])
        have c3' : decide ((s.text.length : Int) = 1024) = true := by simp; omega
        simp only [A59, l5, c1', l13, l12, ln, c3', s1, la, resNil, SX, Opd.ev, resVal, resVals, ARes.val, Bool.false_eq_true, Bool.not_false, Bool.not_true, List.getD_cons_succ, List.getD_cons_zero, List.map_cons, List.map_nil, Nat.add_zero, Nat.zero_add, Option.map_none, Option.map_some, Option.some.injEq, and_true, decide_false, decide_true, true_and, reduceCtorEq, Nat.reduceEqDiff, ↓reduceIte, Int.reduceEq, Int.reduceLT, Int.reduceLE, Nat.reduceAdd]
        exact ⟨f1 rfl, k1⟩
      · obtain ⟨H1, s1, la, k1, f1, f2⟩ := fin false (by simp [c3, c2'])
        obtain ⟨lb, H2, w, H3, H4, s2, s3, s4, par, k4⟩ := f2 rfl
        have c3' : decide ((s.text.length : Int) = 1024) = false := by simp; omega
        simp only [A59, l5, c1', l13, l12, ln, c3', s1, la, lb, s2, s3, s4, resNil, SX, Opd.ev, resVal, resVals, ARes.val, Bool.false_eq_true, Bool.not_false, Bool.not_true, List.getD_cons_succ, List.getD_cons_zero, List.map_cons, List.map_nil, Nat.add_zero, Nat.zero_add, Option.map_none, Option.map_some, Option.some.injEq, and_true, decide_false, decide_true, true_and, reduceCtorEq, Nat.reduceEqDiff, ↓reduceIte, Int.reduceEq, Int.reduceLT, Int.reduceLE, Nat.reduceAdd]
        exact ⟨par, k1.trans k4⟩
  · have c1' : decide (s.st = 12) = false := by simpa using c1
    have hm1 : most = 256 := by rw [← hm, if_neg c1]
    by_cases c2 : s.long = true
    · obtain ⟨H1, s1, la, k1, f1, f2⟩ := fin true (by simp [c2])
      rw [c2] at l13
      simp only [A59, l5, c1', l13, s1, la, resNil, SX, Opd.ev, resVal, resVals, ARes.val, Bool.false_eq_true, Bool.not_false, Bool.not_true, List.getD_cons_succ, List.getD_cons_zero, List.map_cons, List.map_nil, Nat.add_zero, Nat.zero_add, Option.map_none, Option.map_some, Option.some.injEq, and_true, decide_false, decide_true, true_and, reduceCtorEq, Nat.reduceEqDiff, ↓reduceIte, Int.reduceEq, Int.reduceLT, Int.reduceLE, Nat.reduceAdd]
      exact ⟨f1 rfl, k1⟩
    · have c2' : s.long = false := by simpa using c2
      rw [c2'] at l13
      by_cases c3 : s.text.length = most
      · obtain ⟨H1, s1, la, k1, f1, f2⟩ := fin true (by simp [c3])
        have c3' : decide ((s.text.length : Int) = 256) = true := by simp; omega
        simp only [A59, l5, c1', l13, l12, ln, c3', s1, la, resNil, SX, Opd.ev, resVal, resVals, ARes.val, Bool.false_eq_true, Bool.not_false, Bool.not_true, List.getD_cons_succ, List.getD_cons_zero, List.map_cons, List.map_nil, Nat.add_zero, Nat.zero_add, Option.map_none, Option.map_some, Option.some.injEq, and_true, decide_false, decide_true, true_and, reduceCtorEq, Nat.reduceEqDiff, ↓reduceIte, Int.reduceEq, Int.reduceLT, Int.reduceLE, Nat.reduceAdd]
        exact ⟨f1 rfl, k1⟩
      · obtain ⟨H1, s1, la, k1, f1, f2⟩ := fin false (by simp [c3, c2'])
        obtain ⟨lb, H2, w, H3, H4, s2, s3, s4, par, k4⟩ := f2 rfl
        have c3' : decide ((s.text.length : Int) = 256) = false := by simp; omega
        simp only [A59, l5, c1', l13, l12, ln, c3', s1, la, lb, s2, s3, s4, resNil, SX, Opd.ev, resVal, resVals, ARes.val, Bool.false_eq_true, Bool.not_false, Bool.not_true, List.getD_cons_succ, List.getD_cons_zero, List.map_cons, List.map_nil, Nat.add_zero, Nat.zero_add, Option.map_none, Option.map_some, Option.some.injEq, and_true, decide_false, decide_true, true_and, reduceCtorEq, Nat.reduceEqDiff, ↓reduceIte, Int.reduceEq, Int.reduceLT, Int.reduceLE, Nat.reduceAdd]
        exact ⟨par, k1.trans k4⟩
set_option maxHeartbeats 4000000 in
theorem over_spec {a : Int} {c : UInt8} (hg : s.ps.Good) (h : Par base H p s l) (hs : s.told.length ≤ 1000000) : FnTo Q 58 [.ptr p 0, .int .i64 a, .int .u8 c.toNat] H (fun r H' => Par base H' p (s.overS a c) l ∧ Keep base H H') := by
  refine fn_wp (eq.ho 58 rfl _) eq.q58 (by simp [A58]) ?_
  have par := h
  obtain ⟨C, ok, hp⟩ := h
  have l9 := hp.load (b := p) (k := 1) (cs := pcs s C.lv C.xv C.tv) (List.mem_cons_self ..) (o := 9) rfl
  have l10 := hp.load (b := p) (k := 1) (cs := pcs s C.lv C.xv C.tv) (List.mem_cons_self ..) (o := 10) rfl
  have h92 : (c = 92) ↔ ((c.toNat : Int) = 92) := by
    constructor
    · rintro rfl; rfl
    · intro hh; exact UInt8.toNat_inj.1 (by show c.toNat = 92; omega)
  by_cases c1 : s.many = true
  · rw [c1] at l10
    simp only [A58, l10, resNil, SX, Opd.ev, resVal, resVals, ARes.val, Bool.false_eq_true, Bool.not_false, Bool.not_true, List.getD_cons_succ, List.getD_cons_zero, List.map_cons, List.map_nil, Nat.add_zero, Nat.zero_add, Option.map_none, Option.map_some, Option.some.injEq, and_true, decide_false, decide_true, true_and, reduceCtorEq, Nat.reduceEqDiff, ↓reduceIte, Int.reduceEq, Int.reduceLT, Int.reduceLE, Nat.reduceAdd]
    have e : s.overS a c = s := by unfold PSt.overS; rw [if_pos (.inl c1)]
    rw [e]
    exact ⟨par, Keep.refl _ _⟩
  have c1' : s.many = false := by simpa using c1
  rw [c1'] at l10
  have esc : a = 5 → ¬ (c = 92 ∧ s.mids = []) → ∀ K : AV → AHeap → Prop, (∀ r H', Par base H' p (s.overS a c) l ∧ Keep base H H' → K r H') → FnTo Q 54 [.ptr p 0, (ev0 3 0 c.toNat s.mids []).1.val] H K := by
    intro ha hc K hK
    refine (tells_spec eq.ho eq.q54 (ev0_ok 3 0 c.toNat s.mids []) (l := l) par hs).mono ?_
    rintro r H' ⟨h1, h2⟩
    refine hK r H' ⟨?_, h2⟩
    unfold PSt.overS
    rw [if_neg (by simp [c1', ha]; exact fun h1 h2 => hc ⟨h1, h2⟩), if_pos ha]
    exact h1
  by_cases c2 : a = 5
  · have c2' : decide (a = 5) = true := by simpa using c2
    by_cases c3 : (c.toNat : Int) = 92
    · have c3' : decide ((c.toNat : Int) = 92) = true := by simpa using c3
      by_cases c4 : s.mids = []
      · have c4' : decide (s.mids = []) = true := by simpa using c4
        simp only [A58, l9, l10, c2', c3', bin_eqls, c4', resNil, SX, Opd.ev, resVal, resVals, ARes.val, Bool.false_eq_true, Bool.not_false, Bool.not_true, List.getD_cons_succ, List.getD_cons_zero, List.map_cons, List.map_nil, Nat.add_zero, Nat.zero_add, Option.map_none, Option.map_some, Option.some.injEq, and_true, decide_false, decide_true, true_and, reduceCtorEq, Nat.reduceEqDiff, ↓reduceIte, Int.reduceEq, Int.reduceLT, Int.reduceLE, Nat.reduceAdd]
        have e : s.overS a c = s := by unfold PSt.overS; rw [if_pos (.inr ⟨c2, h92.2 c3, c4⟩)]
        rw [e]
        exact ⟨par, Keep.refl _ _⟩
      · have c4' : decide (s.mids = []) = false := by simpa using c4
        simp only [A58, l9, l10, c2', c3', bin_eqls, c4', hzE, run_build, build_esc, SX, Opd.ev, resVal, resVals, ARes.val, Bool.false_eq_true, Bool.not_false, Bool.not_true, List.getD_cons_succ, List.getD_cons_zero, List.map_cons, List.map_nil, Nat.add_zero, Nat.zero_add, Option.map_none, Option.map_some, Option.some.injEq, and_true, decide_false, decide_true, true_and, reduceCtorEq, Nat.reduceEqDiff, ↓reduceIte, Int.reduceEq, Int.reduceLT, Int.reduceLE, Nat.reduceAdd]
        refine esc c2 (fun h => c4 h.2) _ ?_
        intro r H' hh
        simp only [resNil, SX, Opd.ev, resVal, resVals, ARes.val, Bool.false_eq_true, Bool.not_false, Bool.not_true, List.getD_cons_succ, List.getD_cons_zero, List.map_cons, List.map_nil, Nat.add_zero, Nat.zero_add, Option.map_none, Option.map_some, Option.some.injEq, and_true, decide_false, decide_true, true_and, reduceCtorEq, Nat.reduceEqDiff, ↓reduceIte, Int.reduceEq, Int.reduceLT, Int.reduceLE, Nat.reduceAdd]
        exact hh
    · have c3' : decide ((c.toNat : Int) = 92) = false := by simpa using c3
      simp only [A58, l9, l10, c2', c3', hzE, run_build, build_esc, SX, Opd.ev, resVal, resVals, ARes.val, Bool.false_eq_true, Bool.not_false, Bool.not_true, List.getD_cons_succ, List.getD_cons_zero, List.map_cons, List.map_nil, Nat.add_zero, Nat.zero_add, Option.map_none, Option.map_some, Option.some.injEq, and_true, decide_false, decide_true, true_and, reduceCtorEq, Nat.reduceEqDiff, ↓reduceIte, Int.reduceEq, Int.reduceLT, Int.reduceLE, Nat.reduceAdd]
      refine esc c2 (fun h => c3 (h92.1 h.1)) _ ?_
      intro r H' hh
      simp only [resNil, SX, Opd.ev, resVal, resVals, ARes.val, Bool.false_eq_true, Bool.not_false, Bool.not_true, List.getD_cons_succ, List.getD_cons_zero, List.map_cons, List.map_nil, Nat.add_zero, Nat.zero_add, Option.map_none, Option.map_some, Option.some.injEq, and_true, decide_false, decide_true, true_and, reduceCtorEq, Nat.reduceEqDiff, ↓reduceIte, Int.reduceEq, Int.reduceLT, Int.reduceLE, Nat.reduceAdd]
      exact hh
  · have c2' : decide (a = 5) = false := by simpa using c2
    simp only [A58, l9, l10, c2', SX, Opd.ev, resVal, resVals, ARes.val, Bool.false_eq_true, Bool.not_false, Bool.not_true, List.getD_cons_succ, List.getD_cons_zero, List.map_cons, List.map_nil, Nat.add_zero, Nat.zero_add, Option.map_none, Option.map_some, Option.some.injEq, and_true, decide_false, decide_true, true_and, reduceCtorEq, Nat.reduceEqDiff, ↓reduceIte, Int.reduceEq, Int.reduceLT, Int.reduceLE, Nat.reduceAdd]
    refine (all_spec eq.q55 (eq.ho 55 rfl) eq.q68 (eq.ho 68 rfl) hg (pls_of ok hp)).mono ?_
    rintro r H1 ⟨k1, M, hl, hM⟩
    obtain ⟨cl, prv, hcl⟩ := hl.prv hM
    have gr := hcl.gr k1
    have hp1 := hp.keep gr.keep gr.next gr.fr
    have l9' := hp1.load (b := p) (k := 1) (cs := pcs s C.lv C.xv C.tv) (List.mem_cons_self ..) (o := 9) rfl
    have par1 := par.join gr hcl
    refine ⟨by simp only [echoOk, SX, Opd.ev, resVal, resVals, ARes.val, Bool.false_eq_true, Bool.not_false, Bool.not_true, List.getD_cons_succ, List.getD_cons_zero, List.map_cons, List.map_nil, Nat.add_zero, Nat.zero_add, Option.map_none, Option.map_some, Option.some.injEq, and_true, decide_false, decide_true, true_and, reduceCtorEq, Nat.reduceEqDiff, ↓reduceIte, Int.reduceEq, Int.reduceLT, Int.reduceLE, Nat.reduceAdd, l9', AV.same, AV.same1]; simp, ?_⟩
    simp only [l9', hzE, run_build, build_csi _ _ prv, SX, Opd.ev, resVal, resVals, ARes.val, Bool.false_eq_true, Bool.not_false, Bool.not_true, List.getD_cons_succ, List.getD_cons_zero, List.map_cons, List.map_nil, Nat.add_zero, Nat.zero_add, Option.map_none, Option.map_some, Option.some.injEq, and_true, decide_false, decide_true, true_and, reduceCtorEq, Nat.reduceEqDiff, ↓reduceIte, Int.reduceEq, Int.reduceLT, Int.reduceLE, Nat.reduceAdd]
    refine (tells_spec eq.ho eq.q54 (a := (⟨4, 0, c.toNat, s.mids, r, [], s.ps.L⟩, cl)) prv (l := l) par1 hs).mono ?_
    rintro r' H' ⟨h1, h2⟩
    simp only [resNil, SX, Opd.ev, resVal, resVals, ARes.val, Bool.false_eq_true, Bool.not_false, Bool.not_true, List.getD_cons_succ, List.getD_cons_zero, List.map_cons, List.map_nil, Nat.add_zero, Nat.zero_add, Option.map_none, Option.map_some, Option.some.injEq, and_true, decide_false, decide_true, true_and, reduceCtorEq, Nat.reduceEqDiff, ↓reduceIte, Int.reduceEq, Int.reduceLT, Int.reduceLE, Nat.reduceAdd]
    refine ⟨?_, (gr.keep.le hp.bn).trans h2⟩
    unfold PSt.overS
    rw [if_neg (by simp [c1', c2]), if_neg c2]
    exact h1
set_option maxHeartbeats 4000000 in
theorem stop_spec {c : UInt8} (hg : s.ps.Good) (h : Par base H p s l) (hs : s.told.length ≤ 1000000) : FnTo Q 29 [.ptr p 0, .int .u8 c.toNat] H (fun r H' => Par base H' p (s.stopS c) l ∧ Keep base H H') := by
  refine fn_wp (eq.ho 29 rfl _) eq.q29 (by simp [A29]) ?_
  have par := h
  obtain ⟨C, ok, hp⟩ := h
  have l5 := hp.load (b := p) (k := 1) (cs := pcs s C.lv C.xv C.tv) (List.mem_cons_self ..) (o := 5) rfl
  have l9 := hp.load (b := p) (k := 1) (cs := pcs s C.lv C.xv C.tv) (List.mem_cons_self ..) (o := 9) rfl
  have l10 := hp.load (b := p) (k := 1) (cs := pcs s C.lv C.xv C.tv) (List.mem_cons_self ..) (o := 10) rfl
  have l11 := hp.load (b := p) (k := 1) (cs := pcs s C.lv C.xv C.tv) (List.mem_cons_self ..) (o := 11) rfl
  have l12 := hp.load (b := p) (k := 1) (cs := pcs s C.lv C.xv C.tv) (List.mem_cons_self ..) (o := 12) rfl
  have l13 := hp.load (b := p) (k := 1) (cs := pcs s C.lv C.xv C.tv) (List.mem_cons_self ..) (o := 13) rfl
  have hxm : ∀ x ∈ C.xcl, x ∈ (⟨p, 1, pcs s C.lv C.xv C.tv⟩ : Cel) :: C.rest l := fun x hx => List.mem_cons_of_mem _ (List.mem_append_right _ (List.mem_append_left _ hx))
  have st := ok.x.str hp hxm
  have h24 : (c = 24) ↔ ((c.toNat : Int) = 24) := by
    constructor
    · rintro rfl; rfl
    · intro hh; exact UInt8.toNat_inj.1 (by show c.toNat = 24; omega)
  have h26 : (c = 26) ↔ ((c.toNat : Int) = 26) := by
    constructor
    · rintro rfl; rfl
    · intro hh; exact UInt8.toNat_inj.1 (by show c.toNat = 26; omega)
  have same : (c = 24 ∨ c = 26 ∨ s.long = true) → Par base H p (s.stopS c) l ∧ Keep base H H := fun hh => by
    unfold PSt.stopS; rw [if_pos hh]; exact ⟨par, Keep.refl _ _⟩
  by_cases c1 : (c.toNat : Int) = 24
  · have c1' : decide ((c.toNat : Int) = 24) = true := by simpa using c1
    simp only [A29, c1', resNil, SX, Opd.ev, resVal, resVals, ARes.val, Bool.false_eq_true, Bool.not_false, Bool.not_true, List.getD_cons_succ, List.getD_cons_zero, List.map_cons, List.map_nil, Nat.add_zero, Nat.zero_add, Option.map_none, Option.map_some, Option.some.injEq, and_true, decide_false, decide_true, true_and, reduceCtorEq, Nat.reduceEqDiff, ↓reduceIte, Int.reduceEq, Int.reduceLT, Int.reduceLE, Nat.reduceAdd]
    exact same (.inl (h24.2 c1))
  by_cases c2 : (c.toNat : Int) = 26
  · have c2' : decide ((c.toNat : Int) = 26) = true := by simpa using c2
    simp only [A29, c1, c2', resNil, SX, Opd.ev, resVal, resVals, ARes.val, Bool.false_eq_true, Bool.not_false, Bool.not_true, List.getD_cons_succ, List.getD_cons_zero, List.map_cons, List.map_nil, Nat.add_zero, Nat.zero_add, Option.map_none, Option.map_some, Option.some.injEq, and_true, decide_false, decide_true, true_and, reduceCtorEq, Nat.reduceEqDiff, ↓reduceIte, Int.reduceEq, Int.reduceLT, Int.reduceLE, Nat.reduceAdd]
    exact same (.inr (.inl (h26.2 c2)))
  cases c3 : s.long with
  | true =>
    rw [c3] at l13
    simp only [A29, c1, c2, l13, resNil, SX, Opd.ev, resVal, resVals, ARes.val, Bool.false_eq_true, Bool.not_false, Bool.not_true, List.getD_cons_succ, List.getD_cons_zero, List.map_cons, List.map_nil, Nat.add_zero, Nat.zero_add, Option.map_none, Option.map_some, Option.some.injEq, and_true, decide_false, decide_true, true_and, reduceCtorEq, Nat.reduceEqDiff, ↓reduceIte, Int.reduceEq, Int.reduceLT, Int.reduceLE, Nat.reduceAdd]
    exact same (.inr (.inr c3))
  | false =>
    rw [c3] at l13
    have hno : ¬ (c = 24 ∨ c = 26 ∨ s.long = true) := by
      rw [h24, h26, c3]; simp [c1, c2]
    by_cases c4 : s.st = 12
    · have c4' : decide (s.st = 12) = true := by simpa using c4
      simp only [A29, c1, c2, l13, l5, c4', l12, st, hzE, run_build, build_osc, SX, Opd.ev, resVal, resVals, ARes.val, Bool.false_eq_true, Bool.not_false, Bool.not_true, List.getD_cons_succ, List.getD_cons_zero, List.map_cons, List.map_nil, Nat.add_zero, Nat.zero_add, Option.map_none, Option.map_some, Option.some.injEq, and_true, decide_false, decide_true, true_and, reduceCtorEq, Nat.reduceEqDiff, ↓reduceIte, Int.reduceEq, Int.reduceLT, Int.reduceLE, Nat.reduceAdd]
      refine (tells_spec eq.ho eq.q54 (ev0_ok 5 0 0 [] s.text) (l := l) par hs).mono ?_
      rintro r' H' ⟨h1, h2⟩
      simp only [resNil, SX, Opd.ev, resVal, resVals, ARes.val, Bool.false_eq_true, Bool.not_false, Bool.not_true, List.getD_cons_succ, List.getD_cons_zero, List.map_cons, List.map_nil, Nat.add_zero, Nat.zero_add, Option.map_none, Option.map_some, Option.some.injEq, and_true, decide_false, decide_true, true_and, reduceCtorEq, Nat.reduceEqDiff, ↓reduceIte, Int.reduceEq, Int.reduceLT, Int.reduceLE, Nat.reduceAdd]
      refine ⟨?_, h2⟩
      unfold PSt.stopS
      rw [if_neg hno, if_pos c4]
      exact h1
    · have c4' : decide (s.st = 12) = false := by simpa using c4
      cases c5 : s.many with
      | true =>
        rw [c5] at l10
        simp only [A29, c1, c2, l13, l5, c4', l10, resNil, SX, Opd.ev, resVal, resVals, ARes.val, Bool.false_eq_true, Bool.not_false, Bool.not_true, List.getD_cons_succ, List.getD_cons_zero, List.map_cons, List.map_nil, Nat.add_zero, Nat.zero_add, Option.map_none, Option.map_some, Option.some.injEq, and_true, decide_false, decide_true, true_and, reduceCtorEq, Nat.reduceEqDiff, ↓reduceIte, Int.reduceEq, Int.reduceLT, Int.reduceLE, Nat.reduceAdd]
        have e : s.stopS c = s := by unfold PSt.stopS; rw [if_neg hno, if_neg c4, if_pos c5]
        rw [e]
        exact ⟨par, Keep.refl _ _⟩
      | false =>
        rw [c5] at l10
        simp only [A29, c1, c2, l13, l5, c4', l10, l9, l11, l12, st, SX, Opd.ev, resVal, resVals, ARes.val, Bool.false_eq_true, Bool.not_false, Bool.not_true, List.getD_cons_succ, List.getD_cons_zero, List.map_cons, List.map_nil, Nat.add_zero, Nat.zero_add, Option.map_none, Option.map_some, Option.some.injEq, and_true, decide_false, decide_true, true_and, reduceCtorEq, Nat.reduceEqDiff, ↓reduceIte, Int.reduceEq, Int.reduceLT, Int.reduceLE, Nat.reduceAdd]
        refine (all_spec eq.q55 (eq.ho 55 rfl) eq.q68 (eq.ho 68 rfl) hg (pls_of ok hp)).mono ?_
        rintro r H1 ⟨k1, M, hl, hM⟩
        obtain ⟨cl, prv, hcl⟩ := hl.prv hM
        have gr := hcl.gr k1
        have hp1 := hp.keep gr.keep gr.next gr.fr
        have l9' := hp1.load (b := p) (k := 1) (cs := pcs s C.lv C.xv C.tv) (List.mem_cons_self ..) (o := 9) rfl
        have l11' := hp1.load (b := p) (k := 1) (cs := pcs s C.lv C.xv C.tv) (List.mem_cons_self ..) (o := 11) rfl
        have l12' := hp1.load (b := p) (k := 1) (cs := pcs s C.lv C.xv C.tv) (List.mem_cons_self ..) (o := 12) rfl
        have st' := ok.x.str hp1 hxm
        have sx := same_x ok.x
        have par1 := par.join gr hcl
        have sstr : ∀ t : List UInt8, AV.same (.str t) (.str t) = true := fun t => by simp [AV.same, AV.same1]
        have sint : ∀ k (n : Int), AV.same (.int k n) (.int k n) = true := fun k n => by simp [AV.same, AV.same1]
        refine ⟨by simp only [echoOk, SX, Opd.ev, resVal, resVals, ARes.val, Bool.false_eq_true, Bool.not_false, Bool.not_true, List.getD_cons_succ, List.getD_cons_zero, List.map_cons, List.map_nil, Nat.add_zero, Nat.zero_add, Option.map_none, Option.map_some, Option.some.injEq, and_true, decide_false, decide_true, true_and, reduceCtorEq, Nat.reduceEqDiff, ↓reduceIte, Int.reduceEq, Int.reduceLT, Int.reduceLE, Nat.reduceAdd, l9', l11', l12', st', sstr, sint, sx.1]; simp, ?_⟩
        simp only [l9', l11', l12', st', hzE, run_build, build_dcs _ _ _ prv, SX, Opd.ev, resVal, resVals, ARes.val, Bool.false_eq_true, Bool.not_false, Bool.not_true, List.getD_cons_succ, List.getD_cons_zero, List.map_cons, List.map_nil, Nat.add_zero, Nat.zero_add, Option.map_none, Option.map_some, Option.some.injEq, and_true, decide_false, decide_true, true_and, reduceCtorEq, Nat.reduceEqDiff, ↓reduceIte, Int.reduceEq, Int.reduceLT, Int.reduceLE, Nat.reduceAdd]
        refine (tells_spec eq.ho eq.q54 (a := (⟨6, 0, s.fin, s.mids, r, s.text, s.ps.L⟩, cl)) prv (l := l) par1 hs).mono ?_
        rintro r' H' ⟨h1, h2⟩
        simp only [resNil, SX, Opd.ev, resVal, resVals, ARes.val, Bool.false_eq_true, Bool.not_false, Bool.not_true, List.getD_cons_succ, List.getD_cons_zero, List.map_cons, List.map_nil, Nat.add_zero, Nat.zero_add, Option.map_none, Option.map_some, Option.some.injEq, and_true, decide_false, decide_true, true_and, reduceCtorEq, Nat.reduceEqDiff, ↓reduceIte, Int.reduceEq, Int.reduceLT, Int.reduceLE, Nat.reduceAdd]
        refine ⟨?_, (gr.keep.le hp.bn).trans h2⟩
        unfold PSt.stopS
        rw [if_neg hno, if_neg c4, if_neg (by simp [c5])]
        exact h1
end

end Go.Proofs.Yteockjhckmlclaa.AM
