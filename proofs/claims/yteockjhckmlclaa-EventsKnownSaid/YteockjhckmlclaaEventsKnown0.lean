/-
  EventsKnown: the chapter's examples, and strings that are let go; the law's walk on the abstract machine.
-/
import Derived.Test.YteockjhckmlclaaEvW
import Derived.Lib.Repeat
set_option linter.unusedVariables false
set_option linter.unusedSimpArgs false
namespace Go.Proofs.Yteockjhckmlclaa.AM
open Go
theorem step_x {s : PSt} (h : s.st = 12 ∨ s.st = 10) (hd : s.d.kept = 0) : s.step 120 = s.putS 120 := by
  have hn : nx s.st ((120 : UInt8).toNat : Int) = (8, s.st) := by
    rcases h with h | h <;> rw [h] <;> rfl
  have e1 : s.step1 120 = s := by
    unfold PSt.step1 PSt.endS
    rw [if_pos hd]; split <;> rfl
  have e2 : s.step2 s.st 120 = s := by unfold PSt.step2; rw [if_neg (by simp)]
  have e3 : s.step3 s.st = s := by unfold PSt.step3; rw [if_neg (by simp)]
  have e4 : s.doesS 8 120 = s.putS 120 := by unfold PSt.doesS; simp only [Int.reduceEq, if_false, if_true]
  unfold PSt.step
  rw [hn]
  simp only [e1, e2, e3, e4]
  rcases putS_or' s 120 with e | e <;> rw [e]
theorem feed_x : ∀ (n : Nat) (s : PSt), (s.st = 12 ∨ s.st = 10) → s.d.kept = 0 → ∃ T lg, s.feed (Lib.repeatL [120] n) = { s with text := T, long := lg } ∧ ((s.long = true ∨ (s.text.length ≤ (if s.st = 12 then 1024 else 256) ∧ (if s.st = 12 then 1024 else 256) < s.text.length + n)) → lg = true)
  | 0, s, h, hd => ⟨s.text, s.long, rfl, fun hh => hh.elim id (fun hh => by omega)⟩
  | n + 1, s, h, hd => by
    have e : s.feed (Lib.repeatL [120] (n + 1)) = (s.putS 120).feed (Lib.repeatL [120] n) := by
      rw [← step_x h hd]; rfl
    rw [e]
    unfold PSt.putS
    by_cases hc : s.long = true ∨ s.text.length = (if s.st = 12 then 1024 else 256)
    · rw [if_pos hc]
      obtain ⟨T, lg, h1, h2⟩ := feed_x n { s with long := true } h hd
      exact ⟨T, lg, h1, fun _ => h2 (.inl rfl)⟩
    · rw [if_neg hc]
      obtain ⟨T, lg, h1, h2⟩ := feed_x n { s with text := s.text ++ [120] } h hd
      refine ⟨T, lg, h1, fun hh => h2 ?_⟩
      rcases hh with hh | ⟨hh1, hh2⟩
      · exact absurd (.inl hh) hc
      · refine .inr ⟨?_, ?_⟩
        · have : ¬ s.text.length = (if s.st = 12 then 1024 else 256) := fun x => hc (.inr x)
          simp only [List.length_append, List.length_cons, List.length_nil]; omega
        · simp only [List.length_append, List.length_cons, List.length_nil]; omega
def kn1 : List UInt8 := [27, 91, 63, 50, 53, 108, 27, 93, 48, 59, 104, 105, 7, 27, 93, 48, 59, 104, 105, 27, 92, 27, 40, 48, 195, 10]
set_option maxRecDepth 100000 in
theorem kn1_told : (PSt.new.feed kn1).told = [⟨4, 0, 108, [63], [[25]], []⟩, ⟨5, 0, 0, [], [], [48, 59, 104, 105]⟩, ⟨5, 0, 0, [], [], [48, 59, 104, 105]⟩, ⟨3, 0, 48, [40], [], []⟩, ⟨1, 65533, 0, [], [], []⟩, ⟨2, 0, 10, [], [], []⟩] := by decide +kernel
def kn2 : List UInt8 := [27, 93, 48, 59, 104, 105, 24, 27, 93] ++ Lib.repeatL [120] 1025 ++ [7, 27, 80] ++ Lib.repeatL [120] 258 ++ [27, 92, 27, 91, 33, 33, 33, 109]
def knA : PSt := PSt.new.feed [27, 93, 48, 59, 104, 105, 24, 27, 93]
def knB (T : List UInt8) : PSt := ({ knA with text := T, long := true } : PSt).feed [7, 27, 80, 120]
def knC (T U : List UInt8) : PSt := ({ knB T with text := U, long := true } : PSt).feed [27, 92, 27, 91, 33, 33, 33, 109]
theorem kn2_eq : ∃ T U, PSt.new.feed kn2 = knC T U := by
  have hx : Lib.repeatL [120] 258 = [120] ++ Lib.repeatL [120] 257 := rfl
  have h0 : PSt.new.feed kn2 = ((((knA.feed (Lib.repeatL [120] 1025)).feed [7, 27, 80, 120]).feed (Lib.repeatL [120] 257)).feed [27, 92, 27, 91, 33, 33, 33, 109]) := by
    unfold kn2 knA
    rw [hx]
    simp only [feed_app, ← List.append_assoc]
    have : ∀ s : PSt, (s.feed [7, 27, 80]).feed [120] = s.feed [7, 27, 80, 120] := fun s => rfl
    rw [this]
  obtain ⟨T, lg, h1, h2⟩ := feed_x 1025 knA (.inl (by decide +kernel)) (by decide +kernel)
  have hl : lg = true := h2 (.inr (by decide +kernel))
  subst hl
  have hb : (knB T).st = 10 ∧ (knB T).d.kept = 0 ∧ (knB T).text = [] := by
    refine ⟨by kernel_rfl, by kernel_rfl, by kernel_rfl⟩
  obtain ⟨U, lg, h3, h4⟩ := feed_x 257 (knB T) (.inr hb.1) hb.2.1
  have hl : lg = true := h4 (.inr (by rw [hb.1, hb.2.2]; simp))
  subst hl
  refine ⟨T, U, ?_⟩
  rw [h0, h1]
  show ((knB T).feed (Lib.repeatL [120] 257)).feed [27, 92, 27, 91, 33, 33, 33, 109] = _
  rw [h3]
  rfl
theorem knC_told (T U : List UInt8) : (knC T U).told = [⟨2, 0, 24, [], [], []⟩] := by kernel_rfl
theorem knC_st (T U : List UInt8) : (knC T U).st = 0 := by kernel_rfl
theorem knC_d (T U : List UInt8) : (knC T U).d.kept = 0 := by kernel_rfl
/-- one cell of an event in a list -/
theorem TRv.fld {base : Nat} {H : AHeap} {E : List EvC} {b : Nat} {pre : List AV} {l : List Cel} (hp : Hp base H l) (hm : (⟨b, 6, pre ++ flatV E⟩ : Cel) ∈ l) {i : Nat} {a : EvC} (ha : E[i]? = some a) {j : Nat} {v : AV} (hv : a.1.cs[j]? = some v) : loadV H Option.none (.ptr b (pre.length + i * 6 + j)) = some v := by
  refine hp.load hm ?_
  rw [Nat.add_assoc, List.getElem?_append_right (by omega), show pre.length + (i * 6 + j) - pre.length = i * 6 + j by omega]
  exact flat_at (f := fun a : EvC => a.1.cs) (fun _ => rfl) ha hv
section
variable {Q : Prog} (er : EvR Q) {H : AHeap}
include er
set_option maxRecDepth 100000 in
set_option maxHeartbeats 8000000 in
theorem law9 (q9 : Q.fns 9 = some A9) (ha : Q.orc 11 [] = some (.bool true))
    (hrep : ∀ (s : List UInt8) (c : Nat), s.length * c ≤ 140737488355328 → c ≤ 9223372036854775807 → Q.orc 24 [.str s, .int .i64 (c : Int)] = some (.str (Lib.repeatL s c)))
    (hf : Fr H) : FnTo Q 9 [] H (fun r H' => r = .bool true) := by
  refine fn_wp (er.eq.ho 9 rfl _) q9 (by simp [A9]) ?_
  have hk1 : [27, 91, 63, 50, 53, 108, 27, 93, 48, 59, 104, 105, 7, 27, 93, 48, 59, 104, 105, 27, 92, 27, 40, 48, 195, 10] = kn1 := rfl
  have hl1 : kn1.length = 26 := rfl
  have hn0 : PSt.new.told.length = 0 ∧ PSt.new.text.length = 0 := ⟨rfl, rfl⟩
  simp only [A9, SX, Opd.ev, resVal, resVals, ARes.val, Bool.false_eq_true, Bool.not_false, Bool.not_true, List.getD_cons_succ, List.getD_cons_zero, List.map_cons, List.map_nil, Nat.add_zero, Nat.zero_add, Option.map_none, Option.map_some, Option.some.injEq, and_true, decide_false, decide_true, true_and, reduceCtorEq, Nat.reduceEqDiff, ↓reduceIte, Int.reduceEq, Int.reduceLT, Int.reduceLE, Nat.reduceAdd]
  refine (new_spec er.eq er.q13 (Hp.nil H hf)).mono ?_
  rintro r H1 ⟨p1, rfl, par1, k1⟩
  simp only [hk1, SX, Opd.ev, resVal, resVals, ARes.val, Bool.false_eq_true, Bool.not_false, Bool.not_true, List.getD_cons_succ, List.getD_cons_zero, List.map_cons, List.map_nil, Nat.add_zero, Nat.zero_add, Option.map_none, Option.map_some, Option.some.injEq, and_true, decide_false, decide_true, true_and, reduceCtorEq, Nat.reduceEqDiff, ↓reduceIte, Int.reduceEq, Int.reduceLT, Int.reduceLE, Nat.reduceAdd]
  refine (feed_spec er.eq (t := kn1) new_good par1 (by omega) (by omega)).mono ?_
  rintro r H2 ⟨par2, k2⟩
  have hT1 := kn1_told
  generalize PSt.new.feed kn1 = S1 at par2 hT1
  simp only [SX, Opd.ev, resVal, resVals, ARes.val, Bool.false_eq_true, Bool.not_false, Bool.not_true, List.getD_cons_succ, List.getD_cons_zero, List.map_cons, List.map_nil, Nat.add_zero, Nat.zero_add, Option.map_none, Option.map_some, Option.some.injEq, and_true, decide_false, decide_true, true_and, reduceCtorEq, Nat.reduceEqDiff, ↓reduceIte, Int.reduceEq, Int.reduceLT, Int.reduceLE, Nat.reduceAdd]
  refine (take_spec er.eq er.q15 par2 (by rw [hT1]; simp)).mono ?_
  rintro v H3 ⟨k3, F, fcl, tF, hF, pF, par3⟩
  rw [hT1] at hF
  obtain ⟨cs1, pc1, hp3⟩ := par3.get
  rw [List.append_nil] at hp3
  simp only [SX, Opd.ev, resVal, resVals, ARes.val, Bool.false_eq_true, Bool.not_false, Bool.not_true, List.getD_cons_succ, List.getD_cons_zero, List.map_cons, List.map_nil, Nat.add_zero, Nat.zero_add, Option.map_none, Option.map_some, Option.some.injEq, and_true, decide_false, decide_true, true_and, reduceCtorEq, Nat.reduceEqDiff, ↓reduceIte, Int.reduceEq, Int.reduceLT, Int.reduceLE, Nat.reduceAdd]
  refine (new_spec er.eq er.q13 hp3).mono ?_
  rintro r H4 ⟨p2, rfl, par4, k4⟩
  have r1 := hrep [120] 1025 (by simp) (by omega)
  have r2 := hrep [120] 258 (by simp) (by omega)
  have L1 : (Lib.repeatL [120] 1025).length = 1025 := by rw [Lib.repeatL_length]; simp
  have L2 : (Lib.repeatL [120] 258).length = 258 := by rw [Lib.repeatL_length]; simp
  have hk2 : [27, 93, 48, 59, 104, 105, 24, 27, 93] ++ Lib.repeatL [120] 1025 ++ [7, 27, 80] ++ Lib.repeatL [120] 258 ++ [27, 92, 27, 91, 33, 33, 33, 109] = kn2 := rfl
  have hl2 : kn2.length ≤ 2000 := by
    rw [← hk2]; simp only [List.length_append, L1, L2, List.length_cons, List.length_nil]; omega
  have ad : ∀ x y : List UInt8, x.length + y.length ≤ 100000 → binV .add (.str x) (.str y) = some (.str (x ++ y)) := fun x y h => bin_adds x y (by omega)
  obtain ⟨T, U, hTU⟩ := kn2_eq
  generalize Lib.repeatL [120] 1025 = R1 at r1 L1 hk2
  generalize Lib.repeatL [120] 258 = R2 at r2 L2 hk2
  have a1 := ad [27, 93, 48, 59, 104, 105, 24, 27, 93] R1 (by simp; omega)
  have a2 := ad ([27, 93, 48, 59, 104, 105, 24, 27, 93] ++ R1) [7, 27, 80] (by simp; omega)
  have a3 := ad ([27, 93, 48, 59, 104, 105, 24, 27, 93] ++ R1 ++ [7, 27, 80]) R2 (by simp; omega)
  have a4 := ad ([27, 93, 48, 59, 104, 105, 24, 27, 93] ++ R1 ++ [7, 27, 80] ++ R2) [27, 92, 27, 91, 33, 33, 33, 109] (by simp; omega)
  rw [hk2] at a4
  simp only [SX, Opd.ev, resVal, resVals, ARes.val, Bool.false_eq_true, Bool.not_false, Bool.not_true, List.getD_cons_succ, List.getD_cons_zero, List.map_cons, List.map_nil, Nat.add_zero, Nat.zero_add, Option.map_none, Option.map_some, Option.some.injEq, and_true, decide_false, decide_true, true_and, reduceCtorEq, Nat.reduceEqDiff, ↓reduceIte, Int.reduceEq, Int.reduceLT, Int.reduceLE, Nat.reduceAdd]
  refine fn_orc r1 ?_
  simp only [a1, a2, SX, Opd.ev, resVal, resVals, ARes.val, Bool.false_eq_true, Bool.not_false, Bool.not_true, List.getD_cons_succ, List.getD_cons_zero, List.map_cons, List.map_nil, Nat.add_zero, Nat.zero_add, Option.map_none, Option.map_some, Option.some.injEq, and_true, decide_false, decide_true, true_and, reduceCtorEq, Nat.reduceEqDiff, ↓reduceIte, Int.reduceEq, Int.reduceLT, Int.reduceLE, Nat.reduceAdd]
  refine fn_orc r2 ?_
  simp only [a3, a4, SX, Opd.ev, resVal, resVals, ARes.val, Bool.false_eq_true, Bool.not_false, Bool.not_true, List.getD_cons_succ, List.getD_cons_zero, List.map_cons, List.map_nil, Nat.add_zero, Nat.zero_add, Option.map_none, Option.map_some, Option.some.injEq, and_true, decide_false, decide_true, true_and, reduceCtorEq, Nat.reduceEqDiff, ↓reduceIte, Int.reduceEq, Int.reduceLT, Int.reduceLE, Nat.reduceAdd]
  refine (feed_spec er.eq (t := kn2) new_good par4 (by omega) (by omega)).mono ?_
  rintro r H5 ⟨par5, k5⟩
  rw [hTU] at par5
  have hT2 := knC_told T U
  have hst := knC_st T U
  have hkp := knC_d T U
  generalize knC T U = S2 at par5 hT2 hst hkp
  simp only [SX, Opd.ev, resVal, resVals, ARes.val, Bool.false_eq_true, Bool.not_false, Bool.not_true, List.getD_cons_succ, List.getD_cons_zero, List.map_cons, List.map_nil, Nat.add_zero, Nat.zero_add, Option.map_none, Option.map_some, Option.some.injEq, and_true, decide_false, decide_true, true_and, reduceCtorEq, Nat.reduceEqDiff, ↓reduceIte, Int.reduceEq, Int.reduceLT, Int.reduceLE, Nat.reduceAdd]
  refine (take_spec er.eq er.q15 par5 (by rw [hT2]; simp)).mono ?_
  rintro w H6 ⟨k6, G, gcl, tG, hG, pG, par6⟩
  rw [hT2] at hG
  obtain ⟨cs2, pc2, hp6⟩ := par6.get
  obtain ⟨a0, a1', a2', a3', a4', a5', rfl⟩ : ∃ a0 a1 a2 a3 a4 a5, F = [a0, a1, a2, a3, a4, a5] := by
    have hl : F.length = 6 := by simpa using congrArg List.length hF
    clear hF tF pF hp6 hp3 par6 pc1
    match F, hl with
    | [a0, a1, a2, a3, a4, a5], _ => exact ⟨_, _, _, _, _, _, rfl⟩
  obtain ⟨g0, rfl⟩ : ∃ g0, G = [g0] := by
    have hl : G.length = 1 := by simpa using congrArg List.length hG
    clear hG tG pG hp6 hp3 par6 pc1
    match G, hl with
    | [g0], _ => exact ⟨_, rfl⟩
  simp only [List.map_cons, List.map_nil, List.cons.injEq, and_true] at hF hG
  obtain ⟨h0, h1, h2, h3, h4, h5⟩ := hF
  rcases tF with ⟨x, _, _⟩ | ⟨b, pre, rfl, rfl⟩
  · cases x
  rcases tG with ⟨x, _, _⟩ | ⟨bg, preg, rfl, rfl⟩
  · cases x
  have mb : (⟨b, 6, pre ++ flatV [a0, a1', a2', a3', a4', a5']⟩ : Cel) ∈ cs2 ++ (⟨bg, 6, preg ++ flatV [g0]⟩ :: flatC [g0] ++ (cs1 ++ (⟨b, 6, pre ++ flatV [a0, a1', a2', a3', a4', a5']⟩ :: flatC [a0, a1', a2', a3', a4', a5']))) :=
    List.mem_append_right _ (List.mem_append_right _ (List.mem_append_right _ (List.mem_cons_self ..)))
  have mg : (⟨bg, 6, preg ++ flatV [g0]⟩ : Cel) ∈ cs2 ++ (⟨bg, 6, preg ++ flatV [g0]⟩ :: flatC [g0] ++ (cs1 ++ (⟨b, 6, pre ++ flatV [a0, a1', a2', a3', a4', a5']⟩ :: flatC [a0, a1', a2', a3', a4', a5']))) :=
    List.mem_append_right _ (List.mem_append_left _ (List.mem_cons_self ..))
  have tF' : TRv (.slc b pre.length [a0, a1', a2', a3', a4', a5'].length [a0, a1', a2', a3', a4', a5'].length) [a0, a1', a2', a3', a4', a5'] (⟨b, 6, pre ++ flatV [a0, a1', a2', a3', a4', a5']⟩ :: flatC [a0, a1', a2', a3', a4', a5']) := .inr ⟨b, pre, rfl, rfl⟩
  have x0 : idxSV 6 (.slc b pre.length [a0, a1', a2', a3', a4', a5'].length [a0, a1', a2', a3', a4', a5'].length) (.int .i64 0) = some (.ptr b (pre.length)) := idxSV_es (i := 0) (by simp)
  have x1 : idxSV 6 (.slc b pre.length [a0, a1', a2', a3', a4', a5'].length [a0, a1', a2', a3', a4', a5'].length) (.int .i64 1) = some (.ptr b (pre.length + 6)) := idxSV_es (i := 1) (by simp)
  have x2 : idxSV 6 (.slc b pre.length [a0, a1', a2', a3', a4', a5'].length [a0, a1', a2', a3', a4', a5'].length) (.int .i64 2) = some (.ptr b (pre.length + 12)) := idxSV_es (i := 2) (by simp)
  have x3 : idxSV 6 (.slc b pre.length [a0, a1', a2', a3', a4', a5'].length [a0, a1', a2', a3', a4', a5'].length) (.int .i64 3) = some (.ptr b (pre.length + 18)) := idxSV_es (i := 3) (by simp)
  have x4 : idxSV 6 (.slc b pre.length [a0, a1', a2', a3', a4', a5'].length [a0, a1', a2', a3', a4', a5'].length) (.int .i64 4) = some (.ptr b (pre.length + 24)) := idxSV_es (i := 4) (by simp)
  have x5 : idxSV 6 (.slc b pre.length [a0, a1', a2', a3', a4', a5'].length [a0, a1', a2', a3', a4', a5'].length) (.int .i64 5) = some (.ptr b (pre.length + 30)) := idxSV_es (i := 5) (by simp)
  have y0 : idxSV 6 (.slc bg preg.length [g0].length [g0].length) (.int .i64 0) = some (.ptr bg preg.length) := idxSV_es (i := 0) (by simp)
  have n6 : decide (([a0, a1', a2', a3', a4', a5'].length : Int) = 6) = true := rfl
  have n1 : decide (([g0].length : Int) = 1) = true := rfl
  have m03 : loadV H6 Option.none (.ptr b (pre.length + 3)) = some (.str [63]) := by
    have q : a0.1.pure.m = _ := congrArg PEv.m h0
    have := TRv.fld hp6 mb (i := 0) (a := a0) rfl (j := 3) rfl
    rw [show a0.1.m = _ from q] at this
    exact this
  have m10 : loadV H6 Option.none (.ptr b (pre.length + 6)) = some (.int .i64 5) := by
    have q : a1'.1.pure.k = _ := congrArg PEv.k h1
    have := TRv.fld hp6 mb (i := 1) (a := a1') rfl (j := 0) rfl
    rw [show a1'.1.k = _ from q] at this
    exact this
  have m15 : loadV H6 Option.none (.ptr b (pre.length + 6 + 5)) = some (.str [48, 59, 104, 105]) := by
    have q : a1'.1.pure.t = _ := congrArg PEv.t h1
    have := TRv.fld hp6 mb (i := 1) (a := a1') rfl (j := 5) rfl
    rw [show a1'.1.t = _ from q] at this
    exact this
  have sub : ∀ x ∈ (⟨b, 6, pre ++ flatV [a0, a1', a2', a3', a4', a5']⟩ : Cel) :: flatC [a0, a1', a2', a3', a4', a5'], x ∈ cs2 ++ (⟨bg, 6, preg ++ flatV [g0]⟩ :: flatC [g0] ++ (cs1 ++ (⟨b, 6, pre ++ flatV [a0, a1', a2', a3', a4', a5']⟩ :: flatC [a0, a1', a2', a3', a4', a5']))) := fun x hx => List.mem_append_right _ (List.mem_append_right _ (List.mem_append_right _ hx))
  have f1 : loadV H6 (some 6) (.ptr b (pre.length + 6)) = some a1'.1.val := TRv.get tF' hp6 sub (i := 1) rfl
  have f2 : loadV H6 (some 6) (.ptr b (pre.length + 12)) = some a2'.1.val := TRv.get tF' hp6 sub (i := 2) rfl
  have e63 : decide (([63] : List UInt8) = [63]) = true := rfl
  have e40 : decide (([40] : List UInt8) = [40]) = true := rfl
  have e48 : decide (([48, 59, 104, 105] : List UInt8) = [48, 59, 104, 105]) = true := rfl
  simp only [SX, Opd.ev, resVal, resVals, ARes.val, Bool.false_eq_true, Bool.not_false, Bool.not_true, List.getD_cons_succ, List.getD_cons_zero, List.map_cons, List.map_nil, Nat.add_zero, Nat.zero_add, Option.map_none, Option.map_some, Option.some.injEq, and_true, decide_false, decide_true, true_and, reduceCtorEq, Nat.reduceEqDiff, ↓reduceIte, Int.reduceEq, Int.reduceLT, Int.reduceLE, Nat.reduceAdd]
  refine fn_orc ha ?_
  simp only [n6, x0, x1, x2, m03, m10, m15, f1, f2, e63, e48, lngV_slc, bin_eqls, SX, Opd.ev, resVal, resVals, ARes.val, Bool.false_eq_true, Bool.not_false, Bool.not_true, List.getD_cons_succ, List.getD_cons_zero, List.map_cons, List.map_nil, Nat.add_zero, Nat.zero_add, Option.map_none, Option.map_some, Option.some.injEq, and_true, decide_false, decide_true, true_and, reduceCtorEq, Nat.reduceEqDiff, ↓reduceIte, Int.reduceEq, Int.reduceLT, Int.reduceLE, Nat.reduceAdd]
  have ok1 : Ev.ok H6 a1'.1 := PRv.sl (pF a1' (by simp)) hp6 (fun x hx => sub x (tF'.sub (a := a1') (by simp) x hx))
  have ok2 : Ev.ok H6 a2'.1 := PRv.sl (pF a2' (by simp)) hp6 (fun x hx => sub x (tF'.sub (a := a2') (by simp) x hx))
  have hL1 : a1'.1.L = [] := congrArg PEv.L h1
  refine (same_spec er.eq.ho er.q12 er.q25 er.q26 hp6.fr ok1 ok2 (by rw [hL1]; simp) (fun x hx => by rw [hL1] at hx; simp at hx)).mono ?_
  rintro r H7 ⟨rfl, g7⟩
  rw [evEq_of (h1.trans h2.symm)]
  have hp7 := hp6.keep g7.keep g7.next g7.fr
  have m30 : loadV H7 Option.none (.ptr b (pre.length + 18)) = some (.int .i64 3) := by
    have q : a3'.1.pure.k = _ := congrArg PEv.k h3
    have := TRv.fld hp7 mb (i := 3) (a := a3') rfl (j := 0) rfl
    rw [show a3'.1.k = _ from q] at this
    exact this
  have m33 : loadV H7 Option.none (.ptr b (pre.length + 18 + 3)) = some (.str [40]) := by
    have q : a3'.1.pure.m = _ := congrArg PEv.m h3
    have := TRv.fld hp7 mb (i := 3) (a := a3') rfl (j := 3) rfl
    rw [show a3'.1.m = _ from q] at this
    exact this
  have m41 : loadV H7 Option.none (.ptr b (pre.length + 24 + 1)) = some (.int .i32 65533) := by
    have q : a4'.1.pure.r = _ := congrArg PEv.r h4
    have := TRv.fld hp7 mb (i := 4) (a := a4') rfl (j := 1) rfl
    rw [show a4'.1.r = _ from q] at this
    exact this
  have m50 : loadV H7 Option.none (.ptr b (pre.length + 30)) = some (.int .i64 2) := by
    have q : a5'.1.pure.k = _ := congrArg PEv.k h5
    have := TRv.fld hp7 mb (i := 5) (a := a5') rfl (j := 0) rfl
    rw [show a5'.1.k = _ from q] at this
    exact this
  have m52 : loadV H7 Option.none (.ptr b (pre.length + 30 + 2)) = some (.int .u8 10) := by
    have q : a5'.1.pure.f = _ := congrArg PEv.f h5
    have := TRv.fld hp7 mb (i := 5) (a := a5') rfl (j := 2) rfl
    rw [show a5'.1.f = _ from q] at this
    exact this
  have g00 : loadV H7 Option.none (.ptr bg (preg.length)) = some (.int .i64 2) := by
    have q : g0.1.pure.k = _ := congrArg PEv.k hG
    have := TRv.fld hp7 mg (i := 0) (a := g0) rfl (j := 0) rfl
    rw [show g0.1.k = _ from q] at this
    exact this
  have g02 : loadV H7 Option.none (.ptr bg (preg.length + 2)) = some (.int .u8 24) := by
    have q : g0.1.pure.f = _ := congrArg PEv.f hG
    have := TRv.fld hp7 mg (i := 0) (a := g0) rfl (j := 2) rfl
    rw [show g0.1.f = _ from q] at this
    exact this
  simp only [n1, x3, x4, x5, y0, m30, m33, m41, m50, m52, g00, g02, e40, lngV_slc, bin_eqls, SX, Opd.ev, resVal, resVals, ARes.val, Bool.false_eq_true, Bool.not_false, Bool.not_true, List.getD_cons_succ, List.getD_cons_zero, List.map_cons, List.map_nil, Nat.add_zero, Nat.zero_add, Option.map_none, Option.map_some, Option.some.injEq, and_true, decide_false, decide_true, true_and, reduceCtorEq, Nat.reduceEqDiff, ↓reduceIte, Int.reduceEq, Int.reduceLT, Int.reduceLE, Nat.reduceAdd]
  refine (waits_spec er.eq (pc2.par hp7)).mono ?_
  rintro r H8 ⟨rfl, rfl⟩
  have dw : decide (({ S2 with told := [] } : PSt).st ≠ 0 ∨ 0 < ({ S2 with told := [] } : PSt).d.kept) = false := decide_eq_false (fun hh => hh.elim (fun x => x hst) (fun x => by have : (0 : Int) < S2.d.kept := x; omega))
  simp only [dw, SX, Opd.ev, resVal, resVals, ARes.val, Bool.false_eq_true, Bool.not_false, Bool.not_true, List.getD_cons_succ, List.getD_cons_zero, List.map_cons, List.map_nil, Nat.add_zero, Nat.zero_add, Option.map_none, Option.map_some, Option.some.injEq, and_true, decide_false, decide_true, true_and, reduceCtorEq, Nat.reduceEqDiff, ↓reduceIte, Int.reduceEq, Int.reduceLT, Int.reduceLE, Nat.reduceAdd]
end
end Go.Proofs.Yteockjhckmlclaa.AM
