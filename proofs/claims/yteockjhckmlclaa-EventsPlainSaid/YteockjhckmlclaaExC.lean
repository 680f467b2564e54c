/-
  The parser of events, walked on the abstract machine (turned to the machine with types).
-/
import Derived.Test.YteockjhckmlclaaExB
set_option linter.unusedVariables false
set_option linter.unusedSimpArgs false
namespace Go.Proofs.Yteockjhckmlclaa.AM
open Go
def slAV (n es : Nat) (x : AV) (lo hi : Option AV) : Option AV := ROp.run ⟨0, .nil⟩ .nil (.slA n es (.c x) (lo.map .c) (hi.map .c))
theorem run_slA (H : AHeap) (e : Env) (n es : Nat) (x : Opd) (lo hi : Option Opd) : ROp.run H e (.slA n es x lo hi) = slAV n es (x.ev e) (lo.map (·.ev e)) (hi.map (·.ev e)) := by
  cases lo <;> cases hi <;> rfl
theorem slA2 {b k : Nat} (hk : k ≤ 2) : slAV 2 1 (.ptr b 0) Option.none (some (.int .i64 k)) = some (.slc b 0 k 2) := by
  simp only [slAV, ROp.run, Opd.ev, Option.map_some, Option.map_none, bounds, bound, if_pos (show 0 ≤ (k : Int) ∧ (k : Int) ≤ ((2 : Nat) : Int) by omega), Int.toNat_natCast]
  simp
theorem byteD_len (d : DSt) (b : Int) : (d.byte b).1 = [] ∨ (∃ x, (d.byte b).1 = [x]) ∨ ∃ x y, (d.byte b).1 = [x, y] := by
  unfold DSt.byte
  split
  · split
    · exact .inr (.inl ⟨_, rfl⟩)
    · exact .inl rfl
  · split
    · rcases first_len DSt.zero b with h | ⟨x, h⟩
      · exact .inr (.inl ⟨65533, by simp [h]⟩)
      · exact .inr (.inr ⟨65533, x, by simp [h]⟩)
    · rcases first_len d b with h | ⟨x, h⟩
      · exact .inl h
      · exact .inr (.inl ⟨x, h⟩)
theorem u8_byte (c : UInt8) : 0 ≤ (c.toNat : Int) ∧ (c.toNat : Int) ≤ 255 := by
  have := c.toNat_lt; omega
section
variable {Q : Prog} (eq : EvQ Q) {base : Nat} {H : AHeap} {p : Nat} {s : PSt} {l : List Cel}
include eq
set_option maxHeartbeats 2000000 in
theorem clr_spec {ρ : Rst} {v a b : AV} {ll : List Cel} (h : Hp base H (⟨p, 1, ρ.cs v a b⟩ :: ll)) : FnTo Q 31 [.ptr p 6] H (fun r H' => Hp base H' (⟨p, 1, ρ.cs .nils (.bool false) (.bool false)⟩ :: ll) ∧ Keep base H H') := by
  refine fn_wp (eq.ho 31 rfl _) eq.q31 (by simp [A31]) ?_
  obtain ⟨H1, s1, g1, k1, n1⟩ := h.storeO (a := [ρ.c0, ρ.c1, ρ.c2, ρ.c3, ρ.c4, ρ.c5]) (x := [v, a, b]) (c := [ρ.c9, ρ.c10, ρ.c11, ρ.c12, ρ.c13, ρ.c14]) (o := 6) rfl rfl (n := 3) rfl (new := [.nils, .bool false, .bool false]) rfl rfl
  simp only [A31, run_build0, s1, resNil, SX, Opd.ev, resVal, resVals, ARes.val, Bool.false_eq_true, Bool.not_false, Bool.not_true, List.getD_cons_succ, List.getD_cons_zero, List.map_cons, List.map_nil, Nat.add_zero, Nat.zero_add, Option.map_none, Option.map_some, Option.some.injEq, and_true, decide_false, decide_true, true_and, reduceCtorEq, Nat.reduceEqDiff, ↓reduceIte, Int.reduceEq, Int.reduceLT, Int.reduceLE, Nat.reduceAdd]
  exact ⟨g1, k1⟩
set_option maxHeartbeats 4000000 in
theorem does_spec {a : Int} {c : UInt8} (hd : s.d.Good) (hg : s.ps.Good) (hx : s.text.length ≤ 1000000) (hm : s.mids.length ≤ 1000000) (h : Par base H p s l) (hs : s.told.length ≤ 900000) : FnTo Q 32 [.ptr p 0, .int .i64 a, .int .u8 c.toNat] H (fun r H' => Par base H' p (s.doesS a c) l ∧ Keep base H H') := by
  refine fn_wp (eq.ho 32 rfl _) eq.q32 (by simp [A32]) ?_
  have par := h
  obtain ⟨C, ok, hp⟩ := h
  obtain ⟨u0, u1⟩ := u8_byte c
  by_cases a1 : a = 1
  · have a1' : decide (a = 1) = true := by simpa using a1
    simp only [A32, a1', SX, Opd.ev, resVal, resVals, ARes.val, Bool.false_eq_true, Bool.not_false, Bool.not_true, List.getD_cons_succ, List.getD_cons_zero, List.map_cons, List.map_nil, Nat.add_zero, Nat.zero_add, Option.map_none, Option.map_some, Option.some.injEq, and_true, decide_false, decide_true, true_and, reduceCtorEq, Nat.reduceEqDiff, ↓reduceIte, Int.reduceEq, Int.reduceLT, Int.reduceLE, Nat.reduceAdd]
    refine (byteD_spec eq.ho (d := s.d) eq.q56 eq.q69 eq.q74 u0 u1 hd hp).mono ?_
    rintro r H1 ⟨rfl, g1, k1⟩
    have par1 : Par base H1 p { s with d := (s.d.byte c.toNat).2 } l := ⟨C, ⟨ok.l, ok.x, ok.t, ok.e, ok.ev⟩, g1⟩
    have e : s.doesS a c = ({ s with d := (s.d.byte c.toNat).2 } : PSt).prints (s.d.byte c.toNat).1 := by unfold PSt.doesS; rw [if_pos a1]
    rw [e]
    obtain ⟨s1, hs1⟩ : ∃ s1, ({ s with d := (s.d.byte c.toNat).2 } : PSt) = s1 := ⟨_, rfl⟩
    have ht1 : s1.told = s.told := by rw [← hs1]
    rw [hs1] at par1 ⊢
    obtain ⟨H2, s2, par2, k2⟩ := par1.make [.int .i32 0, .int .i32 0] 1
    obtain ⟨xs, hxs⟩ : ∃ xs, (s.d.byte c.toNat).1 = xs := ⟨_, rfl⟩
    rw [hxs]
    have hxl : xs.length ≤ 2 ∧ ∃ post : List AV, [AV.int .i32 (xs.getD 0 0), .int .i32 (xs.getD 1 0)] = xs.map (.int .i32) ++ post := by
      rcases byteD_len s.d c.toNat with h | ⟨x, h⟩ | ⟨x, y, h⟩ <;> rw [hxs] at h <;> subst h
      · exact ⟨by simp, [.int .i32 0, .int .i32 0], rfl⟩
      · exact ⟨by simp, [.int .i32 0], rfl⟩
      · exact ⟨by simp, [], rfl⟩
    obtain ⟨hx2, post, hpost⟩ := hxl
    obtain ⟨H3, s3, par3, k3⟩ : ∃ H3, storeE H2 2 (.ptr H1.next 0) (arr2 xs) = some (.undef, H3) ∧ Par base H3 p s1 (⟨H1.next, 1, xs.map (.int .i32) ++ post⟩ :: l) ∧ Keep base H2 H3 := by
      obtain ⟨r, hpo, back⟩ := par2.open
      obtain ⟨H3, s3, g3, k3, n3⟩ := Hp.storeN (l := l ++ r) hpo (n := 2) (new := [.int .i32 (xs.getD 0 0), .int .i32 (xs.getD 1 0)]) rfl rfl rfl
      refine ⟨H3, s3, back _ _ ?_, k3⟩
      rw [hpost] at g3
      exact g3
    simp only [ex0, ex1, run_allocL, s2, s3, run_slA, slA2 hx2, Option.map_some, Option.map_none, SX, Opd.ev, resVal, resVals, ARes.val, Bool.false_eq_true, Bool.not_false, Bool.not_true, List.getD_cons_succ, List.getD_cons_zero, List.map_cons, List.map_nil, Nat.add_zero, Nat.zero_add, Option.map_none, Option.map_some, Option.some.injEq, and_true, decide_false, decide_true, true_and, reduceCtorEq, Nat.reduceEqDiff, ↓reduceIte, Int.reduceEq, Int.reduceLT, Int.reduceLE, Nat.reduceAdd]
    refine (prints_spec eq (xs := xs) (cap := 2) par3 (by rw [ht1]; omega)).mono ?_
    rintro r H4 ⟨par4, k4⟩
    simp only [resNil, SX, Opd.ev, resVal, resVals, ARes.val, Bool.false_eq_true, Bool.not_false, Bool.not_true, List.getD_cons_succ, List.getD_cons_zero, List.map_cons, List.map_nil, Nat.add_zero, Nat.zero_add, Option.map_none, Option.map_some, Option.some.injEq, and_true, decide_false, decide_true, true_and, reduceCtorEq, Nat.reduceEqDiff, ↓reduceIte, Int.reduceEq, Int.reduceLT, Int.reduceLE, Nat.reduceAdd]
    exact ⟨par4.drop, ((k1.trans k2).trans k3).trans k4⟩
  by_cases a2 : a = 2
  · have a2' : decide (a = 2) = true := by simpa using a2
    simp only [A32, a1, a2', hzE, run_build, build_exec, SX, Opd.ev, resVal, resVals, ARes.val, Bool.false_eq_true, Bool.not_false, Bool.not_true, List.getD_cons_succ, List.getD_cons_zero, List.map_cons, List.map_nil, Nat.add_zero, Nat.zero_add, Option.map_none, Option.map_some, Option.some.injEq, and_true, decide_false, decide_true, true_and, reduceCtorEq, Nat.reduceEqDiff, ↓reduceIte, Int.reduceEq, Int.reduceLT, Int.reduceLE, Nat.reduceAdd]
    refine (tells_spec eq.ho eq.q54 (ev0_ok 2 0 c.toNat [] []) (l := l) par (by omega)).mono ?_
    rintro r H1 ⟨par1, k1⟩
    simp only [resNil, SX, Opd.ev, resVal, resVals, ARes.val, Bool.false_eq_true, Bool.not_false, Bool.not_true, List.getD_cons_succ, List.getD_cons_zero, List.map_cons, List.map_nil, Nat.add_zero, Nat.zero_add, Option.map_none, Option.map_some, Option.some.injEq, and_true, decide_false, decide_true, true_and, reduceCtorEq, Nat.reduceEqDiff, ↓reduceIte, Int.reduceEq, Int.reduceLT, Int.reduceLE, Nat.reduceAdd]
    refine ⟨?_, k1⟩
    unfold PSt.doesS; rw [if_neg a1, if_pos a2]; exact par1
  by_cases a3 : a = 3
  · have a3' : decide (a = 3) = true := by simpa using a3
    have l9 := hp.load (b := p) (k := 1) (cs := pcs s C.lv C.xv C.tv) (List.mem_cons_self ..) (o := 9) rfl
    have l10 := hp.load (b := p) (k := 1) (cs := pcs s C.lv C.xv C.tv) (List.mem_cons_self ..) (o := 10) rfl
    have e : s.doesS a c = s.midS c := by unfold PSt.doesS; rw [if_neg a1, if_neg a2, if_pos a3]
    rw [e]
    have fin1 : (s.many = true ∨ s.mids.length = 2) → ∃ H1, storeE H 1 (.ptr p 10) (.bool true) = some (.undef, H1) ∧ loadV H1 Option.none (.ptr p 10) = some (.bool true) ∧ Par base H1 p (s.midS c) l ∧ Keep base H H1 := by
      intro hh
      obtain ⟨H1, s1, g1, k1, n1⟩ := hp.store (o := 10) (v := .bool true) rfl (by simp [pcs, DSt.cs])
      have g1' : Hp base H1 (⟨p, 1, pcs { s with many := true } C.lv C.xv C.tv⟩ :: C.rest l) := g1
      refine ⟨H1, s1, g1'.load (b := p) (k := 1) (List.mem_cons_self ..) (o := 10) rfl, ?_, k1⟩
      unfold PSt.midS; rw [if_pos hh]
      exact ⟨C, ⟨ok.l, ok.x, ok.t, ok.e, ok.ev⟩, g1'⟩
    cases c1 : s.many with
    | true =>
      rw [c1] at l10
      obtain ⟨H1, s1, l1, par1, k1⟩ := fin1 (.inl c1)
      simp only [A32, a1, a2, a3', l10, s1, l1, resNil, SX, Opd.ev, resVal, resVals, ARes.val, Bool.false_eq_true, Bool.not_false, Bool.not_true, List.getD_cons_succ, List.getD_cons_zero, List.map_cons, List.map_nil, Nat.add_zero, Nat.zero_add, Option.map_none, Option.map_some, Option.some.injEq, and_true, decide_false, decide_true, true_and, reduceCtorEq, Nat.reduceEqDiff, ↓reduceIte, Int.reduceEq, Int.reduceLT, Int.reduceLE, Nat.reduceAdd]
      exact ⟨par1, k1⟩
    | false =>
      rw [c1] at l10
      by_cases c2 : s.mids.length = 2
      · have c2' : decide ((s.mids.length : Int) = 2) = true := by simp; omega
        obtain ⟨H1, s1, l1, par1, k1⟩ := fin1 (.inr c2)
        simp only [A32, a1, a2, a3', l10, l9, c2', s1, l1, resNil, SX, Opd.ev, resVal, resVals, ARes.val, Bool.false_eq_true, Bool.not_false, Bool.not_true, List.getD_cons_succ, List.getD_cons_zero, List.map_cons, List.map_nil, Nat.add_zero, Nat.zero_add, Option.map_none, Option.map_some, Option.some.injEq, and_true, decide_false, decide_true, true_and, reduceCtorEq, Nat.reduceEqDiff, ↓reduceIte, Int.reduceEq, Int.reduceLT, Int.reduceLE, Nat.reduceAdd]
        exact ⟨par1, k1⟩
      · have c2' : decide ((s.mids.length : Int) = 2) = false := by simp; omega
        obtain ⟨H1, s1, g1, k1, n1⟩ := hp.store (o := 10) (v := .bool false) rfl (by simp [pcs, DSt.cs])
        have g1' : Hp base H1 (⟨p, 1, pcs { s with many := false } C.lv C.xv C.tv⟩ :: C.rest l) := g1
        have l1 := g1'.load (b := p) (k := 1) (cs := pcs { s with many := false } C.lv C.xv C.tv) (List.mem_cons_self ..) (o := 10) rfl
        have l2 := g1'.load (b := p) (k := 1) (cs := pcs { s with many := false } C.lv C.xv C.tv) (List.mem_cons_self ..) (o := 9) rfl
        obtain ⟨H2, s2, g2, k2⟩ := g1'.make [.int .u8 c.toNat] 1
        have st : strOfBytesV H2 (.slc H1.next 0 1 1) = some (.str [c]) :=
          XRv.str (t := [c]) (cl := [⟨H1.next, 1, bytesV [c]⟩]) (.inr ⟨H1.next, by simp, rfl, rfl⟩) g2 (fun x hx => by simp only [List.mem_singleton] at hx; subst hx; exact List.mem_cons_self ..)
        have hadd : binV .add (.str s.mids) (.str [c]) = some (.str (s.mids ++ [c])) := bin_adds _ _ (by simp; omega)
        obtain ⟨H3, s3, g3, k3, n3⟩ := (Hp.swap g2).store (o := 9) (v := .str (s.mids ++ [c])) rfl (by simp [pcs, DSt.cs])
        have g3' : Hp base H3 (⟨p, 1, pcs { s with many := false, mids := s.mids ++ [c] } C.lv C.xv C.tv⟩ :: ⟨H1.next, 1, [.int .u8 c.toNat]⟩ :: C.rest l) := g3
        simp only [A32, a1, a2, a3', l10, l9, c2', s1, l1, l2, s2, st, hadd, s3, resNil, SX, Opd.ev, resVal, resVals, ARes.val, Bool.false_eq_true, Bool.not_false, Bool.not_true, List.getD_cons_succ, List.getD_cons_zero, List.map_cons, List.map_nil, Nat.add_zero, Nat.zero_add, Option.map_none, Option.map_some, Option.some.injEq, and_true, decide_false, decide_true, true_and, reduceCtorEq, Nat.reduceEqDiff, ↓reduceIte, Int.reduceEq, Int.reduceLT, Int.reduceLE, Nat.reduceAdd]
        refine ⟨?_, (k1.trans k2).trans k3⟩
        unfold PSt.midS; rw [if_neg (by simp [c1, c2])]
        exact ⟨C, ⟨ok.l, ok.x, ok.t, ok.e, ok.ev⟩, g3'.swap.drop⟩
  by_cases a4 : a = 4
  · have a4' : decide (a = 4) = true := by simpa using a4
    simp only [A32, a1, a2, a3, a4', SX, Opd.ev, resVal, resVals, ARes.val, Bool.false_eq_true, Bool.not_false, Bool.not_true, List.getD_cons_succ, List.getD_cons_zero, List.map_cons, List.map_nil, Nat.add_zero, Nat.zero_add, Option.map_none, Option.map_some, Option.some.injEq, and_true, decide_false, decide_true, true_and, reduceCtorEq, Nat.reduceEqDiff, ↓reduceIte, Int.reduceEq, Int.reduceLT, Int.reduceLE, Nat.reduceAdd]
    refine (byte_spec eq.q57 (eq.ho 57 rfl) eq.q70 (eq.ho 70 rfl) hg (pls_of ok hp)).mono ?_
    rintro r H1 ⟨k1, hpl⟩
    obtain ⟨lv, lcl, prv, g1⟩ := of_pls hpl
    simp only [resNil, SX, Opd.ev, resVal, resVals, ARes.val, Bool.false_eq_true, Bool.not_false, Bool.not_true, List.getD_cons_succ, List.getD_cons_zero, List.map_cons, List.map_nil, Nat.add_zero, Nat.zero_add, Option.map_none, Option.map_some, Option.some.injEq, and_true, decide_false, decide_true, true_and, reduceCtorEq, Nat.reduceEqDiff, ↓reduceIte, Int.reduceEq, Int.reduceLT, Int.reduceLE, Nat.reduceAdd]
    refine ⟨?_, k1⟩
    unfold PSt.doesS; rw [if_neg a1, if_neg a2, if_neg a3, if_pos a4]
    exact ⟨{ C with lv := lv, lcl := lcl }, ⟨prv, ok.x, ok.t, ok.e, ok.ev⟩, g1⟩
  by_cases a5 : a = 5
  · have a5' : decide (a = 5) = true := by simpa using a5
    simp only [A32, a1, a2, a3, a4, a5', SX, Opd.ev, resVal, resVals, ARes.val, Bool.false_eq_true, Bool.not_false, Bool.not_true, List.getD_cons_succ, List.getD_cons_zero, List.map_cons, List.map_nil, Nat.add_zero, Nat.zero_add, Option.map_none, Option.map_some, Option.some.injEq, and_true, decide_false, decide_true, true_and, reduceCtorEq, Nat.reduceEqDiff, ↓reduceIte, Int.reduceEq, Int.reduceLT, Int.reduceLE, Nat.reduceAdd]
    refine (over_spec eq hg par (by omega)).mono ?_
    rintro r H1 ⟨par1, k1⟩
    simp only [resNil, SX, Opd.ev, resVal, resVals, ARes.val, Bool.false_eq_true, Bool.not_false, Bool.not_true, List.getD_cons_succ, List.getD_cons_zero, List.map_cons, List.map_nil, Nat.add_zero, Nat.zero_add, Option.map_none, Option.map_some, Option.some.injEq, and_true, decide_false, decide_true, true_and, reduceCtorEq, Nat.reduceEqDiff, ↓reduceIte, Int.reduceEq, Int.reduceLT, Int.reduceLE, Nat.reduceAdd]
    refine ⟨?_, k1⟩
    unfold PSt.doesS; rw [if_neg a1, if_neg a2, if_neg a3, if_neg a4, if_pos a5]
    rw [a5] at par1; exact par1
  by_cases a6 : a = 6
  · have a6' : decide (a = 6) = true := by simpa using a6
    simp only [A32, a1, a2, a3, a4, a5, a6', SX, Opd.ev, resVal, resVals, ARes.val, Bool.false_eq_true, Bool.not_false, Bool.not_true, List.getD_cons_succ, List.getD_cons_zero, List.map_cons, List.map_nil, Nat.add_zero, Nat.zero_add, Option.map_none, Option.map_some, Option.some.injEq, and_true, decide_false, decide_true, true_and, reduceCtorEq, Nat.reduceEqDiff, ↓reduceIte, Int.reduceEq, Int.reduceLT, Int.reduceLE, Nat.reduceAdd]
    refine (over_spec eq hg par (by omega)).mono ?_
    rintro r H1 ⟨par1, k1⟩
    simp only [resNil, SX, Opd.ev, resVal, resVals, ARes.val, Bool.false_eq_true, Bool.not_false, Bool.not_true, List.getD_cons_succ, List.getD_cons_zero, List.map_cons, List.map_nil, Nat.add_zero, Nat.zero_add, Option.map_none, Option.map_some, Option.some.injEq, and_true, decide_false, decide_true, true_and, reduceCtorEq, Nat.reduceEqDiff, ↓reduceIte, Int.reduceEq, Int.reduceLT, Int.reduceLE, Nat.reduceAdd]
    refine ⟨?_, k1⟩
    unfold PSt.doesS; rw [if_neg a1, if_neg a2, if_neg a3, if_neg a4, if_neg a5, if_pos a6]
    rw [a6] at par1; exact par1
  by_cases a7 : a = 7
  · have a7' : decide (a = 7) = true := by simpa using a7
    obtain ⟨H1, s1, g1, k1, n1⟩ := hp.store (o := 11) (v := .int .u8 c.toNat) rfl (by simp [pcs, DSt.cs])
    simp only [A32, a1, a2, a3, a4, a5, a6, a7', s1, resNil, SX, Opd.ev, resVal, resVals, ARes.val, Bool.false_eq_true, Bool.not_false, Bool.not_true, List.getD_cons_succ, List.getD_cons_zero, List.map_cons, List.map_nil, Nat.add_zero, Nat.zero_add, Option.map_none, Option.map_some, Option.some.injEq, and_true, decide_false, decide_true, true_and, reduceCtorEq, Nat.reduceEqDiff, ↓reduceIte, Int.reduceEq, Int.reduceLT, Int.reduceLE, Nat.reduceAdd]
    refine ⟨?_, k1⟩
    unfold PSt.doesS; rw [if_neg a1, if_neg a2, if_neg a3, if_neg a4, if_neg a5, if_neg a6, if_pos a7]
    exact ⟨C, ⟨ok.l, ok.x, ok.t, ok.e, ok.ev⟩, g1⟩
  by_cases a8 : a = 8
  · have a8' : decide (a = 8) = true := by simpa using a8
    simp only [A32, a1, a2, a3, a4, a5, a6, a7, a8', SX, Opd.ev, resVal, resVals, ARes.val, Bool.false_eq_true, Bool.not_false, Bool.not_true, List.getD_cons_succ, List.getD_cons_zero, List.map_cons, List.map_nil, Nat.add_zero, Nat.zero_add, Option.map_none, Option.map_some, Option.some.injEq, and_true, decide_false, decide_true, true_and, reduceCtorEq, Nat.reduceEqDiff, ↓reduceIte, Int.reduceEq, Int.reduceLT, Int.reduceLE, Nat.reduceAdd]
    refine (put_spec eq par hx).mono ?_
    rintro r H1 ⟨par1, k1⟩
    simp only [resNil, SX, Opd.ev, resVal, resVals, ARes.val, Bool.false_eq_true, Bool.not_false, Bool.not_true, List.getD_cons_succ, List.getD_cons_zero, List.map_cons, List.map_nil, Nat.add_zero, Nat.zero_add, Option.map_none, Option.map_some, Option.some.injEq, and_true, decide_false, decide_true, true_and, reduceCtorEq, Nat.reduceEqDiff, ↓reduceIte, Int.reduceEq, Int.reduceLT, Int.reduceLE, Nat.reduceAdd]
    refine ⟨?_, k1⟩
    unfold PSt.doesS; rw [if_neg a1, if_neg a2, if_neg a3, if_neg a4, if_neg a5, if_neg a6, if_neg a7, if_pos a8]
    exact par1
  · simp only [A32, a1, a2, a3, a4, a5, a6, a7, a8, resNil, SX, Opd.ev, resVal, resVals, ARes.val, Bool.false_eq_true, Bool.not_false, Bool.not_true, List.getD_cons_succ, List.getD_cons_zero, List.map_cons, List.map_nil, Nat.add_zero, Nat.zero_add, Option.map_none, Option.map_some, Option.some.injEq, and_true, decide_false, decide_true, true_and, reduceCtorEq, Nat.reduceEqDiff, ↓reduceIte, Int.reduceEq, Int.reduceLT, Int.reduceLE, Nat.reduceAdd]
    refine ⟨?_, Keep.refl _ _⟩
    unfold PSt.doesS; rw [if_neg a1, if_neg a2, if_neg a3, if_neg a4, if_neg a5, if_neg a6, if_neg a7, if_neg a8]
    exact par
omit eq in
theorem ends_eq {st n : Int} : (if n ≠ st ∧ (st = 10 ∨ st = 12) then true else false) = decide (n ≠ st ∧ (st = 10 ∨ st = 12)) := by
  by_cases h : n ≠ st ∧ (st = 10 ∨ st = 12) <;> simp [h]
omit eq in
theorem wantV_undef (b : Bool) : wantV .undef b = false := rfl
set_option maxHeartbeats 2000000 in
theorem isEnd_spec {st n : Int} : FnTo Q 28 [.int .i64 st, .int .i64 n] H (fun r H' => r = .bool (decide (n ≠ st ∧ (st = 10 ∨ st = 12))) ∧ H' = H) := by
  refine fn_wp (eq.ho 28 rfl _) eq.q28 (by simp [A28]) ?_
  by_cases c1 : n = st
  · have c1' : (!decide (n = st)) = false := by simp [c1]
    simp only [A28, wantV_undef, c1', SX, Opd.ev, resVal, resVals, ARes.val, Bool.false_eq_true, Bool.not_false, Bool.not_true, List.getD_cons_succ, List.getD_cons_zero, List.map_cons, List.map_nil, Nat.add_zero, Nat.zero_add, Option.map_none, Option.map_some, Option.some.injEq, and_true, decide_false, decide_true, true_and, reduceCtorEq, Nat.reduceEqDiff, ↓reduceIte, Int.reduceEq, Int.reduceLT, Int.reduceLE, Nat.reduceAdd]
    simp [c1]
  · have c1' : (!decide (n = st)) = true := by simp [c1]
    by_cases c2 : st = 10
    · have c2' : decide (st = 10) = true := by simpa using c2
      simp only [A28, wantV_undef, c1', c2', SX, Opd.ev, resVal, resVals, ARes.val, Bool.false_eq_true, Bool.not_false, Bool.not_true, List.getD_cons_succ, List.getD_cons_zero, List.map_cons, List.map_nil, Nat.add_zero, Nat.zero_add, Option.map_none, Option.map_some, Option.some.injEq, and_true, decide_false, decide_true, true_and, reduceCtorEq, Nat.reduceEqDiff, ↓reduceIte, Int.reduceEq, Int.reduceLT, Int.reduceLE, Nat.reduceAdd]
      simp [c1, c2]
      omega
    · have c2' : decide (st = 10) = false := by simpa using c2
      simp only [A28, wantV_undef, c1', c2', SX, Opd.ev, resVal, resVals, ARes.val, Bool.false_eq_true, Bool.not_false, Bool.not_true, List.getD_cons_succ, List.getD_cons_zero, List.map_cons, List.map_nil, Nat.add_zero, Nat.zero_add, Option.map_none, Option.map_some, Option.some.injEq, and_true, decide_false, decide_true, true_and, reduceCtorEq, Nat.reduceEqDiff, ↓reduceIte, Int.reduceEq, Int.reduceLT, Int.reduceLE, Nat.reduceAdd]
      simp [c1, c2]
set_option maxHeartbeats 2000000 in
theorem isClr_spec {st n : Int} : FnTo Q 30 [.int .i64 st, .int .i64 n] H (fun r H' => r = .bool (decide (n ≠ st ∧ (n = 1 ∨ n = 3 ∨ n = 7 ∨ n = 12))) ∧ H' = H) := by
  refine fn_wp (eq.ho 30 rfl _) eq.q30 (by simp [A30]) ?_
  by_cases c1 : n = st
  · have c1' : (!decide (n = st)) = false := by simp [c1]
    simp only [A30, wantV_undef, c1', SX, Opd.ev, resVal, resVals, ARes.val, Bool.false_eq_true, Bool.not_false, Bool.not_true, List.getD_cons_succ, List.getD_cons_zero, List.map_cons, List.map_nil, Nat.add_zero, Nat.zero_add, Option.map_none, Option.map_some, Option.some.injEq, and_true, decide_false, decide_true, true_and, reduceCtorEq, Nat.reduceEqDiff, ↓reduceIte, Int.reduceEq, Int.reduceLT, Int.reduceLE, Nat.reduceAdd]
    simp [c1]
  · have c1' : (!decide (n = st)) = true := by simp [c1]
    by_cases c2 : n = 1
    · have c2' : decide (n = 1) = true := by simpa using c2
      simp only [A30, wantV_undef, c1', c2', SX, Opd.ev, resVal, resVals, ARes.val, Bool.false_eq_true, Bool.not_false, Bool.not_true, List.getD_cons_succ, List.getD_cons_zero, List.map_cons, List.map_nil, Nat.add_zero, Nat.zero_add, Option.map_none, Option.map_some, Option.some.injEq, and_true, decide_false, decide_true, true_and, reduceCtorEq, Nat.reduceEqDiff, ↓reduceIte, Int.reduceEq, Int.reduceLT, Int.reduceLE, Nat.reduceAdd]
      simp [c1, c2]
      omega
    · have c2' : decide (n = 1) = false := by simpa using c2
      by_cases c3 : n = 3
      · have c3' : decide (n = 3) = true := by simpa using c3
        simp only [A30, wantV_undef, c1', c2', c3', SX, Opd.ev, resVal, resVals, ARes.val, Bool.false_eq_true, Bool.not_false, Bool.not_true, List.getD_cons_succ, List.getD_cons_zero, List.map_cons, List.map_nil, Nat.add_zero, Nat.zero_add, Option.map_none, Option.map_some, Option.some.injEq, and_true, decide_false, decide_true, true_and, reduceCtorEq, Nat.reduceEqDiff, ↓reduceIte, Int.reduceEq, Int.reduceLT, Int.reduceLE, Nat.reduceAdd]
        simp [c1, c2, c3]
        omega
      · have c3' : decide (n = 3) = false := by simpa using c3
        by_cases c4 : n = 7
        · have c4' : decide (n = 7) = true := by simpa using c4
          simp only [A30, wantV_undef, c1', c2', c3', c4', SX, Opd.ev, resVal, resVals, ARes.val, Bool.false_eq_true, Bool.not_false, Bool.not_true, List.getD_cons_succ, List.getD_cons_zero, List.map_cons, List.map_nil, Nat.add_zero, Nat.zero_add, Option.map_none, Option.map_some, Option.some.injEq, and_true, decide_false, decide_true, true_and, reduceCtorEq, Nat.reduceEqDiff, ↓reduceIte, Int.reduceEq, Int.reduceLT, Int.reduceLE, Nat.reduceAdd]
          simp [c1, c2, c3, c4]
          omega
        · have c4' : decide (n = 7) = false := by simpa using c4
          simp only [A30, wantV_undef, c1', c2', c3', c4', SX, Opd.ev, resVal, resVals, ARes.val, Bool.false_eq_true, Bool.not_false, Bool.not_true, List.getD_cons_succ, List.getD_cons_zero, List.map_cons, List.map_nil, Nat.add_zero, Nat.zero_add, Option.map_none, Option.map_some, Option.some.injEq, and_true, decide_false, decide_true, true_and, reduceCtorEq, Nat.reduceEqDiff, ↓reduceIte, Int.reduceEq, Int.reduceLT, Int.reduceLE, Nat.reduceAdd]
          simp [c1, c2, c3, c4]
end
/-! ### Steps -/
def PSt.step1 (s : PSt) (c : UInt8) : PSt := if (nx s.st c.toNat).1 ≠ 1 then s.endS else s
def PSt.step2 (s : PSt) (n : Int) (c : UInt8) : PSt := if n ≠ s.st ∧ (s.st = 10 ∨ s.st = 12) then s.stopS c else s
def PSt.step3 (s : PSt) (n : Int) : PSt := if n ≠ s.st ∧ (n = 1 ∨ n = 3 ∨ n = 7 ∨ n = 12) then s.clrS else s
def PSt.step (s : PSt) (c : UInt8) : PSt :=
  { (((s.step1 c).step2 (nx s.st c.toNat).2 c).step3 (nx s.st c.toNat).2).doesS (nx s.st c.toNat).1 c with st := (nx s.st c.toNat).2 }
def PSt.feed (s : PSt) (t : List UInt8) : PSt := t.foldl PSt.step s
structure PSt.Good (s : PSt) : Prop where
  d : s.d.Good
  ps : s.ps.Good
  st : 0 ≤ s.st ∧ s.st ≤ 13
  mids : s.mids.length ≤ 2
theorem nSeq_in {c on inn param off en : Int} (h1 : 0 ≤ on ∧ on ≤ 13) (h2 : 0 ≤ inn ∧ inn ≤ 13) (h3 : 0 ≤ param ∧ param ≤ 13) (h4 : 0 ≤ off ∧ off ≤ 13) : 0 ≤ (nSeq c on inn param off en).2 ∧ (nSeq c on inn param off en).2 ≤ 13 := by
  unfold nSeq
  (repeat' split) <;> simp only <;> omega
theorem nEscape_in {c : Int} : 0 ≤ (nEscape c).2 ∧ (nEscape c).2 ≤ 13 := by
  unfold nEscape
  (repeat' split) <;> simp only <;> omega
theorem nText_in {st c : Int} (h : 0 ≤ st ∧ st ≤ 13) : 0 ≤ (nText st c).2 ∧ (nText st c).2 ≤ 13 := by
  unfold nText
  (repeat' split) <;> simp only <;> omega
theorem nInter_in {c : Int} : 0 ≤ (nInter c).2 ∧ (nInter c).2 ≤ 13 := by
  unfold nInter
  (repeat' split) <;> simp only <;> omega
theorem nLet_in {c : Int} : 0 ≤ (nLet c).2 ∧ (nLet c).2 ≤ 13 := by
  unfold nLet
  (repeat' split) <;> simp only <;> omega
theorem nGround_in {c : Int} : 0 ≤ (nGround c).2 ∧ (nGround c).2 ≤ 13 := by
  unfold nGround
  (repeat' split) <;> simp only <;> omega
theorem nx_in {st c : Int} (h : 0 ≤ st ∧ st ≤ 13) : 0 ≤ (nx st c).2 ∧ (nx st c).2 ≤ 13 := by
  have q1 := nEscape_in (c := c)
  have q2 := nInter_in (c := c)
  have q3 := nSeq_in (c := c) (en := 6) h (show (0 : Int) ≤ 5 ∧ (5 : Int) ≤ 13 by omega) (show (0 : Int) ≤ 4 ∧ (4 : Int) ≤ 13 by omega) (show (0 : Int) ≤ 6 ∧ (6 : Int) ≤ 13 by omega)
  have q4 := nLet_in (c := c)
  have q5 := nSeq_in (c := c) (en := 7) h (show (0 : Int) ≤ 9 ∧ (9 : Int) ≤ 13 by omega) (show (0 : Int) ≤ 8 ∧ (8 : Int) ≤ 13 by omega) (show (0 : Int) ≤ 11 ∧ (11 : Int) ≤ 13 by omega)
  have q6 := nText_in (c := c) h
  have q7 := nGround_in (c := c)
  unfold nx
  generalize nEscape c = x1 at *
  generalize nInter c = x2 at *
  generalize nSeq c st 5 4 6 6 = x3 at *
  generalize nLet c = x4 at *
  generalize nSeq c st 9 8 11 7 = x5 at *
  generalize nText st c = x6 at *
  generalize nGround c = x7 at *
  (repeat' split) <;> first | assumption | (simp only; omega)
/-- how much may come of a step -/
structure Few (s s' : PSt) (k : Nat) : Prop where
  told : s'.told.length ≤ s.told.length + k
  text : s'.text.length ≤ s.text.length + 1
theorem Good.endS {s : PSt} (h : s.Good) : s.endS.Good ∧ s.endS.told.length ≤ s.told.length + 1 ∧ s.endS.st = s.st ∧ s.endS.text = s.text := by
  unfold PSt.endS
  split
  · exact ⟨h, by omega, rfl, rfl⟩
  · exact ⟨⟨zero_good, h.ps, h.st, h.mids⟩, by simp, rfl, rfl⟩
theorem Good.tell {s : PSt} (h : s.Good) (e : PEv) : (s.tell e).Good ∧ (s.tell e).told.length ≤ s.told.length + 1 ∧ (s.tell e).st = s.st ∧ (s.tell e).text = s.text :=
  ⟨⟨h.d, h.ps, h.st, h.mids⟩, by simp [PSt.tell], rfl, rfl⟩
theorem Good.stopS {s : PSt} (h : s.Good) (c : UInt8) : (s.stopS c).Good ∧ (s.stopS c).told.length ≤ s.told.length + 1 ∧ (s.stopS c).st = s.st ∧ (s.stopS c).text = s.text := by
  unfold PSt.stopS
  split
  · exact ⟨h, by omega, rfl, rfl⟩
  · split
    · exact Good.tell h _
    · split
      · exact ⟨h, by omega, rfl, rfl⟩
      · exact Good.tell h _
theorem Good.clrS {s : PSt} (h : s.Good) : s.clrS.Good ∧ s.clrS.told.length ≤ s.told.length ∧ s.clrS.st = s.st ∧ s.clrS.text.length ≤ s.text.length :=
  ⟨⟨h.d, none_good, h.st, by simp [PSt.clrS]⟩, Nat.le_refl _, rfl, by simp [PSt.clrS]⟩
theorem Good.overS {s : PSt} (h : s.Good) (a : Int) (c : UInt8) : (s.overS a c).Good ∧ (s.overS a c).told.length ≤ s.told.length + 1 ∧ (s.overS a c).text = s.text := by
  unfold PSt.overS
  split
  · exact ⟨h, by omega, rfl⟩
  · split
    · exact ⟨(Good.tell h _).1, (Good.tell h _).2.1, rfl⟩
    · exact ⟨(Good.tell h _).1, (Good.tell h _).2.1, rfl⟩
theorem Good.doesS {s : PSt} (h : s.Good) (a : Int) (c : UInt8) : (s.doesS a c).Good ∧ (s.doesS a c).told.length ≤ s.told.length + 2 ∧ (s.doesS a c).text.length ≤ s.text.length + 1 := by
  obtain ⟨u0, u1⟩ := u8_byte c
  unfold PSt.doesS
  split
  · refine ⟨⟨byteD_good h.d u0 u1, h.ps, h.st, h.mids⟩, ?_, by simp [PSt.prints]⟩
    have : (s.d.byte c.toNat).1.length ≤ 2 := by rcases byteD_len s.d c.toNat with h | ⟨x, h⟩ | ⟨x, y, h⟩ <;> simp [h]
    simp only [PSt.prints, List.length_append, List.length_map]
    omega
  · split
    · exact ⟨(Good.tell h _).1, by have := (Good.tell h ⟨2, 0, c.toNat, [], [], []⟩).2.1; omega, by simp [PSt.tell]⟩
    · split
      · unfold PSt.midS
        split
        · exact ⟨⟨h.d, h.ps, h.st, h.mids⟩, by simp, by simp⟩
        · rename_i hh
          refine ⟨⟨h.d, h.ps, h.st, ?_⟩, by simp, by simp⟩
          have := h.mids
          have : s.mids.length ≠ 2 := fun h => hh (.inr h)
          simp; omega
      · split
        · exact ⟨⟨h.d, byte_good h.ps, h.st, h.mids⟩, by simp, by simp⟩
        · split
          · exact ⟨(Good.overS h _ _).1, by have := (Good.overS h 5 c).2.1; omega, by rw [(Good.overS h 5 c).2.2]; omega⟩
          · split
            · exact ⟨(Good.overS h _ _).1, by have := (Good.overS h 6 c).2.1; omega, by rw [(Good.overS h 6 c).2.2]; omega⟩
            · split
              · exact ⟨⟨h.d, h.ps, h.st, h.mids⟩, by simp, by simp⟩
              · split
                · have : s.putS c = { s with long := true } ∨ s.putS c = { s with text := s.text ++ [c] } := by
                    unfold PSt.putS
                    by_cases hh : s.long = true ∨ s.text.length = (if s.st = 12 then 1024 else 256)
                    · exact .inl (if_pos hh)
                    · exact .inr (if_neg hh)
                  rcases this with e | e <;> rw [e]
                  · exact ⟨⟨h.d, h.ps, h.st, h.mids⟩, by simp, by simp⟩
                  · exact ⟨⟨h.d, h.ps, h.st, h.mids⟩, by simp, by simp⟩
                · exact ⟨h, by omega, by omega⟩
theorem Good.step1 {s : PSt} (h : s.Good) (c : UInt8) : (s.step1 c).Good ∧ (s.step1 c).told.length ≤ s.told.length + 1 ∧ (s.step1 c).st = s.st ∧ (s.step1 c).text = s.text := by
  unfold PSt.step1
  split
  · exact Good.endS h
  · exact ⟨h, by omega, rfl, rfl⟩
theorem Good.step2 {s : PSt} (h : s.Good) (n : Int) (c : UInt8) : (s.step2 n c).Good ∧ (s.step2 n c).told.length ≤ s.told.length + 1 ∧ (s.step2 n c).st = s.st ∧ (s.step2 n c).text = s.text := by
  unfold PSt.step2
  split
  · exact Good.stopS h c
  · exact ⟨h, by omega, rfl, rfl⟩
theorem Good.step3 {s : PSt} (h : s.Good) (n : Int) : (s.step3 n).Good ∧ (s.step3 n).told.length ≤ s.told.length ∧ (s.step3 n).st = s.st ∧ (s.step3 n).text.length ≤ s.text.length := by
  unfold PSt.step3
  split
  · exact Good.clrS h
  · exact ⟨h, by omega, rfl, by omega⟩
theorem Good.step {s : PSt} (h : s.Good) (c : UInt8) : (s.step c).Good ∧ (s.step c).told.length ≤ s.told.length + 4 ∧ (s.step c).text.length ≤ s.text.length + 1 := by
  obtain ⟨g1, a1, b1, d1⟩ := Good.step1 h c
  obtain ⟨g2, a2, b2, d2⟩ := Good.step2 g1 (nx s.st c.toNat).2 c
  obtain ⟨g3, a3, b3, d3⟩ := Good.step3 g2 (nx s.st c.toNat).2
  obtain ⟨g4, a4, d4⟩ := Good.doesS g3 (nx s.st c.toNat).1 c
  refine ⟨⟨g4.d, g4.ps, nx_in h.st, g4.mids⟩, ?_, ?_⟩
  · simp only [PSt.step]; omega
  · simp only [PSt.step]; rw [d2, d1] at d3; omega
structure FE (e : Env) (p : Nat) (t : List UInt8) (i : Nat) (a n : Int) : Prop where
  e0 : Env.get e 0 = .ptr p 0
  e1 : Env.get e 1 = .str t
  e4 : Env.get e 4 = .int .i64 i
  e5 : Env.get e 5 = .int .i64 a
  e6 : Env.get e 6 = .int .i64 n
  e10 : Env.get e 10 = .int .i64 t.length
  e11 : Env.get e 11 = .int .i64 i
section
variable {Q : Prog} (eq : EvQ Q) {base : Nat} {H : AHeap} {p : Nat} {s : PSt} {l : List Cel} {t : List UInt8} {i : Nat} {a n : Int} {e : Env} {K : PostC}
include eq
set_option maxHeartbeats 2000000 in
theorem c1_wp (h : Par base H p s l) (hs : s.told.length ≤ 900000) (f : FE e p t i a n) (hk : ∀ e' H', FE e' p t i a n → Par base H' p (if a ≠ 1 then s.endS else s) l → Keep base H H' → K .normal e' H') : ACode.wp Q A14_c1 K e H := by
  obtain ⟨e0, e1, e4, e5, e6, e10, e11⟩ := f
  by_cases c : a = 1
  · have c' : (!decide (a = 1)) = false := by simp [c]
    simp only [A14_c1, e5, c', SX, Opd.ev, resVal, resVals, ARes.val, Bool.false_eq_true, Bool.not_false, Bool.not_true, List.getD_cons_succ, List.getD_cons_zero, List.map_cons, List.map_nil, Nat.add_zero, Nat.zero_add, Option.map_none, Option.map_some, Option.some.injEq, and_true, decide_false, decide_true, true_and, reduceCtorEq, Nat.reduceEqDiff, ↓reduceIte, Int.reduceEq, Int.reduceLT, Int.reduceLE, Nat.reduceAdd]
    refine hk _ H ⟨?_, ?_, ?_, ?_, ?_, ?_, ?_⟩ ?_ (Keep.refl _ _)
    · simp only [e0, SX, Opd.ev, resVal, resVals, ARes.val, Bool.false_eq_true, Bool.not_false, Bool.not_true, List.getD_cons_succ, List.getD_cons_zero, List.map_cons, List.map_nil, Nat.add_zero, Nat.zero_add, Option.map_none, Option.map_some, Option.some.injEq, and_true, decide_false, decide_true, true_and, reduceCtorEq, Nat.reduceEqDiff, ↓reduceIte, Int.reduceEq, Int.reduceLT, Int.reduceLE, Nat.reduceAdd]
    · simp only [e1, SX, Opd.ev, resVal, resVals, ARes.val, Bool.false_eq_true, Bool.not_false, Bool.not_true, List.getD_cons_succ, List.getD_cons_zero, List.map_cons, List.map_nil, Nat.add_zero, Nat.zero_add, Option.map_none, Option.map_some, Option.some.injEq, and_true, decide_false, decide_true, true_and, reduceCtorEq, Nat.reduceEqDiff, ↓reduceIte, Int.reduceEq, Int.reduceLT, Int.reduceLE, Nat.reduceAdd]
    · simp only [e4, SX, Opd.ev, resVal, resVals, ARes.val, Bool.false_eq_true, Bool.not_false, Bool.not_true, List.getD_cons_succ, List.getD_cons_zero, List.map_cons, List.map_nil, Nat.add_zero, Nat.zero_add, Option.map_none, Option.map_some, Option.some.injEq, and_true, decide_false, decide_true, true_and, reduceCtorEq, Nat.reduceEqDiff, ↓reduceIte, Int.reduceEq, Int.reduceLT, Int.reduceLE, Nat.reduceAdd]
    · simp only [e5, SX, Opd.ev, resVal, resVals, ARes.val, Bool.false_eq_true, Bool.not_false, Bool.not_true, List.getD_cons_succ, List.getD_cons_zero, List.map_cons, List.map_nil, Nat.add_zero, Nat.zero_add, Option.map_none, Option.map_some, Option.some.injEq, and_true, decide_false, decide_true, true_and, reduceCtorEq, Nat.reduceEqDiff, ↓reduceIte, Int.reduceEq, Int.reduceLT, Int.reduceLE, Nat.reduceAdd]
    · simp only [e6, SX, Opd.ev, resVal, resVals, ARes.val, Bool.false_eq_true, Bool.not_false, Bool.not_true, List.getD_cons_succ, List.getD_cons_zero, List.map_cons, List.map_nil, Nat.add_zero, Nat.zero_add, Option.map_none, Option.map_some, Option.some.injEq, and_true, decide_false, decide_true, true_and, reduceCtorEq, Nat.reduceEqDiff, ↓reduceIte, Int.reduceEq, Int.reduceLT, Int.reduceLE, Nat.reduceAdd]
    · simp only [e10, SX, Opd.ev, resVal, resVals, ARes.val, Bool.false_eq_true, Bool.not_false, Bool.not_true, List.getD_cons_succ, List.getD_cons_zero, List.map_cons, List.map_nil, Nat.add_zero, Nat.zero_add, Option.map_none, Option.map_some, Option.some.injEq, and_true, decide_false, decide_true, true_and, reduceCtorEq, Nat.reduceEqDiff, ↓reduceIte, Int.reduceEq, Int.reduceLT, Int.reduceLE, Nat.reduceAdd]
    · simp only [e11, SX, Opd.ev, resVal, resVals, ARes.val, Bool.false_eq_true, Bool.not_false, Bool.not_true, List.getD_cons_succ, List.getD_cons_zero, List.map_cons, List.map_nil, Nat.add_zero, Nat.zero_add, Option.map_none, Option.map_some, Option.some.injEq, and_true, decide_false, decide_true, true_and, reduceCtorEq, Nat.reduceEqDiff, ↓reduceIte, Int.reduceEq, Int.reduceLT, Int.reduceLE, Nat.reduceAdd]
    · rw [if_neg (by simp [c])]; exact h
  · have c' : (!decide (a = 1)) = true := by simp [c]
    simp only [A14_c1, e0, e5, c', SX, Opd.ev, resVal, resVals, ARes.val, Bool.false_eq_true, Bool.not_false, Bool.not_true, List.getD_cons_succ, List.getD_cons_zero, List.map_cons, List.map_nil, Nat.add_zero, Nat.zero_add, Option.map_none, Option.map_some, Option.some.injEq, and_true, decide_false, decide_true, true_and, reduceCtorEq, Nat.reduceEqDiff, ↓reduceIte, Int.reduceEq, Int.reduceLT, Int.reduceLE, Nat.reduceAdd]
    refine (endS_spec eq h hs).mono ?_
    rintro r H1 ⟨h1, k1⟩
    simp only [SX, Opd.ev, resVal, resVals, ARes.val, Bool.false_eq_true, Bool.not_false, Bool.not_true, List.getD_cons_succ, List.getD_cons_zero, List.map_cons, List.map_nil, Nat.add_zero, Nat.zero_add, Option.map_none, Option.map_some, Option.some.injEq, and_true, decide_false, decide_true, true_and, reduceCtorEq, Nat.reduceEqDiff, ↓reduceIte, Int.reduceEq, Int.reduceLT, Int.reduceLE, Nat.reduceAdd]
    refine hk _ H1 ⟨?_, ?_, ?_, ?_, ?_, ?_, ?_⟩ ?_ k1
    · simp only [e0, SX, Opd.ev, resVal, resVals, ARes.val, Bool.false_eq_true, Bool.not_false, Bool.not_true, List.getD_cons_succ, List.getD_cons_zero, List.map_cons, List.map_nil, Nat.add_zero, Nat.zero_add, Option.map_none, Option.map_some, Option.some.injEq, and_true, decide_false, decide_true, true_and, reduceCtorEq, Nat.reduceEqDiff, ↓reduceIte, Int.reduceEq, Int.reduceLT, Int.reduceLE, Nat.reduceAdd]
    · simp only [e1, SX, Opd.ev, resVal, resVals, ARes.val, Bool.false_eq_true, Bool.not_false, Bool.not_true, List.getD_cons_succ, List.getD_cons_zero, List.map_cons, List.map_nil, Nat.add_zero, Nat.zero_add, Option.map_none, Option.map_some, Option.some.injEq, and_true, decide_false, decide_true, true_and, reduceCtorEq, Nat.reduceEqDiff, ↓reduceIte, Int.reduceEq, Int.reduceLT, Int.reduceLE, Nat.reduceAdd]
    · simp only [e4, SX, Opd.ev, resVal, resVals, ARes.val, Bool.false_eq_true, Bool.not_false, Bool.not_true, List.getD_cons_succ, List.getD_cons_zero, List.map_cons, List.map_nil, Nat.add_zero, Nat.zero_add, Option.map_none, Option.map_some, Option.some.injEq, and_true, decide_false, decide_true, true_and, reduceCtorEq, Nat.reduceEqDiff, ↓reduceIte, Int.reduceEq, Int.reduceLT, Int.reduceLE, Nat.reduceAdd]
    · simp only [e5, SX, Opd.ev, resVal, resVals, ARes.val, Bool.false_eq_true, Bool.not_false, Bool.not_true, List.getD_cons_succ, List.getD_cons_zero, List.map_cons, List.map_nil, Nat.add_zero, Nat.zero_add, Option.map_none, Option.map_some, Option.some.injEq, and_true, decide_false, decide_true, true_and, reduceCtorEq, Nat.reduceEqDiff, ↓reduceIte, Int.reduceEq, Int.reduceLT, Int.reduceLE, Nat.reduceAdd]
    · simp only [e6, SX, Opd.ev, resVal, resVals, ARes.val, Bool.false_eq_true, Bool.not_false, Bool.not_true, List.getD_cons_succ, List.getD_cons_zero, List.map_cons, List.map_nil, Nat.add_zero, Nat.zero_add, Option.map_none, Option.map_some, Option.some.injEq, and_true, decide_false, decide_true, true_and, reduceCtorEq, Nat.reduceEqDiff, ↓reduceIte, Int.reduceEq, Int.reduceLT, Int.reduceLE, Nat.reduceAdd]
    · simp only [e10, SX, Opd.ev, resVal, resVals, ARes.val, Bool.false_eq_true, Bool.not_false, Bool.not_true, List.getD_cons_succ, List.getD_cons_zero, List.map_cons, List.map_nil, Nat.add_zero, Nat.zero_add, Option.map_none, Option.map_some, Option.some.injEq, and_true, decide_false, decide_true, true_and, reduceCtorEq, Nat.reduceEqDiff, ↓reduceIte, Int.reduceEq, Int.reduceLT, Int.reduceLE, Nat.reduceAdd]
    · simp only [e11, SX, Opd.ev, resVal, resVals, ARes.val, Bool.false_eq_true, Bool.not_false, Bool.not_true, List.getD_cons_succ, List.getD_cons_zero, List.map_cons, List.map_nil, Nat.add_zero, Nat.zero_add, Option.map_none, Option.map_some, Option.some.injEq, and_true, decide_false, decide_true, true_and, reduceCtorEq, Nat.reduceEqDiff, ↓reduceIte, Int.reduceEq, Int.reduceLT, Int.reduceLE, Nat.reduceAdd]
    · rw [if_pos c]; exact h1
set_option maxHeartbeats 2000000 in
theorem c2_wp {c : UInt8} (hc : t[i]? = some c) (hg : s.ps.Good) (h : Par base H p s l) (hs : s.told.length ≤ 900000) (f : FE e p t i a n) (hk : ∀ e' H', FE e' p t i a n → Par base H' p (s.step2 n c) l → Keep base H H' → K .normal e' H') : ACode.wp Q A14_c2 K e H := by
  obtain ⟨e0, e1, e4, e5, e6, e10, e11⟩ := f
  have par := h
  obtain ⟨C, ok, hp⟩ := h
  have l5 := hp.load (b := p) (k := 1) (cs := pcs s C.lv C.xv C.tv) (List.mem_cons_self ..) (o := 5) rfl
  have hix := idxStr_at hc .i64
  simp only [A14_c2, e0, e6, l5, SX, Opd.ev, resVal, resVals, ARes.val, Bool.false_eq_true, Bool.not_false, Bool.not_true, List.getD_cons_succ, List.getD_cons_zero, List.map_cons, List.map_nil, Nat.add_zero, Nat.zero_add, Option.map_none, Option.map_some, Option.some.injEq, and_true, decide_false, decide_true, true_and, reduceCtorEq, Nat.reduceEqDiff, ↓reduceIte, Int.reduceEq, Int.reduceLT, Int.reduceLE, Nat.reduceAdd]
  refine (isEnd_spec eq).mono ?_
  rintro r H' ⟨rfl, rfl⟩
  by_cases d : n ≠ s.st ∧ (s.st = 10 ∨ s.st = 12)
  · have d' : decide (n ≠ s.st ∧ (s.st = 10 ∨ s.st = 12)) = true := by simpa using d
    simp only [e0, e1, e4, e6, d', hix, SX, Opd.ev, resVal, resVals, ARes.val, Bool.false_eq_true, Bool.not_false, Bool.not_true, List.getD_cons_succ, List.getD_cons_zero, List.map_cons, List.map_nil, Nat.add_zero, Nat.zero_add, Option.map_none, Option.map_some, Option.some.injEq, and_true, decide_false, decide_true, true_and, reduceCtorEq, Nat.reduceEqDiff, ↓reduceIte, Int.reduceEq, Int.reduceLT, Int.reduceLE, Nat.reduceAdd]
    refine (stop_spec eq hg par (by omega)).mono ?_
    rintro r H1 ⟨h1, k1⟩
    simp only [SX, Opd.ev, resVal, resVals, ARes.val, Bool.false_eq_true, Bool.not_false, Bool.not_true, List.getD_cons_succ, List.getD_cons_zero, List.map_cons, List.map_nil, Nat.add_zero, Nat.zero_add, Option.map_none, Option.map_some, Option.some.injEq, and_true, decide_false, decide_true, true_and, reduceCtorEq, Nat.reduceEqDiff, ↓reduceIte, Int.reduceEq, Int.reduceLT, Int.reduceLE, Nat.reduceAdd]
    refine hk _ H1 ⟨?_, ?_, ?_, ?_, ?_, ?_, ?_⟩ ?_ k1
    · simp only [e0, SX, Opd.ev, resVal, resVals, ARes.val, Bool.false_eq_true, Bool.not_false, Bool.not_true, List.getD_cons_succ, List.getD_cons_zero, List.map_cons, List.map_nil, Nat.add_zero, Nat.zero_add, Option.map_none, Option.map_some, Option.some.injEq, and_true, decide_false, decide_true, true_and, reduceCtorEq, Nat.reduceEqDiff, ↓reduceIte, Int.reduceEq, Int.reduceLT, Int.reduceLE, Nat.reduceAdd]
    · simp only [e1, SX, Opd.ev, resVal, resVals, ARes.val, Bool.false_eq_true, Bool.not_false, Bool.not_true, List.getD_cons_succ, List.getD_cons_zero, List.map_cons, List.map_nil, Nat.add_zero, Nat.zero_add, Option.map_none, Option.map_some, Option.some.injEq, and_true, decide_false, decide_true, true_and, reduceCtorEq, Nat.reduceEqDiff, ↓reduceIte, Int.reduceEq, Int.reduceLT, Int.reduceLE, Nat.reduceAdd]
    · simp only [e4, SX, Opd.ev, resVal, resVals, ARes.val, Bool.false_eq_true, Bool.not_false, Bool.not_true, List.getD_cons_succ, List.getD_cons_zero, List.map_cons, List.map_nil, Nat.add_zero, Nat.zero_add, Option.map_none, Option.map_some, Option.some.injEq, and_true, decide_false, decide_true, true_and, reduceCtorEq, Nat.reduceEqDiff, ↓reduceIte, Int.reduceEq, Int.reduceLT, Int.reduceLE, Nat.reduceAdd]
    · simp only [e5, SX, Opd.ev, resVal, resVals, ARes.val, Bool.false_eq_true, Bool.not_false, Bool.not_true, List.getD_cons_succ, List.getD_cons_zero, List.map_cons, List.map_nil, Nat.add_zero, Nat.zero_add, Option.map_none, Option.map_some, Option.some.injEq, and_true, decide_false, decide_true, true_and, reduceCtorEq, Nat.reduceEqDiff, ↓reduceIte, Int.reduceEq, Int.reduceLT, Int.reduceLE, Nat.reduceAdd]
    · simp only [e6, SX, Opd.ev, resVal, resVals, ARes.val, Bool.false_eq_true, Bool.not_false, Bool.not_true, List.getD_cons_succ, List.getD_cons_zero, List.map_cons, List.map_nil, Nat.add_zero, Nat.zero_add, Option.map_none, Option.map_some, Option.some.injEq, and_true, decide_false, decide_true, true_and, reduceCtorEq, Nat.reduceEqDiff, ↓reduceIte, Int.reduceEq, Int.reduceLT, Int.reduceLE, Nat.reduceAdd]
    · simp only [e10, SX, Opd.ev, resVal, resVals, ARes.val, Bool.false_eq_true, Bool.not_false, Bool.not_true, List.getD_cons_succ, List.getD_cons_zero, List.map_cons, List.map_nil, Nat.add_zero, Nat.zero_add, Option.map_none, Option.map_some, Option.some.injEq, and_true, decide_false, decide_true, true_and, reduceCtorEq, Nat.reduceEqDiff, ↓reduceIte, Int.reduceEq, Int.reduceLT, Int.reduceLE, Nat.reduceAdd]
    · simp only [e11, SX, Opd.ev, resVal, resVals, ARes.val, Bool.false_eq_true, Bool.not_false, Bool.not_true, List.getD_cons_succ, List.getD_cons_zero, List.map_cons, List.map_nil, Nat.add_zero, Nat.zero_add, Option.map_none, Option.map_some, Option.some.injEq, and_true, decide_false, decide_true, true_and, reduceCtorEq, Nat.reduceEqDiff, ↓reduceIte, Int.reduceEq, Int.reduceLT, Int.reduceLE, Nat.reduceAdd]
    · unfold PSt.step2; rw [if_pos d]; exact h1
  · have d' : decide (n ≠ s.st ∧ (s.st = 10 ∨ s.st = 12)) = false := by simpa using d
    simp only [e0, e1, e4, e6, d', SX, Opd.ev, resVal, resVals, ARes.val, Bool.false_eq_true, Bool.not_false, Bool.not_true, List.getD_cons_succ, List.getD_cons_zero, List.map_cons, List.map_nil, Nat.add_zero, Nat.zero_add, Option.map_none, Option.map_some, Option.some.injEq, and_true, decide_false, decide_true, true_and, reduceCtorEq, Nat.reduceEqDiff, ↓reduceIte, Int.reduceEq, Int.reduceLT, Int.reduceLE, Nat.reduceAdd]
    refine hk _ H' ⟨?_, ?_, ?_, ?_, ?_, ?_, ?_⟩ ?_ (Keep.refl _ _)
    · simp only [e0, SX, Opd.ev, resVal, resVals, ARes.val, Bool.false_eq_true, Bool.not_false, Bool.not_true, List.getD_cons_succ, List.getD_cons_zero, List.map_cons, List.map_nil, Nat.add_zero, Nat.zero_add, Option.map_none, Option.map_some, Option.some.injEq, and_true, decide_false, decide_true, true_and, reduceCtorEq, Nat.reduceEqDiff, ↓reduceIte, Int.reduceEq, Int.reduceLT, Int.reduceLE, Nat.reduceAdd]
    · simp only [e1, SX, Opd.ev, resVal, resVals, ARes.val, Bool.false_eq_true, Bool.not_false, Bool.not_true, List.getD_cons_succ, List.getD_cons_zero, List.map_cons, List.map_nil, Nat.add_zero, Nat.zero_add, Option.map_none, Option.map_some, Option.some.injEq, and_true, decide_false, decide_true, true_and, reduceCtorEq, Nat.reduceEqDiff, ↓reduceIte, Int.reduceEq, Int.reduceLT, Int.reduceLE, Nat.reduceAdd]
    · simp only [e4, SX, Opd.ev, resVal, resVals, ARes.val, Bool.false_eq_true, Bool.not_false, Bool.not_true, List.getD_cons_succ, List.getD_cons_zero, List.map_cons, List.map_nil, Nat.add_zero, Nat.zero_add, Option.map_none, Option.map_some, Option.some.injEq, and_true, decide_false, decide_true, true_and, reduceCtorEq, Nat.reduceEqDiff, ↓reduceIte, Int.reduceEq, Int.reduceLT, Int.reduceLE, Nat.reduceAdd]
    · simp only [e5, SX, Opd.ev, resVal, resVals, ARes.val, Bool.false_eq_true, Bool.not_false, Bool.not_true, List.getD_cons_succ, List.getD_cons_zero, List.map_cons, List.map_nil, Nat.add_zero, Nat.zero_add, Option.map_none, Option.map_some, Option.some.injEq, and_true, decide_false, decide_true, true_and, reduceCtorEq, Nat.reduceEqDiff, ↓reduceIte, Int.reduceEq, Int.reduceLT, Int.reduceLE, Nat.reduceAdd]
    · simp only [e6, SX, Opd.ev, resVal, resVals, ARes.val, Bool.false_eq_true, Bool.not_false, Bool.not_true, List.getD_cons_succ, List.getD_cons_zero, List.map_cons, List.map_nil, Nat.add_zero, Nat.zero_add, Option.map_none, Option.map_some, Option.some.injEq, and_true, decide_false, decide_true, true_and, reduceCtorEq, Nat.reduceEqDiff, ↓reduceIte, Int.reduceEq, Int.reduceLT, Int.reduceLE, Nat.reduceAdd]
    · simp only [e10, SX, Opd.ev, resVal, resVals, ARes.val, Bool.false_eq_true, Bool.not_false, Bool.not_true, List.getD_cons_succ, List.getD_cons_zero, List.map_cons, List.map_nil, Nat.add_zero, Nat.zero_add, Option.map_none, Option.map_some, Option.some.injEq, and_true, decide_false, decide_true, true_and, reduceCtorEq, Nat.reduceEqDiff, ↓reduceIte, Int.reduceEq, Int.reduceLT, Int.reduceLE, Nat.reduceAdd]
    · simp only [e11, SX, Opd.ev, resVal, resVals, ARes.val, Bool.false_eq_true, Bool.not_false, Bool.not_true, List.getD_cons_succ, List.getD_cons_zero, List.map_cons, List.map_nil, Nat.add_zero, Nat.zero_add, Option.map_none, Option.map_some, Option.some.injEq, and_true, decide_false, decide_true, true_and, reduceCtorEq, Nat.reduceEqDiff, ↓reduceIte, Int.reduceEq, Int.reduceLT, Int.reduceLE, Nat.reduceAdd]
    · unfold PSt.step2; rw [if_neg d]; exact par
set_option maxHeartbeats 2000000 in
theorem c3_wp (h : Par base H p s l) (f : FE e p t i a n) (hk : ∀ e' H', FE e' p t i a n → Par base H' p (s.step3 n) l → Keep base H H' → K .normal e' H') : ACode.wp Q A14_c3 K e H := by
  obtain ⟨e0, e1, e4, e5, e6, e10, e11⟩ := f
  have par := h
  obtain ⟨C, ok, hp⟩ := h
  have l5 := hp.load (b := p) (k := 1) (cs := pcs s C.lv C.xv C.tv) (List.mem_cons_self ..) (o := 5) rfl
  simp only [A14_c3, e0, e6, l5, SX, Opd.ev, resVal, resVals, ARes.val, Bool.false_eq_true, Bool.not_false, Bool.not_true, List.getD_cons_succ, List.getD_cons_zero, List.map_cons, List.map_nil, Nat.add_zero, Nat.zero_add, Option.map_none, Option.map_some, Option.some.injEq, and_true, decide_false, decide_true, true_and, reduceCtorEq, Nat.reduceEqDiff, ↓reduceIte, Int.reduceEq, Int.reduceLT, Int.reduceLE, Nat.reduceAdd]
  refine (isClr_spec eq).mono ?_
  rintro r H' ⟨rfl, rfl⟩
  by_cases d : n ≠ s.st ∧ (n = 1 ∨ n = 3 ∨ n = 7 ∨ n = 12)
  · have d' : decide (n ≠ s.st ∧ (n = 1 ∨ n = 3 ∨ n = 7 ∨ n = 12)) = true := by simpa using d
    simp only [e0, e1, e4, e6, d', SX, Opd.ev, resVal, resVals, ARes.val, Bool.false_eq_true, Bool.not_false, Bool.not_true, List.getD_cons_succ, List.getD_cons_zero, List.map_cons, List.map_nil, Nat.add_zero, Nat.zero_add, Option.map_none, Option.map_some, Option.some.injEq, and_true, decide_false, decide_true, true_and, reduceCtorEq, Nat.reduceEqDiff, ↓reduceIte, Int.reduceEq, Int.reduceLT, Int.reduceLE, Nat.reduceAdd]
    refine (clr_spec eq (ρ := rstOf s C.xv C.tv) (v := C.lv) (a := .bool s.ps.ov) (b := .bool s.ps.fu) (ll := C.rest l) hp).mono ?_
    rintro r H1 ⟨g1, k1⟩
    obtain ⟨H2, s2, g2, k2, n2⟩ := g1.store (o := 9) (v := .str []) rfl (by simp)
    obtain ⟨H3, s3, g3, k3, n3⟩ := g2.store (o := 10) (v := .bool false) rfl (by simp)
    obtain ⟨H4, s4, g4, k4, n4⟩ := g3.store (o := 12) (v := .nils) rfl (by simp)
    obtain ⟨H5, s5, g5, k5, n5⟩ := g4.store (o := 13) (v := .bool false) rfl (by simp)
    have g5' : Hp base H5 (⟨p, 1, pcs s.clrS .nils .nils C.tv⟩ :: C.rest l) := g5
    simp only [e0, s2, s3, s4, s5, SX, Opd.ev, resVal, resVals, ARes.val, Bool.false_eq_true, Bool.not_false, Bool.not_true, List.getD_cons_succ, List.getD_cons_zero, List.map_cons, List.map_nil, Nat.add_zero, Nat.zero_add, Option.map_none, Option.map_some, Option.some.injEq, and_true, decide_false, decide_true, true_and, reduceCtorEq, Nat.reduceEqDiff, ↓reduceIte, Int.reduceEq, Int.reduceLT, Int.reduceLE, Nat.reduceAdd]
    refine hk _ H5 ⟨?_, ?_, ?_, ?_, ?_, ?_, ?_⟩ ?_ ((((k1.trans k2).trans k3).trans k4).trans k5)
    · simp only [e0, SX, Opd.ev, resVal, resVals, ARes.val, Bool.false_eq_true, Bool.not_false, Bool.not_true, List.getD_cons_succ, List.getD_cons_zero, List.map_cons, List.map_nil, Nat.add_zero, Nat.zero_add, Option.map_none, Option.map_some, Option.some.injEq, and_true, decide_false, decide_true, true_and, reduceCtorEq, Nat.reduceEqDiff, ↓reduceIte, Int.reduceEq, Int.reduceLT, Int.reduceLE, Nat.reduceAdd]
    · simp only [e1, SX, Opd.ev, resVal, resVals, ARes.val, Bool.false_eq_true, Bool.not_false, Bool.not_true, List.getD_cons_succ, List.getD_cons_zero, List.map_cons, List.map_nil, Nat.add_zero, Nat.zero_add, Option.map_none, Option.map_some, Option.some.injEq, and_true, decide_false, decide_true, true_and, reduceCtorEq, Nat.reduceEqDiff, ↓reduceIte, Int.reduceEq, Int.reduceLT, Int.reduceLE, Nat.reduceAdd]
    · simp only [e4, SX, Opd.ev, resVal, resVals, ARes.val, Bool.false_eq_true, Bool.not_false, Bool.not_true, List.getD_cons_succ, List.getD_cons_zero, List.map_cons, List.map_nil, Nat.add_zero, Nat.zero_add, Option.map_none, Option.map_some, Option.some.injEq, and_true, decide_false, decide_true, true_and, reduceCtorEq, Nat.reduceEqDiff, ↓reduceIte, Int.reduceEq, Int.reduceLT, Int.reduceLE, Nat.reduceAdd]
    · simp only [e5, SX, Opd.ev, resVal, resVals, ARes.val, Bool.false_eq_true, Bool.not_false, Bool.not_true, List.getD_cons_succ, List.getD_cons_zero, List.map_cons, List.map_nil, Nat.add_zero, Nat.zero_add, Option.map_none, Option.map_some, Option.some.injEq, and_true, decide_false, decide_true, true_and, reduceCtorEq, Nat.reduceEqDiff, ↓reduceIte, Int.reduceEq, Int.reduceLT, Int.reduceLE, Nat.reduceAdd]
    · simp only [e6, SX, Opd.ev, resVal, resVals, ARes.val, Bool.false_eq_true, Bool.not_false, Bool.not_true, List.getD_cons_succ, List.getD_cons_zero, List.map_cons, List.map_nil, Nat.add_zero, Nat.zero_add, Option.map_none, Option.map_some, Option.some.injEq, and_true, decide_false, decide_true, true_and, reduceCtorEq, Nat.reduceEqDiff, ↓reduceIte, Int.reduceEq, Int.reduceLT, Int.reduceLE, Nat.reduceAdd]
    · simp only [e10, SX, Opd.ev, resVal, resVals, ARes.val, Bool.false_eq_true, Bool.not_false, Bool.not_true, List.getD_cons_succ, List.getD_cons_zero, List.map_cons, List.map_nil, Nat.add_zero, Nat.zero_add, Option.map_none, Option.map_some, Option.some.injEq, and_true, decide_false, decide_true, true_and, reduceCtorEq, Nat.reduceEqDiff, ↓reduceIte, Int.reduceEq, Int.reduceLT, Int.reduceLE, Nat.reduceAdd]
    · simp only [e11, SX, Opd.ev, resVal, resVals, ARes.val, Bool.false_eq_true, Bool.not_false, Bool.not_true, List.getD_cons_succ, List.getD_cons_zero, List.map_cons, List.map_nil, Nat.add_zero, Nat.zero_add, Option.map_none, Option.map_some, Option.some.injEq, and_true, decide_false, decide_true, true_and, reduceCtorEq, Nat.reduceEqDiff, ↓reduceIte, Int.reduceEq, Int.reduceLT, Int.reduceLE, Nat.reduceAdd]
    · unfold PSt.step3; rw [if_pos d]
      refine ⟨⟨.nils, .nils, C.tv, [], [], C.tcl, C.E⟩, ⟨.inl ⟨rfl, rfl, rfl⟩, .inl ⟨rfl, rfl, rfl⟩, ok.t, ok.e, ok.ev⟩, g5'.sub ?_⟩
      refine List.Sublist.cons_cons _ ?_
      simp only [PC.rest, List.nil_append]
      exact (List.sublist_append_right _ _).trans (List.sublist_append_right _ _)
  · have d' : decide (n ≠ s.st ∧ (n = 1 ∨ n = 3 ∨ n = 7 ∨ n = 12)) = false := by simpa using d
    simp only [e0, e1, e4, e6, d', SX, Opd.ev, resVal, resVals, ARes.val, Bool.false_eq_true, Bool.not_false, Bool.not_true, List.getD_cons_succ, List.getD_cons_zero, List.map_cons, List.map_nil, Nat.add_zero, Nat.zero_add, Option.map_none, Option.map_some, Option.some.injEq, and_true, decide_false, decide_true, true_and, reduceCtorEq, Nat.reduceEqDiff, ↓reduceIte, Int.reduceEq, Int.reduceLT, Int.reduceLE, Nat.reduceAdd]
    refine hk _ H' ⟨?_, ?_, ?_, ?_, ?_, ?_, ?_⟩ ?_ (Keep.refl _ _)
    · simp only [e0, SX, Opd.ev, resVal, resVals, ARes.val, Bool.false_eq_true, Bool.not_false, Bool.not_true, List.getD_cons_succ, List.getD_cons_zero, List.map_cons, List.map_nil, Nat.add_zero, Nat.zero_add, Option.map_none, Option.map_some, Option.some.injEq, and_true, decide_false, decide_true, true_and, reduceCtorEq, Nat.reduceEqDiff, ↓reduceIte, Int.reduceEq, Int.reduceLT, Int.reduceLE, Nat.reduceAdd]
    · simp only [e1, SX, Opd.ev, resVal, resVals, ARes.val, Bool.false_eq_true, Bool.not_false, Bool.not_true, List.getD_cons_succ, List.getD_cons_zero, List.map_cons, List.map_nil, Nat.add_zero, Nat.zero_add, Option.map_none, Option.map_some, Option.some.injEq, and_true, decide_false, decide_true, true_and, reduceCtorEq, Nat.reduceEqDiff, ↓reduceIte, Int.reduceEq, Int.reduceLT, Int.reduceLE, Nat.reduceAdd]
    · simp only [e4, SX, Opd.ev, resVal, resVals, ARes.val, Bool.false_eq_true, Bool.not_false, Bool.not_true, List.getD_cons_succ, List.getD_cons_zero, List.map_cons, List.map_nil, Nat.add_zero, Nat.zero_add, Option.map_none, Option.map_some, Option.some.injEq, and_true, decide_false, decide_true, true_and, reduceCtorEq, Nat.reduceEqDiff, ↓reduceIte, Int.reduceEq, Int.reduceLT, Int.reduceLE, Nat.reduceAdd]
    · simp only [e5, SX, Opd.ev, resVal, resVals, ARes.val, Bool.false_eq_true, Bool.not_false, Bool.not_true, List.getD_cons_succ, List.getD_cons_zero, List.map_cons, List.map_nil, Nat.add_zero, Nat.zero_add, Option.map_none, Option.map_some, Option.some.injEq, and_true, decide_false, decide_true, true_and, reduceCtorEq, Nat.reduceEqDiff, ↓reduceIte, Int.reduceEq, Int.reduceLT, Int.reduceLE, Nat.reduceAdd]
    · simp only [e6, SX, Opd.ev, resVal, resVals, ARes.val, Bool.false_eq_true, Bool.not_false, Bool.not_true, List.getD_cons_succ, List.getD_cons_zero, List.map_cons, List.map_nil, Nat.add_zero, Nat.zero_add, Option.map_none, Option.map_some, Option.some.injEq, and_true, decide_false, decide_true, true_and, reduceCtorEq, Nat.reduceEqDiff, ↓reduceIte, Int.reduceEq, Int.reduceLT, Int.reduceLE, Nat.reduceAdd]
    · simp only [e10, SX, Opd.ev, resVal, resVals, ARes.val, Bool.false_eq_true, Bool.not_false, Bool.not_true, List.getD_cons_succ, List.getD_cons_zero, List.map_cons, List.map_nil, Nat.add_zero, Nat.zero_add, Option.map_none, Option.map_some, Option.some.injEq, and_true, decide_false, decide_true, true_and, reduceCtorEq, Nat.reduceEqDiff, ↓reduceIte, Int.reduceEq, Int.reduceLT, Int.reduceLE, Nat.reduceAdd]
    · simp only [e11, SX, Opd.ev, resVal, resVals, ARes.val, Bool.false_eq_true, Bool.not_false, Bool.not_true, List.getD_cons_succ, List.getD_cons_zero, List.map_cons, List.map_nil, Nat.add_zero, Nat.zero_add, Option.map_none, Option.map_some, Option.some.injEq, and_true, decide_false, decide_true, true_and, reduceCtorEq, Nat.reduceEqDiff, ↓reduceIte, Int.reduceEq, Int.reduceLT, Int.reduceLE, Nat.reduceAdd]
    · unfold PSt.step3; rw [if_neg d]; exact par
set_option maxHeartbeats 2000000 in
theorem c4_wp {c : UInt8} (hc : t[i]? = some c) (hg : s.Good) (hx : s.text.length ≤ 1000000) (h : Par base H p s l) (hs : s.told.length ≤ 900000) (f : FE e p t i a n) (hk : ∀ e' H', FE e' p t i a n → Par base H' p { s.doesS a c with st := n } l → Keep base H H' → K .normal e' H') : ACode.wp Q A14_c4 K e H := by
  obtain ⟨e0, e1, e4, e5, e6, e10, e11⟩ := f
  have hix := idxStr_at hc .i64
  have hm := hg.mids
  simp only [A14_c4, e0, e1, e4, e5, e6, hix, SX, Opd.ev, resVal, resVals, ARes.val, Bool.false_eq_true, Bool.not_false, Bool.not_true, List.getD_cons_succ, List.getD_cons_zero, List.map_cons, List.map_nil, Nat.add_zero, Nat.zero_add, Option.map_none, Option.map_some, Option.some.injEq, and_true, decide_false, decide_true, true_and, reduceCtorEq, Nat.reduceEqDiff, ↓reduceIte, Int.reduceEq, Int.reduceLT, Int.reduceLE, Nat.reduceAdd]
  refine (does_spec eq hg.d hg.ps hx (by omega) h hs).mono ?_
  rintro r H1 ⟨h1, k1⟩
  obtain ⟨C, ok, hp⟩ := h1
  obtain ⟨H2, s2, g2, k2, n2⟩ := hp.store (o := 5) (v := .int .i64 n) rfl (by simp [pcs, DSt.cs])
  simp only [e0, e6, s2, SX, Opd.ev, resVal, resVals, ARes.val, Bool.false_eq_true, Bool.not_false, Bool.not_true, List.getD_cons_succ, List.getD_cons_zero, List.map_cons, List.map_nil, Nat.add_zero, Nat.zero_add, Option.map_none, Option.map_some, Option.some.injEq, and_true, decide_false, decide_true, true_and, reduceCtorEq, Nat.reduceEqDiff, ↓reduceIte, Int.reduceEq, Int.reduceLT, Int.reduceLE, Nat.reduceAdd]
  refine hk _ H2 ⟨?_, ?_, ?_, ?_, ?_, ?_, ?_⟩ ?_ (k1.trans k2)
  · simp only [e0, SX, Opd.ev, resVal, resVals, ARes.val, Bool.false_eq_true, Bool.not_false, Bool.not_true, List.getD_cons_succ, List.getD_cons_zero, List.map_cons, List.map_nil, Nat.add_zero, Nat.zero_add, Option.map_none, Option.map_some, Option.some.injEq, and_true, decide_false, decide_true, true_and, reduceCtorEq, Nat.reduceEqDiff, ↓reduceIte, Int.reduceEq, Int.reduceLT, Int.reduceLE, Nat.reduceAdd]
  · simp only [e1, SX, Opd.ev, resVal, resVals, ARes.val, Bool.false_eq_true, Bool.not_false, Bool.not_true, List.getD_cons_succ, List.getD_cons_zero, List.map_cons, List.map_nil, Nat.add_zero, Nat.zero_add, Option.map_none, Option.map_some, Option.some.injEq, and_true, decide_false, decide_true, true_and, reduceCtorEq, Nat.reduceEqDiff, ↓reduceIte, Int.reduceEq, Int.reduceLT, Int.reduceLE, Nat.reduceAdd]
  · simp only [e4, SX, Opd.ev, resVal, resVals, ARes.val, Bool.false_eq_true, Bool.not_false, Bool.not_true, List.getD_cons_succ, List.getD_cons_zero, List.map_cons, List.map_nil, Nat.add_zero, Nat.zero_add, Option.map_none, Option.map_some, Option.some.injEq, and_true, decide_false, decide_true, true_and, reduceCtorEq, Nat.reduceEqDiff, ↓reduceIte, Int.reduceEq, Int.reduceLT, Int.reduceLE, Nat.reduceAdd]
  · simp only [e5, SX, Opd.ev, resVal, resVals, ARes.val, Bool.false_eq_true, Bool.not_false, Bool.not_true, List.getD_cons_succ, List.getD_cons_zero, List.map_cons, List.map_nil, Nat.add_zero, Nat.zero_add, Option.map_none, Option.map_some, Option.some.injEq, and_true, decide_false, decide_true, true_and, reduceCtorEq, Nat.reduceEqDiff, ↓reduceIte, Int.reduceEq, Int.reduceLT, Int.reduceLE, Nat.reduceAdd]
  · simp only [e6, SX, Opd.ev, resVal, resVals, ARes.val, Bool.false_eq_true, Bool.not_false, Bool.not_true, List.getD_cons_succ, List.getD_cons_zero, List.map_cons, List.map_nil, Nat.add_zero, Nat.zero_add, Option.map_none, Option.map_some, Option.some.injEq, and_true, decide_false, decide_true, true_and, reduceCtorEq, Nat.reduceEqDiff, ↓reduceIte, Int.reduceEq, Int.reduceLT, Int.reduceLE, Nat.reduceAdd]
  · simp only [e10, SX, Opd.ev, resVal, resVals, ARes.val, Bool.false_eq_true, Bool.not_false, Bool.not_true, List.getD_cons_succ, List.getD_cons_zero, List.map_cons, List.map_nil, Nat.add_zero, Nat.zero_add, Option.map_none, Option.map_some, Option.some.injEq, and_true, decide_false, decide_true, true_and, reduceCtorEq, Nat.reduceEqDiff, ↓reduceIte, Int.reduceEq, Int.reduceLT, Int.reduceLE, Nat.reduceAdd]
  · simp only [e11, SX, Opd.ev, resVal, resVals, ARes.val, Bool.false_eq_true, Bool.not_false, Bool.not_true, List.getD_cons_succ, List.getD_cons_zero, List.map_cons, List.map_nil, Nat.add_zero, Nat.zero_add, Option.map_none, Option.map_some, Option.some.injEq, and_true, decide_false, decide_true, true_and, reduceCtorEq, Nat.reduceEqDiff, ↓reduceIte, Int.reduceEq, Int.reduceLT, Int.reduceLE, Nat.reduceAdd]
  · exact ⟨C, ⟨ok.l, ok.x, ok.t, ok.e, ok.ev⟩, g2⟩
omit eq in
theorem Good.feed : ∀ {t : List UInt8} {s : PSt}, s.Good → (s.feed t).Good ∧ (s.feed t).told.length ≤ s.told.length + 4 * t.length ∧ (s.feed t).text.length ≤ s.text.length + t.length
  | [], s, h => ⟨h, by simp [PSt.feed], by simp [PSt.feed]⟩
  | c :: t, s, h => by
    obtain ⟨g, a, b⟩ := Good.step h c
    obtain ⟨g2, a2, b2⟩ := Good.feed (t := t) g
    have e : s.feed (c :: t) = (s.step c).feed t := rfl
    rw [e]
    refine ⟨g2, ?_, ?_⟩ <;> simp only [List.length_cons] <;> omega
set_option maxHeartbeats 8000000 in
theorem feed_spec (hg : s.Good) (h : Par base H p s l) (hs : s.told.length + 4 * t.length ≤ 800000) (hx : s.text.length + t.length ≤ 800000) :
    FnTo Q 14 [.ptr p 0, .str t] H (fun r H' => Par base H' p (s.feed t) l ∧ Keep base H H') := by
  refine fn_wp (eq.ho 14 rfl _) eq.q14 (by simp [A14]) ?_
  simp only [A14, SX, Opd.ev, resVal, resVals, ARes.val, Bool.false_eq_true, Bool.not_false, Bool.not_true, List.getD_cons_succ, List.getD_cons_zero, List.map_cons, List.map_nil, Nat.add_zero, Nat.zero_add, Option.map_none, Option.map_some, Option.some.injEq, and_true, decide_false, decide_true, true_and, reduceCtorEq, Nat.reduceEqDiff, ↓reduceIte, Int.reduceEq, Int.reduceLT, Int.reduceLE, Nat.reduceAdd]
  obtain ⟨I, hI⟩ : ∃ I : Nat → Env → AHeap → Prop, ∀ m e H', I m e H' ↔ (Keep base H H' ∧ ∃ i : Nat, m = t.length - i ∧ i ≤ t.length ∧ Par base H' p (s.feed (t.take i)) l ∧ Env.get e 0 = .ptr p 0 ∧ Env.get e 1 = .str t ∧ Env.get e 10 = .int .i64 t.length ∧ Env.get e 11 = .int .i64 i) := ⟨_, fun _ _ _ => Iff.rfl⟩
  refine loop_by I t.length ?_ ?_
  · refine (hI _ _ _).2 ⟨Keep.refl _ _, 0, rfl, by omega, by rw [List.take_zero]; exact h, ?_⟩
    simp only [SX, Opd.ev, resVal, resVals, ARes.val, Bool.false_eq_true, Bool.not_false, Bool.not_true, List.getD_cons_succ, List.getD_cons_zero, List.map_cons, List.map_nil, Nat.add_zero, Nat.zero_add, Option.map_none, Option.map_some, Option.some.injEq, and_true, decide_false, decide_true, true_and, reduceCtorEq, Nat.reduceEqDiff, ↓reduceIte, Int.reduceEq, Int.reduceLT, Int.reduceLE, Nat.reduceAdd]; rfl
  · intro m e H1 hinv
    obtain ⟨k1, i, rfl, hi, par, e0, e1, e10, e11⟩ := (hI _ _ _).1 hinv
    by_cases d : (i : Int) < t.length
    · obtain ⟨c, hc⟩ : ∃ c, t[i]? = some c := ⟨_, List.getElem?_eq_getElem (by omega)⟩
      have hix := idxStr_at hc .i64
      have hil : (t.take i).length = i := by simp; omega
      obtain ⟨gi, ti, xi⟩ := Good.feed (t := t.take i) hg
      rw [hil] at ti xi
      obtain ⟨S, hS⟩ : ∃ S, s.feed (t.take i) = S := ⟨_, rfl⟩
      rw [hS] at par gi ti xi
      have hstep : s.feed (t.take (i + 1)) = S.step c := by
        rw [List.take_add_one, hc, ← hS]
        simp only [PSt.feed, Option.toList_some, List.foldl_append, List.foldl_cons, List.foldl_nil]
      have w1 : IntKind.wrap .i64 ((i : Int) + 1) = ((i + 1 : Nat) : Int) := by rw [wrapI64 (by omega) (by omega)]; rfl
      have l5 : loadV H1 Option.none (.ptr p 5) = some (.int .i64 S.st) := by
        obtain ⟨C, ok, hp⟩ := par
        exact hp.load (b := p) (k := 1) (cs := pcs S C.lv C.xv C.tv) (List.mem_cons_self ..) (o := 5) rfl
      simp only [e0, e1, e10, e11, d, l5, hix, SX, Opd.ev, resVal, resVals, ARes.val, Bool.false_eq_true, Bool.not_false, Bool.not_true, List.getD_cons_succ, List.getD_cons_zero, List.map_cons, List.map_nil, Nat.add_zero, Nat.zero_add, Option.map_none, Option.map_some, Option.some.injEq, and_true, decide_false, decide_true, true_and, reduceCtorEq, Nat.reduceEqDiff, ↓reduceIte, Int.reduceEq, Int.reduceLT, Int.reduceLE, Nat.reduceAdd]
      refine (next_st eq gi.st).mono ?_
      rintro r H2 ⟨rfl, rfl⟩
      obtain ⟨x1, x2⟩ := ext2 (nx S.st c.toNat)
      simp only [e0, e1, e10, e11, x1, x2, SX, Opd.ev, resVal, resVals, ARes.val, Bool.false_eq_true, Bool.not_false, Bool.not_true, List.getD_cons_succ, List.getD_cons_zero, List.map_cons, List.map_nil, Nat.add_zero, Nat.zero_add, Option.map_none, Option.map_some, Option.some.injEq, and_true, decide_false, decide_true, true_and, reduceCtorEq, Nat.reduceEqDiff, ↓reduceIte, Int.reduceEq, Int.reduceLT, Int.reduceLE, Nat.reduceAdd]
      obtain ⟨g1, a1, b1, d1⟩ := Good.step1 gi c
      obtain ⟨g2, a2, b2, d2⟩ := Good.step2 g1 (nx S.st c.toNat).2 c
      obtain ⟨g3, a3, b3, d3⟩ := Good.step3 g2 (nx S.st c.toNat).2
      refine c1_wp eq (t := t) (i := i) (a := (nx S.st c.toNat).1) (n := (nx S.st c.toNat).2) par (by omega) ⟨?_, ?_, ?_, ?_, ?_, ?_, ?_⟩ ?_
      · simp only [e0, SX, Opd.ev, resVal, resVals, ARes.val, Bool.false_eq_true, Bool.not_false, Bool.not_true, List.getD_cons_succ, List.getD_cons_zero, List.map_cons, List.map_nil, Nat.add_zero, Nat.zero_add, Option.map_none, Option.map_some, Option.some.injEq, and_true, decide_false, decide_true, true_and, reduceCtorEq, Nat.reduceEqDiff, ↓reduceIte, Int.reduceEq, Int.reduceLT, Int.reduceLE, Nat.reduceAdd]
      · simp only [e1, SX, Opd.ev, resVal, resVals, ARes.val, Bool.false_eq_true, Bool.not_false, Bool.not_true, List.getD_cons_succ, List.getD_cons_zero, List.map_cons, List.map_nil, Nat.add_zero, Nat.zero_add, Option.map_none, Option.map_some, Option.some.injEq, and_true, decide_false, decide_true, true_and, reduceCtorEq, Nat.reduceEqDiff, ↓reduceIte, Int.reduceEq, Int.reduceLT, Int.reduceLE, Nat.reduceAdd]
      · simp only [SX, Opd.ev, resVal, resVals, ARes.val, Bool.false_eq_true, Bool.not_false, Bool.not_true, List.getD_cons_succ, List.getD_cons_zero, List.map_cons, List.map_nil, Nat.add_zero, Nat.zero_add, Option.map_none, Option.map_some, Option.some.injEq, and_true, decide_false, decide_true, true_and, reduceCtorEq, Nat.reduceEqDiff, ↓reduceIte, Int.reduceEq, Int.reduceLT, Int.reduceLE, Nat.reduceAdd]
      · simp only [SX, Opd.ev, resVal, resVals, ARes.val, Bool.false_eq_true, Bool.not_false, Bool.not_true, List.getD_cons_succ, List.getD_cons_zero, List.map_cons, List.map_nil, Nat.add_zero, Nat.zero_add, Option.map_none, Option.map_some, Option.some.injEq, and_true, decide_false, decide_true, true_and, reduceCtorEq, Nat.reduceEqDiff, ↓reduceIte, Int.reduceEq, Int.reduceLT, Int.reduceLE, Nat.reduceAdd]
      · simp only [SX, Opd.ev, resVal, resVals, ARes.val, Bool.false_eq_true, Bool.not_false, Bool.not_true, List.getD_cons_succ, List.getD_cons_zero, List.map_cons, List.map_nil, Nat.add_zero, Nat.zero_add, Option.map_none, Option.map_some, Option.some.injEq, and_true, decide_false, decide_true, true_and, reduceCtorEq, Nat.reduceEqDiff, ↓reduceIte, Int.reduceEq, Int.reduceLT, Int.reduceLE, Nat.reduceAdd]
      · simp only [e10, SX, Opd.ev, resVal, resVals, ARes.val, Bool.false_eq_true, Bool.not_false, Bool.not_true, List.getD_cons_succ, List.getD_cons_zero, List.map_cons, List.map_nil, Nat.add_zero, Nat.zero_add, Option.map_none, Option.map_some, Option.some.injEq, and_true, decide_false, decide_true, true_and, reduceCtorEq, Nat.reduceEqDiff, ↓reduceIte, Int.reduceEq, Int.reduceLT, Int.reduceLE, Nat.reduceAdd]
      · simp only [e11, SX, Opd.ev, resVal, resVals, ARes.val, Bool.false_eq_true, Bool.not_false, Bool.not_true, List.getD_cons_succ, List.getD_cons_zero, List.map_cons, List.map_nil, Nat.add_zero, Nat.zero_add, Option.map_none, Option.map_some, Option.some.injEq, and_true, decide_false, decide_true, true_and, reduceCtorEq, Nat.reduceEqDiff, ↓reduceIte, Int.reduceEq, Int.reduceLT, Int.reduceLE, Nat.reduceAdd]
      intro e2 H3 f2 par2 k2
      have par2 : Par base H3 p (S.step1 c) l := par2
      simp only [SX, Opd.ev, resVal, resVals, ARes.val, Bool.false_eq_true, Bool.not_false, Bool.not_true, List.getD_cons_succ, List.getD_cons_zero, List.map_cons, List.map_nil, Nat.add_zero, Nat.zero_add, Option.map_none, Option.map_some, Option.some.injEq, and_true, decide_false, decide_true, true_and, reduceCtorEq, Nat.reduceEqDiff, ↓reduceIte, Int.reduceEq, Int.reduceLT, Int.reduceLE, Nat.reduceAdd]
      refine c2_wp eq hc g1.ps par2 (by omega) f2 ?_
      intro e3 H4 f3 par3 k3
      simp only [SX, Opd.ev, resVal, resVals, ARes.val, Bool.false_eq_true, Bool.not_false, Bool.not_true, List.getD_cons_succ, List.getD_cons_zero, List.map_cons, List.map_nil, Nat.add_zero, Nat.zero_add, Option.map_none, Option.map_some, Option.some.injEq, and_true, decide_false, decide_true, true_and, reduceCtorEq, Nat.reduceEqDiff, ↓reduceIte, Int.reduceEq, Int.reduceLT, Int.reduceLE, Nat.reduceAdd]
      refine c3_wp eq par3 f3 ?_
      intro e4 H5 f4 par4 k4
      simp only [SX, Opd.ev, resVal, resVals, ARes.val, Bool.false_eq_true, Bool.not_false, Bool.not_true, List.getD_cons_succ, List.getD_cons_zero, List.map_cons, List.map_nil, Nat.add_zero, Nat.zero_add, Option.map_none, Option.map_some, Option.some.injEq, and_true, decide_false, decide_true, true_and, reduceCtorEq, Nat.reduceEqDiff, ↓reduceIte, Int.reduceEq, Int.reduceLT, Int.reduceLE, Nat.reduceAdd]
      refine c4_wp eq hc g3 (by rw [d2, d1] at d3; omega) par4 (by omega) f4 ?_
      intro e5 H6 f5 par5 k5
      simp only [f5.e11, w1, SX, Opd.ev, resVal, resVals, ARes.val, Bool.false_eq_true, Bool.not_false, Bool.not_true, List.getD_cons_succ, List.getD_cons_zero, List.map_cons, List.map_nil, Nat.add_zero, Nat.zero_add, Option.map_none, Option.map_some, Option.some.injEq, and_true, decide_false, decide_true, true_and, reduceCtorEq, Nat.reduceEqDiff, ↓reduceIte, Int.reduceEq, Int.reduceLT, Int.reduceLE, Nat.reduceAdd]
      refine ⟨t.length - (i + 1), by omega, (hI _ _ _).2 ⟨(((k1.trans k2).trans k3).trans k4).trans k5, i + 1, rfl, by omega, ?_, ?_⟩⟩
      · rw [hstep]; exact par5
      · simp only [f5.e0, f5.e1, f5.e10, SX, Opd.ev, resVal, resVals, ARes.val, Bool.false_eq_true, Bool.not_false, Bool.not_true, List.getD_cons_succ, List.getD_cons_zero, List.map_cons, List.map_nil, Nat.add_zero, Nat.zero_add, Option.map_none, Option.map_some, Option.some.injEq, and_true, decide_false, decide_true, true_and, reduceCtorEq, Nat.reduceEqDiff, ↓reduceIte, Int.reduceEq, Int.reduceLT, Int.reduceLE, Nat.reduceAdd]
    · simp only [e0, e1, e10, e11, d, resNil, SX, Opd.ev, resVal, resVals, ARes.val, Bool.false_eq_true, Bool.not_false, Bool.not_true, List.getD_cons_succ, List.getD_cons_zero, List.map_cons, List.map_nil, Nat.add_zero, Nat.zero_add, Option.map_none, Option.map_some, Option.some.injEq, and_true, decide_false, decide_true, true_and, reduceCtorEq, Nat.reduceEqDiff, ↓reduceIte, Int.reduceEq, Int.reduceLT, Int.reduceLE, Nat.reduceAdd]
      rw [List.take_of_length_le (by omega)] at par
      exact ⟨par, k1⟩
end
def PSt.new : PSt := ⟨DSt.zero, 0, PS.none, [], false, 0, [], false, []⟩
theorem new_good : PSt.new.Good := ⟨zero_good, none_good, by simp [PSt.new], by simp [PSt.new]⟩
def zero15 : List AV := [.int .i64 0, .int .i64 0, .int .u8 0, .int .u8 0, .int .i32 0, .int .i64 0, .nils, .bool false, .bool false, .str [], .bool false, .int .u8 0, .nils, .bool false, .nils]
theorem par_new {base : Nat} {H : AHeap} {p : Nat} {l : List Cel} (h : Hp base H (⟨p, 1, zero15⟩ :: l)) : Par base H p PSt.new l :=
  ⟨⟨.nils, .nils, .nils, [], [], [], []⟩, ⟨.inl ⟨rfl, rfl, rfl⟩, .inl ⟨rfl, rfl, rfl⟩, .inl ⟨rfl, rfl, rfl⟩, rfl, fun a ha => by simp at ha⟩, h⟩
/-! ### Reading events -/
theorem TRv.len {v : AV} {E : List EvC} {cl : List Cel} (h : TRv v E cl) (H : AHeap) : lngV H 1 v = some (.int .i64 E.length) := by
  rcases h with ⟨rfl, rfl, _⟩ | ⟨b, pre, rfl, _⟩ <;> rfl
theorem TRv.one {v : AV} {E : List EvC} {cl : List Cel} (h : TRv v E cl) : v.one = true := by
  rcases h with ⟨_, rfl, _⟩ | ⟨b, pre, rfl, _⟩ <;> rfl
def at6 (v : AV) (i : Nat) : AV := match v with | .slc b o _ _ => .ptr b (o + i * 6) | _ => .undef
theorem TRv.at {v : AV} {E : List EvC} {cl : List Cel} (h : TRv v E cl) {i : Nat} (hi : i < E.length) : idxSV 6 v (.int .i64 i) = some (at6 v i) := by
  rcases h with ⟨rfl, rfl, _⟩ | ⟨b, pre, rfl, _⟩
  · simp at hi
  · simp only [idxSV, ROp.run, Opd.ev, inIndex, if_pos (show (0 : Int) ≤ (i : Int) ∧ (i : Int) < (E.length : Int) by omega), at6, Int.toNat_natCast]
theorem TRv.get {base : Nat} {H : AHeap} {v : AV} {E : List EvC} {cl l : List Cel} (h : TRv v E cl) (hp : Hp base H l) (hsub : ∀ x ∈ cl, x ∈ l) {i : Nat} {a : EvC} (ha : E[i]? = some a) : loadV H (some 6) (at6 v i) = some a.1.val := by
  rcases h with ⟨rfl, rfl, _⟩ | ⟨b, pre, rfl, rfl⟩
  · simp at ha
  · have hE : E = E.take i ++ (a :: E.drop (i + 1)) := by
      obtain ⟨h1, h2⟩ := List.getElem?_eq_some_iff.1 ha
      rw [← h2, ← List.drop_eq_getElem_cons h1, List.take_append_drop]
    have hi : i < E.length := (List.getElem?_eq_some_iff.1 ha).1
    have hf : pre ++ flatV E = (pre ++ flatV (E.take i)) ++ (a.1.cs ++ flatV (E.drop (i + 1))) := by
      conv => lhs; rw [hE]
      rw [flatV_app, List.append_assoc]
      rfl
    have hm : (⟨b, 6, (pre ++ flatV (E.take i)) ++ (a.1.cs ++ flatV (E.drop (i + 1)))⟩ : Cel) ∈ l := by
      rw [← hf]; exact hsub _ (List.mem_cons_self ..)
    refine hp.loadO hm ?_ rfl
    rw [List.length_append, flatV_len, List.length_take, Nat.min_eq_left (by omega)]
theorem mem_flatC {E : List EvC} {a : EvC} (ha : a ∈ E) : ∀ x ∈ a.2, x ∈ flatC E := fun x hx => List.mem_flatMap.2 ⟨a, ha, hx⟩
theorem TRv.sub {v : AV} {E : List EvC} {cl : List Cel} (h : TRv v E cl) {a : EvC} (ha : a ∈ E) : ∀ x ∈ a.2, x ∈ cl := by
  rcases h with ⟨rfl, rfl, _⟩ | ⟨b, pre, rfl, rfl⟩
  · simp at ha
  · exact fun x hx => List.mem_cons_of_mem _ (mem_flatC ha x hx)
theorem PRv.sl {base : Nat} {H : AHeap} {v : AV} {L : List (List Int)} {cl l : List Cel} (h : PRv v L cl) (hp : Hp base H l) (hsub : ∀ x ∈ cl, x ∈ l) : IsSl IsInts H v L := by
  rcases h with ⟨rfl, rfl, _⟩ | ⟨b, M, hne, rfl, rfl, rfl⟩
  · exact .inl ⟨rfl, rfl⟩
  · obtain ⟨B, r, e⟩ := hp.rowOf (hsub ⟨b, 1, heads M⟩ (List.mem_cons_self ..))
    refine .inr ⟨b, 0, M.length, B, by simp, r, fun i x hx => ?_⟩
    obtain ⟨y, hy, rfl⟩ : ∃ y, M[i]? = some y ∧ y.2 = x := by
      rw [List.getElem?_map] at hx
      cases hM : M[i]? with
      | none => rw [hM] at hx; simp at hx
      | some y => rw [hM] at hx; exact ⟨y, rfl, by simpa using hx⟩
    refine ⟨.slc y.1 0 y.2.length y.2.length, by rw [e, Nat.zero_add]; simp [heads, hy], ?_⟩
    obtain ⟨B2, r2, e2⟩ := hp.rowOf (hsub ⟨y.1, 1, ints y.2⟩ (List.mem_cons_of_mem _ (List.mem_map.2 ⟨y, List.mem_of_getElem? hy, rfl⟩)))
    refine .inr ⟨y.1, 0, y.2.length, B2, rfl, r2, fun j z hz => ⟨.int .i64 z, ?_, rfl⟩⟩
    rw [e2, Nat.zero_add, List.getElem?_map, hz]; rfl
def EOk (e : PEv) : Prop := e.L.length ≤ 16 ∧ ∀ x ∈ e.L, x.length ≤ 8
def ToldOk (s : PSt) : Prop := ∀ e ∈ s.told, EOk e
section
variable {Q : Prog} (eq : EvQ Q) {base : Nat} {H : AHeap} {p : Nat} {s : PSt} {l : List Cel}
include eq
set_option maxHeartbeats 2000000 in
theorem new_spec (q13 : Q.fns 13 = some A13) (h : Hp base H l) : FnTo Q 13 [] H (fun r H' => ∃ p, r = .ptr p 0 ∧ Par base H' p PSt.new l ∧ Keep base H H') := by
  refine fn_wp (eq.ho 13 rfl _) q13 (by simp [A13]) ?_
  obtain ⟨H1, s1, g1, k1⟩ := h.make zero15 1
  have hb : boxV (.agg zero15) = some (.row ⟨zero15, 0, false, true, 0⟩, .ptr) := rfl
  have hz : [AV.int .i64 0, .int .i64 0, .int .u8 0, .int .u8 0, .int .i32 0, .int .i64 0, .nils, .bool false, .bool false, .str [], .bool false, .int .u8 0, .nils, .bool false, .nils] = zero15 := rfl
  simp only [A13, hz, hb, s1, SX, Opd.ev, resVal, resVals, ARes.val, Bool.false_eq_true, Bool.not_false, Bool.not_true, List.getD_cons_succ, List.getD_cons_zero, List.map_cons, List.map_nil, Nat.add_zero, Nat.zero_add, Option.map_none, Option.map_some, Option.some.injEq, and_true, decide_false, decide_true, true_and, reduceCtorEq, Nat.reduceEqDiff, ↓reduceIte, Int.reduceEq, Int.reduceLT, Int.reduceLE, Nat.reduceAdd]
  exact ⟨_, rfl, par_new g1, k1⟩
set_option maxHeartbeats 4000000 in
theorem next_spec (h : Par base H p s l) : FnTo Q 22 [.ptr p 0] H (fun r H' => Keep base H H' ∧ ((s.told = [] ∧ r = .tup [.agg zeroE, .bool false] ∧ Par base H' p s l) ∨ ∃ (a : EvC) (rest : List PEv), s.told = a.1.pure :: rest ∧ PRv a.1.v a.1.L a.2 ∧ r = .tup [a.1.val, .bool true] ∧ Par base H' p { s with told := rest } (a.2 ++ l))) := by
  refine fn_wp (eq.ho 22 rfl _) eq.q22 (by simp [A22]) ?_
  obtain ⟨C, ok, hp⟩ := h
  obtain ⟨H1, s1, g1, k1⟩ := hp.make zeroE 6
  have l14 := g1.load (b := p) (k := 1) (cs := pcs s C.lv C.xv C.tv) (by simp) (o := 14) rfl
  have ln := ok.t.len H1
  have hlen : C.E.length = s.told.length := by rw [← ok.e]; simp
  have gz : Hp base H1 (⟨H.next, 6, zeroE⟩ :: ⟨p, 1, pcs s C.lv C.xv C.tv⟩ :: C.rest l) := g1
  cases hE : C.E with
  | nil =>
    rw [hE] at ln
    obtain ⟨H2, s2, g2, k2, n2⟩ := gz.storeN (n := 6) (new := zeroE) rfl rfl rfl
    have l2 := g2.loadN (b := H.next) (k := 6) (cs := zeroE) (List.mem_cons_self ..) (n := 6) rfl
    have c0 : decide ((([] : List EvC).length : Int) = 0) = true := rfl
    simp only [A22, hzE, run_allocL, s1, l14, ln, c0, run_build0, s2, l2, resVal, resVals, ARes.val, SX, Opd.ev, resVal, resVals, ARes.val, Bool.false_eq_true, Bool.not_false, Bool.not_true, List.getD_cons_succ, List.getD_cons_zero, List.map_cons, List.map_nil, Nat.add_zero, Nat.zero_add, Option.map_none, Option.map_some, Option.some.injEq, and_true, decide_false, decide_true, true_and, reduceCtorEq, Nat.reduceEqDiff, ↓reduceIte, Int.reduceEq, Int.reduceLT, Int.reduceLE, Nat.reduceAdd]
    refine ⟨k1.trans k2, .inl ⟨?_, ⟨C, ok, g2.drop⟩⟩⟩
    rw [← ok.e, hE]; rfl
  | cons a E =>
    have ht := ok.t
    rw [hE] at ln ht
    rcases ht with ⟨h1, _, _⟩ | ⟨b, pre, htv, htc⟩
    · cases h1
    have c0 : decide (((a :: E).length : Int) = 0) = false := by simp only [List.length_cons, decide_eq_false_iff_not]; omega
    have hmem : ∀ x ∈ C.tcl, x ∈ (⟨H.next, 6, zeroE⟩ : Cel) :: ⟨p, 1, pcs s C.lv C.xv C.tv⟩ :: C.rest l := fun x hx => List.mem_cons_of_mem _ (List.mem_cons_of_mem _ (List.mem_append_right _ (List.mem_append_right _ (List.mem_append_left _ hx))))
    have xi : idxSV 6 C.tv (.int .i64 0) = some (at6 C.tv 0) := by
      have := ok.t.at (i := 0) (by rw [hE]; simp)
      exact this
    obtain ⟨H2, s2, g2, k2⟩ := gz.make zeroE 6
    have la := ok.t.get gz hmem (i := 0) (a := a) (by rw [hE]; rfl)
    obtain ⟨H3, s3, g3, k3, n3⟩ := g2.storeN (n := 6) (new := a.1.cs) rfl rfl (by
      have h1 := (ok.ev a (by rw [hE]; exact List.mem_cons_self ..)).one
      simp only [Ev.cs, List.all_cons, List.all_nil, h1]; rfl)
    have s3 : storeE H2 6 (.ptr H1.next 0) a.1.val = some (.undef, H3) := s3
    have l14' := g3.load (b := p) (k := 1) (cs := pcs s C.lv C.xv C.tv) (by simp) (o := 14) rfl
    have hsl : slSV H3 6 C.tv (some (.int .i64 1)) Option.none = some (.slc b (pre.length + 6) E.length E.length) := by
      obtain ⟨es, ty, h1, h2⟩ := g3.has ⟨b, 6, pre ++ flatV (a :: E)⟩ (by
        refine List.mem_cons_of_mem _ (List.mem_cons_of_mem _ (List.mem_cons_of_mem _ ?_))
        refine List.mem_append_right _ (List.mem_append_right _ (List.mem_append_left _ ?_))
        rw [htc]; exact List.mem_cons_self ..)
      simp only at h1 h2
      rw [htv]
      simp only [slSV, ROp.run, Opd.ev, Option.map_some, Option.map_none, bounds, bound, if_pos (show (0 : Int) ≤ 1 ∧ (1 : Int) ≤ (((a :: E).length : Nat) : Int) by simp only [List.length_cons]; omega), h1, if_pos h2]
      simp
    obtain ⟨H4, s4, g4, k4, n4⟩ := (g3.re (l' := ⟨p, 1, pcs s C.lv C.xv C.tv⟩ :: ⟨H.next, 6, zeroE⟩ :: ⟨H1.next, 6, a.1.cs⟩ :: C.rest l) fun x => by simp only [cnt_cons]; omega).store (o := 14) (v := .slc b (pre.length + 6) E.length E.length) rfl (by simp [pcs, DSt.cs])
    have l6 : loadV H4 (some 6) (.ptr H1.next 0) = some a.1.val := g4.loadN (b := H1.next) (k := 6) (cs := a.1.cs) (by simp) (n := 6) rfl
    obtain ⟨H5, s5, g5, k5, n5⟩ := (g4.swap).storeN (n := 6) (new := a.1.cs) rfl rfl (by
      have h1 := (ok.ev a (by rw [hE]; exact List.mem_cons_self ..)).one
      simp only [Ev.cs, List.all_cons, List.all_nil, h1]; rfl)
    have s5 : storeE H4 6 (.ptr H.next 0) a.1.val = some (.undef, H5) := s5
    have l7 : loadV H5 (some 6) (.ptr H.next 0) = some a.1.val := g5.loadN (List.mem_cons_self ..) rfl
    simp only [A22, hzE, run_allocL, s1, l14, ln, c0, s2, xi, la, s3, l14', hsl, s4, l6, s5, l7, resVal, resVals, ARes.val, SX, Opd.ev, resVal, resVals, ARes.val, Bool.false_eq_true, Bool.not_false, Bool.not_true, List.getD_cons_succ, List.getD_cons_zero, List.map_cons, List.map_nil, Nat.add_zero, Nat.zero_add, Option.map_none, Option.map_some, Option.some.injEq, and_true, decide_false, decide_true, true_and, reduceCtorEq, Nat.reduceEqDiff, ↓reduceIte, Int.reduceEq, Int.reduceLT, Int.reduceLE, Nat.reduceAdd]
    refine ⟨((((k1.trans k2).trans k3).trans k4).trans k5), .inr ⟨a, E.map (fun a => a.1.pure), ?_, ok.ev a (by rw [hE]; exact List.mem_cons_self ..), rfl, ?_⟩⟩
    · rw [← ok.e, hE]; rfl
    · refine ⟨{ C with tv := .slc b (pre.length + 6) E.length E.length, tcl := ⟨b, 6, (pre ++ a.1.cs) ++ flatV E⟩ :: flatC E, E := E }, ⟨ok.l, ok.x, .inr ⟨b, pre ++ a.1.cs, by rw [List.length_append]; rfl, rfl⟩, rfl, fun x hx => ok.ev x (by rw [hE]; exact List.mem_cons_of_mem _ hx)⟩, ?_⟩
      have g6 : Hp base H5 (⟨p, 1, (pcs s C.lv C.xv C.tv).set 14 (.slc b (pre.length + 6) E.length E.length)⟩ :: ⟨H1.next, 6, a.1.cs⟩ :: C.rest l) := g5.drop
      have g7 := g6.swap.drop
      refine Hp.re g7 fun x => ?_
      have e1 : (pcs s C.lv C.xv C.tv).set 14 (.slc b (pre.length + 6) E.length E.length) = pcs { s with told := E.map (fun a => a.1.pure) } C.lv C.xv (.slc b (pre.length + 6) E.length E.length) := rfl
      have e2 : flatC (a :: E) = a.2 ++ flatC E := by simp [flatC]
      have e3 : pre ++ flatV (a :: E) = (pre ++ a.1.cs) ++ flatV E := by simp [flatV]
      rw [e1]
      simp only [PC.rest, htc, e2, e3, cnt_cons, cnt_append]
      omega
end
theorem src_one {base : Nat} {H : AHeap} {l : List Cel} {a : EvC} {q : Nat} (hp : Hp base H l) (hm : (⟨q, 6, a.1.cs⟩ : Cel) ∈ l) : srcCells H 6 (.slc q 0 1 1) = some ([a].length, flatV [a]) := by
  rw [flatV_one]
  exact hp.src (k' := 6) (pre := []) (post := []) (ys := a.1.cs) (by simpa using hm) rfl rfl (by omega)
/-- what take has so far -/
structure TakeI (base : Nat) (H : AHeap) (p q : Nat) (s : PSt) (l : List Cel) (vF : AV) (F : List EvC) (fcl : List Cel) (R : List PEv) (cur : Option EvC) : Prop where
  t : TRv vF F fcl
  ev : ∀ a ∈ F, PRv a.1.v a.1.L a.2
  hcur : ∀ a, cur = some a → PRv a.1.v a.1.L a.2
  all : F.map (fun a => a.1.pure) ++ (cur.toList.map (fun a => a.1.pure) ++ R) = s.told
  hnone : cur = Option.none → R = []
  par : Par base H p { s with told := R } (fcl ++ (⟨q, 6, (cur.map (fun a => a.1.cs)).getD zeroE⟩ :: ((cur.map (fun a => a.2)).getD [] ++ l)))
section
variable {Q : Prog} (eq : EvQ Q) {base : Nat} {H : AHeap} {p : Nat} {s : PSt} {l : List Cel}
include eq
set_option maxHeartbeats 8000000 in
theorem take_spec (q15 : Q.fns 15 = some A15) (h : Par base H p s l) (hs : s.told.length ≤ 90000) :
    FnTo Q 15 [.ptr p 0] H (fun r H' => Keep base H H' ∧ ∃ F fcl, TRv r F fcl ∧ F.map (fun a => a.1.pure) = s.told ∧ (∀ a ∈ F, PRv a.1.v a.1.L a.2) ∧ Par base H' p { s with told := [] } (fcl ++ l)) := by
  refine fn_wp (eq.ho 15 rfl _) q15 (by simp [A15]) ?_
  simp only [A15, SX, Opd.ev, resVal, resVals, ARes.val, Bool.false_eq_true, Bool.not_false, Bool.not_true, List.getD_cons_succ, List.getD_cons_zero, List.map_cons, List.map_nil, Nat.add_zero, Nat.zero_add, Option.map_none, Option.map_some, Option.some.injEq, and_true, decide_false, decide_true, true_and, reduceCtorEq, Nat.reduceEqDiff, ↓reduceIte, Int.reduceEq, Int.reduceLT, Int.reduceLE, Nat.reduceAdd]
  refine (next_spec eq h).mono ?_
  rintro r H1 ⟨k1, hr⟩
  obtain ⟨cur, R, rv, hcur⟩ : ∃ (cur : Option EvC) (R : List PEv), r = .tup [.agg ((cur.map (fun a => a.1.cs)).getD zeroE), .bool cur.isSome] ∧ (∀ a, cur = some a → PRv a.1.v a.1.L a.2) ∧ (cur.toList.map (fun a => a.1.pure) ++ R = s.told) ∧ (cur = Option.none → R = []) ∧ Par base H1 p { s with told := R } ((cur.map (fun a => a.2)).getD [] ++ l) := by
    rcases hr with ⟨h1, h2, h3⟩ | ⟨a, rest, h1, h2, h3, h4⟩
    · refine ⟨Option.none, [], h2, fun a h => (by cases h), by rw [h1]; rfl, fun _ => rfl, ?_⟩
      have e : ({ s with told := [] } : PSt) = s := by rw [← h1]
      rw [e]; exact h3
    · exact ⟨some a, rest, h3, fun b hb => (by cases hb; exact h2), by rw [h1]; rfl, fun h => (by cases h), h4⟩
  obtain ⟨hc1, hc2, hc3, par1⟩ := hcur
  subst rv
  obtain ⟨H2, s2, par2, k2⟩ := par1.make zeroE 6
  have one : ∀ c : Option EvC, (∀ a, c = some a → PRv a.1.v a.1.L a.2) → ((c.map (fun a => a.1.cs)).getD zeroE).all AV.one = true ∧ ((c.map (fun a => a.1.cs)).getD zeroE).length = 6 := by
    intro c hc
    cases c with
    | none => exact ⟨rfl, rfl⟩
    | some a =>
      have h1 := (hc a rfl).one
      refine ⟨?_, rfl⟩
      simp only [Option.map_some, Option.getD_some, Ev.cs, List.all_cons, List.all_nil, h1]; rfl
  obtain ⟨H3, s3, par3, k3⟩ : ∃ H3, storeE H2 6 (.ptr H1.next 0) (.agg ((cur.map (fun a => a.1.cs)).getD zeroE)) = some (.undef, H3) ∧ Par base H3 p { s with told := R } (⟨H1.next, 6, (cur.map (fun a => a.1.cs)).getD zeroE⟩ :: ((cur.map (fun a => a.2)).getD [] ++ l)) ∧ Keep base H2 H3 := by
    obtain ⟨r, hp, back⟩ := par2.open
    obtain ⟨H3, s3, g3, k3, n3⟩ := Hp.storeN (l := ((cur.map (fun a => a.2)).getD [] ++ l) ++ r) hp (n := 6) rfl (one cur hc1).2 (one cur hc1).1
    exact ⟨H3, s3, back _ _ g3, k3⟩
  simp only [ex0, ex1, hzE, run_allocL, s2, s3, SX, Opd.ev, resVal, resVals, ARes.val, Bool.false_eq_true, Bool.not_false, Bool.not_true, List.getD_cons_succ, List.getD_cons_zero, List.map_cons, List.map_nil, Nat.add_zero, Nat.zero_add, Option.map_none, Option.map_some, Option.some.injEq, and_true, decide_false, decide_true, true_and, reduceCtorEq, Nat.reduceEqDiff, ↓reduceIte, Int.reduceEq, Int.reduceLT, Int.reduceLE, Nat.reduceAdd]
  obtain ⟨I, hI⟩ : ∃ I : Nat → Env → AHeap → Prop, ∀ m e H', I m e H' ↔ (Keep base H H' ∧ ∃ (vF : AV) (F : List EvC) (fcl : List Cel) (R : List PEv) (cur : Option EvC), m = R.length + cur.toList.length ∧ TakeI base H' p H1.next s l vF F fcl R cur ∧ Env.get e 0 = .ptr p 0 ∧ Env.get e 3 = vF ∧ Env.get e 4 = .ptr H1.next 0 ∧ Env.get e 5 = .bool cur.isSome) := ⟨_, fun _ _ _ => Iff.rfl⟩
  refine loop_by I (R.length + cur.toList.length) ?_ ?_
  · refine (hI _ _ _).2 ⟨(k1.trans k2).trans k3, .nils, [], [], R, cur, rfl, ⟨.inl ⟨rfl, rfl, rfl⟩, fun a ha => by simp at ha, hc1, hc2, hc3, par3⟩, ?_⟩
    simp only [SX, Opd.ev, resVal, resVals, ARes.val, Bool.false_eq_true, Bool.not_false, Bool.not_true, List.getD_cons_succ, List.getD_cons_zero, List.map_cons, List.map_nil, Nat.add_zero, Nat.zero_add, Option.map_none, Option.map_some, Option.some.injEq, and_true, decide_false, decide_true, true_and, reduceCtorEq, Nat.reduceEqDiff, ↓reduceIte, Int.reduceEq, Int.reduceLT, Int.reduceLE, Nat.reduceAdd]
  · intro m e H4 hinv
    obtain ⟨k4, vF, F, fcl, R, cur, rfl, ti, e0, e3, e4, e5⟩ := (hI _ _ _).1 hinv
    have hFl : F.length ≤ s.told.length := by
      rw [← ti.all]; simp
    have lnF := ti.t.len H4
    have c100 : decide ((F.length : Int) < 100000) = true := by simp; omega
    cases cur with
    | none =>
      have hR := ti.hnone rfl
      subst hR
      simp only [Option.isSome_none] at e5
      simp only [e0, e3, e4, e5, SX, Opd.ev, resVal, resVals, ARes.val, Bool.false_eq_true, Bool.not_false, Bool.not_true, List.getD_cons_succ, List.getD_cons_zero, List.map_cons, List.map_nil, Nat.add_zero, Nat.zero_add, Option.map_none, Option.map_some, Option.some.injEq, and_true, decide_false, decide_true, true_and, reduceCtorEq, Nat.reduceEqDiff, ↓reduceIte, Int.reduceEq, Int.reduceLT, Int.reduceLE, Nat.reduceAdd]
      have hall := ti.all
      simp only [Option.toList_none, List.map_nil, List.append_nil] at hall
      refine ⟨k4, F, fcl, ti.t, hall, ti.ev, ?_⟩
      obtain ⟨r, hp, back⟩ := ti.par.open
      refine back _ _ (hp.sub ?_)
      simp only [List.append_assoc]
      exact List.Sublist.append (List.Sublist.refl _) ((List.sublist_cons_self ..))
    | some a =>
      simp only [Option.isSome_some] at e5
      have pa := ti.hcur a rfl
      have hpar := ti.par
      simp only [Option.map_some, Option.getD_some] at hpar
      obtain ⟨r, hp, back⟩ := hpar.open
      have la : loadV H4 (some 6) (.ptr H1.next 0) = some a.1.val := hp.loadN (b := H1.next) (k := 6) (cs := a.1.cs) (by simp) (n := 6) rfl
      obtain ⟨H5, s5, g5, k5⟩ := hp.make a.1.cs 6
      have g5' : Hp base H5 (fcl ++ (⟨H4.next, 6, a.1.cs⟩ :: ⟨H1.next, 6, a.1.cs⟩ :: (a.2 ++ (l ++ r)))) := g5.re fun x => by simp only [cnt_cons, cnt_append]; omega
      obtain ⟨b, H6, s6, g6, k6⟩ := ti.t.push g5' (src_one (a := a) g5' (List.mem_append_right _ (List.mem_cons_self ..))) (fun x hx => by simp only [List.mem_singleton] at hx; subst hx; exact pa) (by simp) (by simp; omega)
      have hbs : bs6V a.1.val = some (.row ⟨a.1.cs, 0, false, true, 0⟩, .slc 1 1) := bs6V_ev pa.one
      simp only [e0, e3, e4, e5, lnF, c100, la, hzE, run_bslice6, hbs, s5, s6, SX, Opd.ev, resVal, resVals, ARes.val, Bool.false_eq_true, Bool.not_false, Bool.not_true, List.getD_cons_succ, List.getD_cons_zero, List.map_cons, List.map_nil, Nat.add_zero, Nat.zero_add, Option.map_none, Option.map_some, Option.some.injEq, and_true, decide_false, decide_true, true_and, reduceCtorEq, Nat.reduceEqDiff, ↓reduceIte, Int.reduceEq, Int.reduceLT, Int.reduceLE, Nat.reduceAdd]
      have par6 : Par base H6 p { s with told := R } ((⟨b, 6, flatV (F ++ [a])⟩ :: flatC (F ++ [a])) ++ (⟨H1.next, 6, a.1.cs⟩ :: l)) := by
        refine back _ _ ?_
        have g7 : Hp base H6 (⟨H4.next, 6, a.1.cs⟩ :: (⟨b, 6, flatV (F ++ [a])⟩ :: flatC (F ++ [a])) ++ (⟨H1.next, 6, a.1.cs⟩ :: l) ++ r) := g6.re fun x => by
          simp only [flatC_app, flatC_one, cnt_cons, cnt_append]; omega
        exact Hp.drop g7
      refine (next_spec eq par6).mono ?_
      rintro r2 H7 ⟨k7, hr⟩
      obtain ⟨cur, R2, rv, hd1, hd2, hd3, par7⟩ : ∃ (cur : Option EvC) (R2 : List PEv), r2 = .tup [.agg ((cur.map (fun a => a.1.cs)).getD zeroE), .bool cur.isSome] ∧ (∀ a, cur = some a → PRv a.1.v a.1.L a.2) ∧ (cur.toList.map (fun a => a.1.pure) ++ R2 = R) ∧ (cur = Option.none → R2 = []) ∧ Par base H7 p { s with told := R2 } ((cur.map (fun a => a.2)).getD [] ++ ((⟨b, 6, flatV (F ++ [a])⟩ :: flatC (F ++ [a])) ++ (⟨H1.next, 6, a.1.cs⟩ :: l))) := by
        rcases hr with ⟨h1, h2, h3⟩ | ⟨a, rest, h1, h2, h3, h4⟩
        · have h1 : R = [] := h1
          subst h1
          exact ⟨Option.none, [], h2, fun a h => (by cases h), rfl, fun _ => rfl, h3⟩
        · have h1 : R = a.1.pure :: rest := h1
          exact ⟨some a, rest, h3, fun b hb => (by cases hb; exact h2), by rw [h1]; rfl, fun h => (by cases h), h4⟩
      subst rv
      obtain ⟨H8, s8, par8, k8⟩ : ∃ H8, storeE H7 6 (.ptr H1.next 0) (.agg ((cur.map (fun a => a.1.cs)).getD zeroE)) = some (.undef, H8) ∧ Par base H8 p { s with told := R2 } ((⟨b, 6, flatV (F ++ [a])⟩ :: flatC (F ++ [a])) ++ (⟨H1.next, 6, (cur.map (fun a => a.1.cs)).getD zeroE⟩ :: ((cur.map (fun a => a.2)).getD [] ++ l))) ∧ Keep base H7 H8 := by
        obtain ⟨r, hp, back⟩ := par7.open
        obtain ⟨H8, s8, g8, k8, n8⟩ := (hp.re (l' := ⟨H1.next, 6, a.1.cs⟩ :: ((⟨b, 6, flatV (F ++ [a])⟩ :: flatC (F ++ [a])) ++ (((cur.map (fun a => a.2)).getD [] ++ l) ++ r))) fun x => by simp only [cnt_cons, cnt_append]; omega).storeN (n := 6) rfl (one cur hd1).2 (one cur hd1).1
        refine ⟨H8, s8, back _ _ (g8.re fun x => ?_), k8⟩
        simp only [cnt_cons, cnt_append]; omega
      simp only [e0, e3, e4, e5, ex0, ex1, s8, SX, Opd.ev, resVal, resVals, ARes.val, Bool.false_eq_true, Bool.not_false, Bool.not_true, List.getD_cons_succ, List.getD_cons_zero, List.map_cons, List.map_nil, Nat.add_zero, Nat.zero_add, Option.map_none, Option.map_some, Option.some.injEq, and_true, decide_false, decide_true, true_and, reduceCtorEq, Nat.reduceEqDiff, ↓reduceIte, Int.reduceEq, Int.reduceLT, Int.reduceLE, Nat.reduceAdd]
      refine ⟨R2.length + cur.toList.length, ?_, (hI _ _ _).2 ⟨((((k4.trans k5).trans k6).trans k7).trans k8), .slc b 0 (F ++ [a]).length (F ++ [a]).length, F ++ [a], ⟨b, 6, flatV (F ++ [a])⟩ :: flatC (F ++ [a]), R2, cur, rfl, ⟨.inr ⟨b, [], rfl, rfl⟩, ?_, hd1, ?_, hd3, par8⟩, ?_⟩⟩
      · rw [← hd2]; simp; omega
      · intro x hx
        rcases List.mem_append.1 hx with hx | hx
        · exact ti.ev x hx
        · simp only [List.mem_singleton] at hx; subst hx; exact pa
      · have hall := ti.all
        simp only [Option.toList_some, List.map_cons, List.map_nil] at hall
        rw [← hall, ← hd2]
        simp
      · simp only [e0, e3, e4, e5, SX, Opd.ev, resVal, resVals, ARes.val, Bool.false_eq_true, Bool.not_false, Bool.not_true, List.getD_cons_succ, List.getD_cons_zero, List.map_cons, List.map_nil, Nat.add_zero, Nat.zero_add, Option.map_none, Option.map_some, Option.some.injEq, and_true, decide_false, decide_true, true_and, reduceCtorEq, Nat.reduceEqDiff, ↓reduceIte, Int.reduceEq, Int.reduceLT, Int.reduceLE, Nat.reduceAdd]
end
/-! ### What was told ahead -/
def PSt.pre (T : List PEv) (s : PSt) : PSt := { s with told := T ++ s.told }
theorem pre_endS (T : List PEv) (s : PSt) : (s.pre T).endS = s.endS.pre T := by
  unfold PSt.endS
  by_cases h : s.d.kept = 0
  · rw [if_pos h, if_pos (show (s.pre T).d.kept = 0 from h)]
  · rw [if_neg h, if_neg (show ¬ (s.pre T).d.kept = 0 from h)]
    simp [PSt.pre]
theorem pre_tell (T : List PEv) (s : PSt) (e : PEv) : (s.pre T).tell e = (s.tell e).pre T := by simp [PSt.pre, PSt.tell]
theorem pre_stopS (T : List PEv) (s : PSt) (c : UInt8) : (s.pre T).stopS c = (s.stopS c).pre T := by
  unfold PSt.stopS
  by_cases h1 : c = 24 ∨ c = 26 ∨ s.long = true
  · rw [if_pos h1, if_pos (show c = 24 ∨ c = 26 ∨ (s.pre T).long = true from h1)]
  · rw [if_neg h1, if_neg (show ¬ (c = 24 ∨ c = 26 ∨ (s.pre T).long = true) from h1)]
    by_cases h2 : s.st = 12
    · rw [if_pos h2, if_pos (show (s.pre T).st = 12 from h2), ← pre_tell]; rfl
    · rw [if_neg h2, if_neg (show ¬ (s.pre T).st = 12 from h2)]
      by_cases h3 : s.many = true
      · rw [if_pos h3, if_pos (show (s.pre T).many = true from h3)]
      · rw [if_neg h3, if_neg (show ¬ (s.pre T).many = true from h3), ← pre_tell]; rfl
theorem pre_clrS (T : List PEv) (s : PSt) : (s.pre T).clrS = s.clrS.pre T := rfl
theorem pre_overS (T : List PEv) (s : PSt) (a : Int) (c : UInt8) : (s.pre T).overS a c = (s.overS a c).pre T := by
  unfold PSt.overS
  by_cases h1 : s.many = true ∨ (a = 5 ∧ c = 92 ∧ s.mids = [])
  · rw [if_pos h1, if_pos (show (s.pre T).many = true ∨ (a = 5 ∧ c = 92 ∧ (s.pre T).mids = []) from h1)]
  · rw [if_neg h1, if_neg (show ¬ ((s.pre T).many = true ∨ (a = 5 ∧ c = 92 ∧ (s.pre T).mids = [])) from h1)]
    by_cases h2 : a = 5
    · rw [if_pos h2, if_pos h2, ← pre_tell]; rfl
    · rw [if_neg h2, if_neg h2, ← pre_tell]; rfl
theorem pre_midS (T : List PEv) (s : PSt) (c : UInt8) : (s.pre T).midS c = (s.midS c).pre T := by
  unfold PSt.midS
  by_cases h1 : s.many = true ∨ s.mids.length = 2
  · rw [if_pos h1, if_pos (show (s.pre T).many = true ∨ (s.pre T).mids.length = 2 from h1)]; rfl
  · rw [if_neg h1, if_neg (show ¬ ((s.pre T).many = true ∨ (s.pre T).mids.length = 2) from h1)]; rfl
theorem pre_putS (T : List PEv) (s : PSt) (c : UInt8) : (s.pre T).putS c = (s.putS c).pre T := by
  unfold PSt.putS
  by_cases h1 : s.long = true ∨ s.text.length = (if s.st = 12 then 1024 else 256)
  · rw [if_pos h1, if_pos (show (s.pre T).long = true ∨ (s.pre T).text.length = (if (s.pre T).st = 12 then 1024 else 256) from h1)]; rfl
  · rw [if_neg h1, if_neg (show ¬ ((s.pre T).long = true ∨ (s.pre T).text.length = (if (s.pre T).st = 12 then 1024 else 256)) from h1)]; rfl
theorem pre_prints (T : List PEv) (s : PSt) (xs : List Int) : (s.pre T).prints xs = (s.prints xs).pre T := by simp [PSt.pre, PSt.prints]
theorem pre_doesS (T : List PEv) (s : PSt) (a : Int) (c : UInt8) : (s.pre T).doesS a c = (s.doesS a c).pre T := by
  unfold PSt.doesS
  by_cases h1 : a = 1
  · rw [if_pos h1, if_pos h1, ← pre_prints]; rfl
  rw [if_neg h1, if_neg h1]
  by_cases h2 : a = 2
  · rw [if_pos h2, if_pos h2, pre_tell]
  rw [if_neg h2, if_neg h2]
  by_cases h3 : a = 3
  · rw [if_pos h3, if_pos h3, pre_midS]
  rw [if_neg h3, if_neg h3]
  by_cases h4 : a = 4
  · rw [if_pos h4, if_pos h4]; rfl
  rw [if_neg h4, if_neg h4]
  by_cases h5 : a = 5
  · rw [if_pos h5, if_pos h5, pre_overS]
  rw [if_neg h5, if_neg h5]
  by_cases h6 : a = 6
  · rw [if_pos h6, if_pos h6, pre_overS]
  rw [if_neg h6, if_neg h6]
  by_cases h7 : a = 7
  · rw [if_pos h7, if_pos h7]; rfl
  rw [if_neg h7, if_neg h7]
  by_cases h8 : a = 8
  · rw [if_pos h8, if_pos h8, pre_putS]
  · rw [if_neg h8, if_neg h8]
theorem pre_step (T : List PEv) (s : PSt) (c : UInt8) : (s.pre T).step c = (s.step c).pre T := by
  have e1 : (s.pre T).step1 c = (s.step1 c).pre T := by
    unfold PSt.step1
    by_cases h : (nx s.st c.toNat).1 ≠ 1
    · rw [if_pos h, if_pos (show (nx (s.pre T).st c.toNat).1 ≠ 1 from h), pre_endS]
    · rw [if_neg h, if_neg (show ¬ (nx (s.pre T).st c.toNat).1 ≠ 1 from h)]
  have e2 : ∀ (s : PSt) n, (s.pre T).step2 n c = (s.step2 n c).pre T := by
    intro s n
    unfold PSt.step2
    by_cases h : n ≠ s.st ∧ (s.st = 10 ∨ s.st = 12)
    · rw [if_pos h, if_pos (show n ≠ (s.pre T).st ∧ ((s.pre T).st = 10 ∨ (s.pre T).st = 12) from h), pre_stopS]
    · rw [if_neg h, if_neg (show ¬ (n ≠ (s.pre T).st ∧ ((s.pre T).st = 10 ∨ (s.pre T).st = 12)) from h)]
  have e3 : ∀ (s : PSt) n, (s.pre T).step3 n = (s.step3 n).pre T := by
    intro s n
    unfold PSt.step3
    by_cases h : n ≠ s.st ∧ (n = 1 ∨ n = 3 ∨ n = 7 ∨ n = 12)
    · rw [if_pos h, if_pos (show n ≠ (s.pre T).st ∧ (n = 1 ∨ n = 3 ∨ n = 7 ∨ n = 12) from h), pre_clrS]
    · rw [if_neg h, if_neg (show ¬ (n ≠ (s.pre T).st ∧ (n = 1 ∨ n = 3 ∨ n = 7 ∨ n = 12)) from h)]
  unfold PSt.step
  have hst : (s.pre T).st = s.st := rfl
  rw [hst, e1, e2, e3, pre_doesS]
  rfl
theorem pre_feed (T : List PEv) : ∀ (t : List UInt8) (s : PSt), (s.pre T).feed t = (s.feed t).pre T
  | [], s => rfl
  | c :: t, s => by
    show ((s.pre T).step c).feed t = ((s.step c).feed t).pre T
    rw [pre_step, pre_feed T t]
theorem feed_app (s : PSt) (a b : List UInt8) : s.feed (a ++ b) = (s.feed a).feed b := by simp [PSt.feed]
/-! ### Events are small -/
theorem ToldOk.tell {s : PSt} (h : ToldOk s) {e : PEv} (he : EOk e) : ToldOk (s.tell e) := fun x hx => by
  rcases List.mem_append.1 hx with hx | hx
  · exact h x hx
  · simp only [List.mem_singleton] at hx; subst hx; exact he
theorem ok_nil {k r f : Int} {m t : List UInt8} : EOk ⟨k, r, f, m, [], t⟩ := ⟨by simp, fun x hx => by simp at hx⟩
theorem ok_ps {s : PS} (h : s.Good) {k r f : Int} {m t : List UInt8} : EOk ⟨k, r, f, m, s.L, t⟩ := ⟨h.len, fun x hx => (h.el x hx).2.1⟩
theorem ToldOk.endS {s : PSt} (h : ToldOk s) : ToldOk s.endS := by
  unfold PSt.endS
  split
  · exact h
  · exact ToldOk.tell (s := s) h ok_nil
theorem ToldOk.stopS {s : PSt} (hg : s.Good) (h : ToldOk s) (c : UInt8) : ToldOk (s.stopS c) := by
  unfold PSt.stopS
  split
  · exact h
  · split
    · exact h.tell ok_nil
    · split
      · exact h
      · exact h.tell (ok_ps hg.ps)
theorem ToldOk.overS {s : PSt} (hg : s.Good) (h : ToldOk s) (a : Int) (c : UInt8) : ToldOk (s.overS a c) := by
  unfold PSt.overS
  split
  · exact h
  · split
    · exact h.tell ok_nil
    · exact h.tell (ok_ps hg.ps)
theorem ToldOk.prints {s : PSt} (h : ToldOk s) (xs : List Int) : ToldOk (s.prints xs) := fun x hx => by
  rcases List.mem_append.1 hx with hx | hx
  · exact h x hx
  · obtain ⟨r, _, rfl⟩ := List.mem_map.1 hx
    exact ok_nil
theorem ToldOk.doesS {s : PSt} (hg : s.Good) (h : ToldOk s) (a : Int) (c : UInt8) : ToldOk (s.doesS a c) := by
  unfold PSt.doesS
  split
  · exact ToldOk.prints (s := { s with d := _ }) h _
  · split
    · exact h.tell ok_nil
    · split
      · unfold PSt.midS; split <;> exact h
      · split
        · exact h
        · split
          · exact ToldOk.overS hg h _ _
          · split
            · exact ToldOk.overS hg h _ _
            · split
              · exact h
              · split
                · have : s.putS c = { s with long := true } ∨ s.putS c = { s with text := s.text ++ [c] } := by
                    unfold PSt.putS
                    by_cases hh : s.long = true ∨ s.text.length = (if s.st = 12 then 1024 else 256)
                    · exact .inl (if_pos hh)
                    · exact .inr (if_neg hh)
                  rcases this with e | e <;> rw [e] <;> exact h
                · exact h
theorem ToldOk.step {s : PSt} (hg : s.Good) (h : ToldOk s) (c : UInt8) : ToldOk (s.step c) := by
  obtain ⟨g1, _⟩ := Good.step1 hg c
  obtain ⟨g2, _⟩ := Good.step2 g1 (nx s.st c.toNat).2 c
  obtain ⟨g3, _⟩ := Good.step3 g2 (nx s.st c.toNat).2
  have t1 : ToldOk (s.step1 c) := by
    unfold PSt.step1; split
    · exact h.endS
    · exact h
  have t2 : ToldOk ((s.step1 c).step2 (nx s.st c.toNat).2 c) := by
    unfold PSt.step2; split
    · exact ToldOk.stopS g1 t1 c
    · exact t1
  have t3 : ToldOk (((s.step1 c).step2 (nx s.st c.toNat).2 c).step3 (nx s.st c.toNat).2) := by
    unfold PSt.step3; split
    · exact t2
    · exact t2
  exact ToldOk.doesS g3 t3 _ c
theorem ToldOk.feed : ∀ {t : List UInt8} {s : PSt}, s.Good → ToldOk s → ToldOk (s.feed t)
  | [], s, _, h => h
  | c :: t, s, hg, h => ToldOk.feed (t := t) (Good.step hg c).1 (h.step hg c)
theorem new_ok : ToldOk PSt.new := fun e he => by simp [PSt.new] at he
/-! ### A parser's blocks -/
def ParC (p : Nat) (s : PSt) (cs : List Cel) : Prop := ∃ c : PC, c.ok s ∧ cs = ⟨p, 1, pcs s c.lv c.xv c.tv⟩ :: (c.lcl ++ (c.xcl ++ c.tcl))
theorem Par.get {base : Nat} {H : AHeap} {p : Nat} {s : PSt} {l : List Cel} (h : Par base H p s l) : ∃ cs, ParC p s cs ∧ Hp base H (cs ++ l) := by
  obtain ⟨c, ok, hp⟩ := h
  exact ⟨_, ⟨c, ok, rfl⟩, hp.re fun a => by simp only [PC.rest, cnt_cons, cnt_append]; omega⟩
theorem ParC.par {base : Nat} {H : AHeap} {p : Nat} {s : PSt} {cs l : List Cel} (h : ParC p s cs) (hp : Hp base H (cs ++ l)) : Par base H p s l := by
  obtain ⟨c, ok, rfl⟩ := h
  exact ⟨c, ok, hp.re fun a => by simp only [PC.rest, cnt_cons, cnt_append]; omega⟩
theorem TRv.src {base : Nat} {H : AHeap} {w : AV} {F : List EvC} {cl l : List Cel} (h : TRv w F cl) (hp : Hp base H l) (hsub : ∀ x ∈ cl, x ∈ l) : srcCells H 6 w = some (F.length, flatV F) := by
  rcases h with ⟨rfl, rfl, _⟩ | ⟨b, pre, rfl, rfl⟩
  · rfl
  · by_cases h0 : F.length = 0
    · have : F = [] := List.eq_nil_of_length_eq_zero h0
      subst this
      rfl
    · exact hp.src (k' := 6) (pre := pre) (post := []) (ys := flatV F) (by rw [List.append_nil]; exact hsub _ (List.mem_cons_self ..)) rfl (flatV_len F) (by omega)
/-- all events of a list behind those of another one -/
theorem TRv.pushAll {base : Nat} {H : AHeap} {v w : AV} {E F : List EvC} {c1 c2 l : List Cel} (h : TRv v E c1) (hw : TRv w F c2) (hp : Hp base H (c1 ++ (c2 ++ l))) (hF : ∀ a ∈ F, PRv a.1.v a.1.L a.2) (hs : E.length + F.length ≤ 10000000) :
    ∃ v' H' cl, appendE H 6 72 v w = some (v', H') ∧ TRv v' (E ++ F) cl ∧ Hp base H' (cl ++ l) ∧ Keep base H H' := by
  have hsrc := hw.src hp (fun x hx => List.mem_append_right _ (List.mem_append_left _ hx))
  by_cases h0 : F.length = 0
  · have hF0 : F = [] := List.eq_nil_of_length_eq_zero h0
    subst hF0
    refine ⟨v, H, c1, ?_, by rw [List.append_nil]; exact h, hp.sub (List.Sublist.append (List.Sublist.refl _) (List.sublist_append_right _ _)), Keep.refl _ _⟩
    have hs0 : srcCells H 6 w = some (0, []) := hsrc
    simp only [appendE, EOp.run, Opd.ev, hs0]
    rcases h with ⟨_, rfl, _⟩ | ⟨b, pre, rfl, _⟩ <;> simp [appendA]
  · obtain ⟨b, H', s, g, k⟩ := h.push hp hsrc hF (by omega) hs
    refine ⟨_, H', ⟨b, 6, flatV (E ++ F)⟩ :: flatC (E ++ F), s, .inr ⟨b, [], rfl, rfl⟩, ?_, k⟩
    rcases hw with ⟨h1, _, _⟩ | ⟨b2, pre, rfl, rfl⟩
    · rw [h1] at h0; simp at h0
    · have g' : Hp base H' (⟨b2, 6, pre ++ flatV F⟩ :: (⟨b, 6, flatV (E ++ F)⟩ :: flatC (E ++ F) ++ l)) := g.re fun x => by
        simp only [flatC_app, cnt_cons, cnt_append]; omega
      exact g'.drop

end Go.Proofs.Yteockjhckmlclaa.AM
