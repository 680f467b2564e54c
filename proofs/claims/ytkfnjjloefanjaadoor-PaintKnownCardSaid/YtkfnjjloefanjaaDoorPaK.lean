/-
  PaintKnown: all ahead of the great frame run by the machine, the great frame walked.
-/
import Derived.Test.YtkfnjjloefanjaaDoorPaC
import Derived.Test.YtkfnjjloefanjaaDoorAmFuel
import Derived.Test.YtkfnjjloefanjaaDoorDoorB
import Derived.Test.YtkfnjjloefanjaaDoorTab
set_option linter.unusedVariables false
set_option linter.unusedSimpArgs false
namespace Go.Proofs.YtkfnjjloefanjaaDoor.AM
open Go Go.RowKit
/-! ### Frames of plain blanks may be -/
theorem okC_blank (p : Ce) : okC p blankC = true := by
  have h1 : ofP 32 = 1 := by decide +kernel
  have h2 : attrP blankC = true := by decide +kernel
  have h3 : validP 32 = true := by decide +kernel
  unfold okC
  rw [if_neg (by simp [blankC]), h2]
  show (true && (validP 32 && decide (ofP 32 = if (0 : Int) = 1 then 2 else 1))) = true
  rw [h3, h1]; rfl
theorem whole_zeros (n : Nat) : wholeP (List.replicate n 0) = true := by
  induction n with
  | zero => rfl
  | succ n ih => rw [List.replicate_succ, wholeP_cons, if_pos rfl]; exact ih
theorem right_blank (n : Nat) : rightP (List.replicate n blankC) = true := by
  unfold rightP
  have : ws (List.replicate n blankC) = List.replicate n 0 := by simp [ws, blankC]
  rw [this, whole_zeros, Bool.true_and, all_range]
  intro i hi
  unfold okF
  rw [List.getElem?_replicate]
  split
  · rename_i c hc
    split at hc
    · obtain rfl := Option.some.inj hc; exact okC_blank _
    · cases hc
  · rfl
theorem line_blank (n w y : Nat) : ∃ m, lineP (List.replicate n blankC) w y = List.replicate m blankC := ⟨_, by unfold lineP; rw [List.take_replicate, List.drop_replicate]⟩
theorem rightM_blank {w h : Int} (hs : sizeP w h = true) : rightM w h 0 0 (List.replicate (w.toNat * h.toNat) blankC) = true := by
  obtain ⟨w0, w4, h0, h4⟩ := sizeP_true hs
  unfold rightM
  have e1 : decide (((List.replicate (w.toNat * h.toNat) blankC).length : Int) = w * h) = true := by
    rw [List.length_replicate, Int.natCast_mul, Int.toNat_of_nonneg (by omega), Int.toNat_of_nonneg (by omega)]
    exact decide_eq_true rfl
  have e2 : inP w h 0 0 = true := by
    unfold inP
    rw [decide_eq_true (show (0 : Int) < w by omega), decide_eq_true (show (0 : Int) < h by omega)]; rfl
  have e3 : linesP w.toNat h.toNat (List.replicate (w.toNat * h.toNat) blankC) = true := by
    refine (all_range _ _).2 fun j hj => ?_
    obtain ⟨m, hm⟩ := line_blank (w.toNat * h.toNat) w.toNat j
    rw [hm]; exact right_blank m
  rw [hs, e1, e2, e3]; rfl
/-! ### A tree's numbers -/
def T.bd {α : Type} : T α → Nat → Bool
  | .nil, _ => true
  | .node l v r, n => (v.isNone || decide (0 < n)) && (T.bd l (n / 2) && T.bd r ((n - 1) / 2))
theorem T.bd_none {α : Type} : ∀ {t : T α} {n : Nat}, T.bd t n = true → ∀ k, n ≤ k → T.get t k = none
  | .nil, n, _, k, _ => rfl
  | .node l v r, n, h, k, hk => by
    simp only [T.bd, Bool.and_eq_true, Bool.or_eq_true, decide_eq_true_eq] at h
    obtain ⟨h1, h2, h3⟩ := h
    unfold T.get
    cases hz : Nat.beq k 0 with
    | true =>
      have : k = 0 := Nat.eq_of_beq_eq_true hz
      simp only [cond_true]
      rcases h1 with h1 | h1
      · exact Option.isNone_iff_eq_none.1 h1
      · omega
    | false =>
      have hk0 : k ≠ 0 := fun e => by subst e; cases hz
      simp only [cond_false]
      cases ho : Nat.beq (k % 2) 1 with
      | true =>
        have : k % 2 = 1 := Nat.eq_of_beq_eq_true ho
        simp only [cond_true]
        exact T.bd_none h2 _ (by omega)
      | false =>
        have : k % 2 ≠ 1 := fun e => by rw [e] at ho; cases ho
        simp only [cond_false]
        exact T.bd_none h3 _ (by omega)
/-! ### The law -/
def opsOf : ACode → List AOper
  | .ops l => l
  | _ => []
def chopC : Nat → ACode → ACode
  | 0, .seq a _ => a
  | n + 1, .seq a b => .seq a (chopC n b)
  | _, c => c
theorem tgK : ∀ t ∈ TT, t.g ∈ [0, 1, 999999, 1000059, 1000060, 1000061] ∧ t.g < 999999 := by decide
theorem hgK : ∀ g ∈ [0, 1, 999999, 1000059, 1000060, 1000061], g < 999999 → g ∈ TT.map (·.g) := by decide
set_option maxRecDepth 100000 in
theorem wakes6 : isTrue (Fast.call (QL TT tblL (fun _ _ => none)) 300 (.fn 6) [] (tabH 2 TT)) = true := by kernel_rfl
theorem closed6 : OrcOK Tryd.prog TT 6 [] (.bool true) := by
  have r := wakes6
  rw [Fast.call_eq] at r
  obtain ⟨H', h⟩ := isTrue_some r
  exact orc_of_run (N := 2) mix tok hgK (okL tgK tblL_ok (fun _ _ _ h => by cases h)) rfl rfl h
noncomputable def QK : Prog := QL TT tblL (one 6 [] (.bool true))
theorem noK (f : FuncId) (h : Nat.beq f 6 = false) (a : List AV) : QK.orc f a = none := by
  show (bif Nat.beq f 6 && sameArgs a [] then some (AV.bool true) else none) = none
  rw [h]; rfl
theorem pqK : PaQ QK := ⟨by kernel_rfl, by kernel_rfl, by kernel_rfl, by kernel_rfl, by kernel_rfl, by kernel_rfl, by kernel_rfl, by kernel_rfl, by kernel_rfl, by kernel_rfl, by kernel_rfl, by kernel_rfl, by kernel_rfl, noK⟩
def chk (r : Out) : Bool := match r with
  | some (.normal, e, H) => AV.same1 (Env.get e 135) (.bool true) && (T.bd H.tr H.next && hasTabs H TT)
  | _ => false
theorem chk_some {r : Out} (h : chk r = true) : ∃ e H, r = some (.normal, e, H) ∧ Env.get e 135 = .bool true ∧ Fr H ∧ hasTabs H TT = true := by
  unfold chk at h
  split at h
  · rename_i e H
    simp only [Bool.and_eq_true] at h
    exact ⟨e, H, rfl, same1_eq h.1, fun b hb => T.bd_none h.2.1 b hb, h.2.2⟩
  · cases h
set_option maxRecDepth 100000 in
set_option maxHeartbeats 4000000 in
theorem headK : chk (Fast.runC (Fast.call QK 400) 400 (appC (chopC 14 A5.body) (.ops ((opsOf A5_eo).take 14))) .nil (tabH 2 TT)) = true := by kernel_rfl
theorem bodyK : A5.body = appC (chopC 14 A5.body) (.seq (.ops ((opsOf A5_eo).take 14 ++ (opsOf A5_eo).drop 14)) .ret) := by kernel_rfl
set_option maxHeartbeats 4000000 in
theorem knownK : FnTo QK 5 [] (tabH 2 TT) (fun r _ => r = .bool true) := by
  have h0 := headK
  rw [Fast.runC_eq, Fast.call_eq] at h0
  obtain ⟨e, H, hr, e135, hf, ht⟩ := chk_some h0
  refine fn_two (noK 5 rfl _) (F := A5) (by kernel_rfl) (by simp) bodyK hr ?_
  have hres : A5.res = [.t 0] := rfl
  simp only [hres, A5_eo, opsOf, List.drop_succ_cons, List.drop_zero, e135, wantV_undef, SX, Opd.ev, resVal, resVals, ARes.val, Bool.false_eq_true, Bool.not_false, Bool.not_true, List.getD_cons_succ, List.getD_cons_zero, List.map_cons, List.map_nil, Nat.add_zero, Nat.zero_add, Option.map_none, Option.map_some, Option.some.injEq, and_true, decide_false, decide_true, true_and, reduceCtorEq, Nat.reduceEqDiff, ↓reduceIte, Int.reduceEq, Int.reduceLT, Int.reduceLE, Nat.reduceAdd]
  refine (Blank_spec pqK hf 400 1).mono ?_
  rintro _ H1 ⟨k1, hb⟩
  have s1 : sizeP 400 1 = true := by decide
  rcases hb with ⟨hb, _⟩ | ⟨_, b, rfl, g1⟩
  · rw [s1] at hb; cases hb
  have gr1 := g1.gr k1
  have rs := g1.rowS (cap := ((400 : Int).toNat * (1 : Int).toNat)) (List.mem_cons_self ..) (by rw [List.length_replicate]; exact Nat.le_refl _)
  rw [List.length_replicate] at rs
  have rb := rightM_blank s1
  simp only [e135, SX, Opd.ev, resVal, resVals, ARes.val, Bool.false_eq_true, Bool.not_false, Bool.not_true, List.getD_cons_succ, List.getD_cons_zero, List.map_cons, List.map_nil, Nat.add_zero, Nat.zero_add, Option.map_none, Option.map_some, Option.some.injEq, and_true, decide_false, decide_true, true_and, reduceCtorEq, Nat.reduceEqDiff, ↓reduceIte, Int.reduceEq, Int.reduceLT, Int.reduceLE, Nat.reduceAdd]
  refine (Right_spec pqK (gr1.tabs hf ht) g1.fr rs).mono ?_
  rintro _ H2 ⟨rfl, g2⟩
  rw [rb]
  simp only [e135, SX, Opd.ev, resVal, resVals, ARes.val, Bool.false_eq_true, Bool.not_false, Bool.not_true, List.getD_cons_succ, List.getD_cons_zero, List.map_cons, List.map_nil, Nat.add_zero, Nat.zero_add, Option.map_none, Option.map_some, Option.some.injEq, and_true, decide_false, decide_true, true_and, reduceCtorEq, Nat.reduceEqDiff, ↓reduceIte, Int.reduceEq, Int.reduceLT, Int.reduceLE, Nat.reduceAdd]
  refine (Blank_spec pqK g2.fr 401 1).mono ?_
  rintro _ H3 ⟨k3, hb⟩
  have s2 : sizeP 401 1 = false := by decide
  rcases hb with ⟨_, rfl, g3⟩ | ⟨hb, _⟩
  · have gr3 := g3.gr k3
    have rb2 : rightM 0 0 0 0 [] = false := by decide +kernel
    simp only [e135, SX, Opd.ev, resVal, resVals, ARes.val, Bool.false_eq_true, Bool.not_false, Bool.not_true, List.getD_cons_succ, List.getD_cons_zero, List.map_cons, List.map_nil, Nat.add_zero, Nat.zero_add, Option.map_none, Option.map_some, Option.some.injEq, and_true, decide_false, decide_true, true_and, reduceCtorEq, Nat.reduceEqDiff, ↓reduceIte, Int.reduceEq, Int.reduceLT, Int.reduceLE, Nat.reduceAdd]
    refine (Right_spec pqK ((gr1.trans (g2.trans gr3)).tabs hf ht) g3.fr (l := []) (.inl ⟨rfl, rfl⟩)).mono ?_
    rintro _ H4 ⟨rfl, g4⟩
    rw [rb2]
    simp only [e135, SX, Opd.ev, resVal, resVals, ARes.val, Bool.false_eq_true, Bool.not_false, Bool.not_true, List.getD_cons_succ, List.getD_cons_zero, List.map_cons, List.map_nil, Nat.add_zero, Nat.zero_add, Option.map_none, Option.map_some, Option.some.injEq, and_true, decide_false, decide_true, true_and, reduceCtorEq, Nat.reduceEqDiff, ↓reduceIte, Int.reduceEq, Int.reduceLT, Int.reduceLE, Nat.reduceAdd]
    refine fn_orc (v := .bool true) rfl ((gr1.trans (g2.trans (gr3.trans g4))).tabs hf ht) ?_
    simp only [SX, Opd.ev, resVal, resVals, ARes.val, Bool.false_eq_true, Bool.not_false, Bool.not_true, List.getD_cons_succ, List.getD_cons_zero, List.map_cons, List.map_nil, Nat.add_zero, Nat.zero_add, Option.map_none, Option.map_some, Option.some.injEq, and_true, decide_false, decide_true, true_and, reduceCtorEq, Nat.reduceEqDiff, ↓reduceIte, Int.reduceEq, Int.reduceLT, Int.reduceLE, Nat.reduceAdd]
  · rw [s2] at hb; cases hb
end Go.Proofs.YtkfnjjloefanjaaDoor.AM
