/-
  EventsCancel: behind 18 a parser is as a new one; the law's walk on the abstract machine.
-/
import Derived.Test.YteockjhckmlclaaEvC
set_option linter.unusedVariables false
set_option linter.unusedSimpArgs false
namespace Go.Proofs.Yteockjhckmlclaa.AM
open Go
/-! ### What the states do -/
structure NxF (st a n : Int) : Prop where
  ten : n = 10 → st = 10 ∨ ((st = 7 ∨ st = 8 ∨ st = 9) ∧ a = 7)
  mid : (n = 8 ∨ n = 9) → st = 7 ∨ st = 8 ∨ st = 9
  put : a = 8 → n = st ∧ (st = 10 ∨ st = 12)
  grd : st = 0 → (n = 0 ∧ (a = 0 ∨ a = 1 ∨ a = 2)) ∨ n = 1
  act : 0 ≤ a ∧ a ≤ 8
theorem nxF_mk {st a n x y : Int} (hx : x = a) (hy : y = n) (h : (a = 2 ∧ n = 0) ∨ (a = 0 ∧ n = 1)) : NxF st x y := by
  subst hx hy
  constructor <;> omega
theorem nxF_escape (c : Int) : NxF 1 (nEscape c).1 (nEscape c).2 := by
  have : ((nEscape c).1 = 2 ∨ (nEscape c).1 = 3 ∨ (nEscape c).1 = 0 ∨ (nEscape c).1 = 5) ∧ ((nEscape c).2 = 1 ∨ (nEscape c).2 = 2 ∨ (nEscape c).2 = 7 ∨ (nEscape c).2 = 3 ∨ (nEscape c).2 = 12 ∨ (nEscape c).2 = 13 ∨ (nEscape c).2 = 0) := by
    unfold nEscape
    (repeat' split) <;> simp
  constructor <;> omega
theorem nxF_inter (c : Int) : NxF 2 (nInter c).1 (nInter c).2 := by
  have : ((nInter c).1 = 2 ∨ (nInter c).1 = 3 ∨ (nInter c).1 = 0 ∨ (nInter c).1 = 5) ∧ ((nInter c).2 = 2 ∨ (nInter c).2 = 0) := by
    unfold nInter
    (repeat' split) <;> simp
  constructor <;> omega
theorem nxF_let (c : Int) : NxF 6 (nLet c).1 (nLet c).2 := by
  have : ((nLet c).1 = 2 ∨ (nLet c).1 = 0) ∧ ((nLet c).2 = 6 ∨ (nLet c).2 = 0) := by
    unfold nLet
    (repeat' split) <;> simp
  constructor <;> omega
theorem nxF_ground (c : Int) {st : Int} : NxF st (nGround c).1 (nGround c).2 := by
  have : ((nGround c).1 = 2 ∨ (nGround c).1 = 0 ∨ (nGround c).1 = 1) ∧ (nGround c).2 = 0 := by
    unfold nGround
    (repeat' split) <;> simp
  constructor <;> omega
theorem nxF_text (c : Int) {st : Int} (h : st = 10 ∨ st = 11 ∨ st = 12 ∨ st = 13) : NxF st (nText st c).1 (nText st c).2 := by
  have : ((nText st c).1 = 0 ∧ ((nText st c).2 = st ∨ (nText st c).2 = 0)) ∨ ((nText st c).1 = 8 ∧ (nText st c).2 = st ∧ (st = 10 ∨ st = 12)) := by
    unfold nText
    (repeat' split) <;> simp <;> omega
  constructor <;> omega
theorem nxF_csi (c : Int) {st : Int} (h : st = 3 ∨ st = 4 ∨ st = 5) : NxF st (nSeq c st 5 4 6 6).1 (nSeq c st 5 4 6 6).2 := by
  have : ((nSeq c st 5 4 6 6).1 = 2 ∨ (nSeq c st 5 4 6 6).1 = 0 ∨ (nSeq c st 5 4 6 6).1 = 3 ∨ (nSeq c st 5 4 6 6).1 = 4 ∨ (nSeq c st 5 4 6 6).1 = 6) ∧ ((nSeq c st 5 4 6 6).2 = st ∨ (nSeq c st 5 4 6 6).2 = 5 ∨ (nSeq c st 5 4 6 6).2 = 4 ∨ (nSeq c st 5 4 6 6).2 = 6 ∨ (nSeq c st 5 4 6 6).2 = 0) := by
    unfold nSeq
    simp only [if_true]
    (repeat' split) <;> simp
  constructor <;> omega
theorem nxF_dcs (c : Int) {st : Int} (h : st = 7 ∨ st = 8 ∨ st = 9) : NxF st (nSeq c st 9 8 11 7).1 (nSeq c st 9 8 11 7).2 := by
  have : (((nSeq c st 9 8 11 7).1 = 0 ∨ (nSeq c st 9 8 11 7).1 = 3 ∨ (nSeq c st 9 8 11 7).1 = 4) ∧ ((nSeq c st 9 8 11 7).2 = st ∨ (nSeq c st 9 8 11 7).2 = 9 ∨ (nSeq c st 9 8 11 7).2 = 8 ∨ (nSeq c st 9 8 11 7).2 = 11)) ∨ ((nSeq c st 9 8 11 7).1 = 7 ∧ (nSeq c st 9 8 11 7).2 = 10) := by
    unfold nSeq
    rw [if_neg (show ¬ (7 : Int) = 6 by omega), if_neg (show ¬ (7 : Int) = 6 by omega)]
    (repeat' split) <;> simp
  constructor <;> omega
theorem nxF {st : Int} (c : Int) (h : 0 ≤ st ∧ st ≤ 13) : NxF st (nx st c).1 (nx st c).2 := by
  unfold nx
  by_cases c1 : c = 24
  · rw [if_pos c1]; exact nxF_mk rfl rfl (by omega)
  rw [if_neg c1]
  by_cases c2 : c = 26
  · rw [if_pos c2]; exact nxF_mk rfl rfl (by omega)
  rw [if_neg c2]
  by_cases c3 : c = 27
  · rw [if_pos c3]; exact nxF_mk rfl rfl (by omega)
  rw [if_neg c3]
  by_cases s1 : st = 1
  · rw [if_pos s1, s1]; exact nxF_escape c
  rw [if_neg s1]
  by_cases s2 : st = 2
  · rw [if_pos s2, s2]; exact nxF_inter c
  rw [if_neg s2]
  by_cases s3 : st = 3 ∨ st = 4 ∨ st = 5
  · rw [if_pos s3]; exact nxF_csi c s3
  rw [if_neg s3]
  by_cases s4 : st = 6
  · rw [if_pos s4, s4]; exact nxF_let c
  rw [if_neg s4]
  by_cases s5 : st = 7 ∨ st = 8 ∨ st = 9
  · rw [if_pos s5]; exact nxF_dcs c s5
  rw [if_neg s5]
  by_cases s6 : st = 10 ∨ st = 11 ∨ st = 12 ∨ st = 13
  · rw [if_pos s6]; exact nxF_text c s6
  rw [if_neg s6]
  exact nxF_ground c
/-! ### Parsers that tell the same from now on -/
structure Eqv (X Y : PSt) : Prop where
  st : X.st = Y.st
  d : X.d = Y.d
  told : X.told = Y.told
  rest : X.st ≠ 0 → X.ps = Y.ps ∧ X.mids = Y.mids ∧ X.many = Y.many ∧ X.text = Y.text ∧ X.long = Y.long
  fin : X.st = 10 → X.fin = Y.fin
/-- all but the last byte of a string's beginning -/
structure Eq1 (X Y : PSt) : Prop where
  st : X.st = Y.st
  d : X.d = Y.d
  told : X.told = Y.told
  ps : X.ps = Y.ps
  mids : X.mids = Y.mids
  many : X.many = Y.many
  text : X.text = Y.text
  long : X.long = Y.long
theorem Eq1.eq {X Y : PSt} (h : Eq1 X Y) : Y = { X with fin := Y.fin } := by
  obtain ⟨h1, h2, h3, h4, h5, h6, h7, h8⟩ := h
  cases X; cases Y
  simp only at *
  subst h1 h2 h3 h4 h5 h6 h7 h8
  rfl
theorem Eqv.one {X Y : PSt} (h : Eqv X Y) (h0 : X.st ≠ 0) : Eq1 X Y := by
  obtain ⟨r1, r2, r3, r4, r5⟩ := h.rest h0
  exact ⟨h.st, h.d, h.told, r1, r2, r3, r4, r5⟩
theorem endS_fin (X : PSt) (f : Int) : ({ X with fin := f } : PSt).endS = { X.endS with fin := f } := by
  unfold PSt.endS
  by_cases h : X.d.kept = 0
  · rw [if_pos h, if_pos (show ({ X with fin := f } : PSt).d.kept = 0 from h)]
  · rw [if_neg h, if_neg (show ¬ ({ X with fin := f } : PSt).d.kept = 0 from h)]
theorem stopS_fin (X : PSt) (f : Int) (c : UInt8) (h : X.st ≠ 10) (h2 : X.st = 12) : ({ X with fin := f } : PSt).stopS c = { X.stopS c with fin := f } := by
  unfold PSt.stopS
  by_cases h1 : c = 24 ∨ c = 26 ∨ X.long = true
  · rw [if_pos h1, if_pos (show c = 24 ∨ c = 26 ∨ ({ X with fin := f } : PSt).long = true from h1)]
  · rw [if_neg h1, if_neg (show ¬ (c = 24 ∨ c = 26 ∨ ({ X with fin := f } : PSt).long = true) from h1), if_pos h2, if_pos (show ({ X with fin := f } : PSt).st = 12 from h2)]
    rfl
theorem overS_fin (X : PSt) (f a : Int) (c : UInt8) : ({ X with fin := f } : PSt).overS a c = { X.overS a c with fin := f } := by
  unfold PSt.overS
  by_cases h1 : X.many = true ∨ (a = 5 ∧ c = 92 ∧ X.mids = [])
  · rw [if_pos h1, if_pos (show ({ X with fin := f } : PSt).many = true ∨ (a = 5 ∧ c = 92 ∧ ({ X with fin := f } : PSt).mids = []) from h1)]
  · rw [if_neg h1, if_neg (show ¬ (({ X with fin := f } : PSt).many = true ∨ (a = 5 ∧ c = 92 ∧ ({ X with fin := f } : PSt).mids = [])) from h1)]
    by_cases h2 : a = 5
    · rw [if_pos h2, if_pos h2]; rfl
    · rw [if_neg h2, if_neg h2]; rfl
theorem doesS_fin (X : PSt) (f a : Int) (c : UInt8) : ({ X with fin := f } : PSt).doesS a c = { X.doesS a c with fin := if a = 7 then (c.toNat : Int) else f } := by
  by_cases h7 : a = 7
  · subst h7
    unfold PSt.doesS
    simp only [Int.reduceEq, if_false, if_true]
  have hf : (if a = 7 then (c.toNat : Int) else f) = f := if_neg h7
  rw [hf]
  unfold PSt.doesS
  by_cases h1 : a = 1
  · rw [if_pos h1, if_pos h1]; rfl
  rw [if_neg h1, if_neg h1]
  by_cases h2 : a = 2
  · rw [if_pos h2, if_pos h2]; rfl
  rw [if_neg h2, if_neg h2]
  by_cases h3 : a = 3
  · rw [if_pos h3, if_pos h3]
    unfold PSt.midS
    by_cases hh : X.many = true ∨ X.mids.length = 2
    · rw [if_pos hh, if_pos (show ({ X with fin := f } : PSt).many = true ∨ ({ X with fin := f } : PSt).mids.length = 2 from hh)]
    · rw [if_neg hh, if_neg (show ¬ (({ X with fin := f } : PSt).many = true ∨ ({ X with fin := f } : PSt).mids.length = 2) from hh)]
  rw [if_neg h3, if_neg h3]
  by_cases h4 : a = 4
  · rw [if_pos h4, if_pos h4]
  rw [if_neg h4, if_neg h4]
  by_cases h5 : a = 5
  · rw [if_pos h5, if_pos h5, overS_fin]
  rw [if_neg h5, if_neg h5]
  by_cases h6 : a = 6
  · rw [if_pos h6, if_pos h6, overS_fin]
  rw [if_neg h6, if_neg h6, if_neg h7, if_neg h7]
  by_cases h8 : a = 8
  · rw [if_pos h8, if_pos h8]
    unfold PSt.putS
    by_cases hh : X.long = true ∨ X.text.length = (if X.st = 12 then 1024 else 256)
    · rw [if_pos hh, if_pos (show ({ X with fin := f } : PSt).long = true ∨ ({ X with fin := f } : PSt).text.length = (if ({ X with fin := f } : PSt).st = 12 then 1024 else 256) from hh)]
    · rw [if_neg hh, if_neg (show ¬ (({ X with fin := f } : PSt).long = true ∨ ({ X with fin := f } : PSt).text.length = (if ({ X with fin := f } : PSt).st = 12 then 1024 else 256)) from hh)]
  · rw [if_neg h8, if_neg h8]
theorem step_fin (X : PSt) (f : Int) (c : UInt8) (h10 : X.st ≠ 10) : ({ X with fin := f } : PSt).step c = { X.step c with fin := if (nx X.st c.toNat).1 = 7 then (c.toNat : Int) else f } := by
  have e1 : ({ X with fin := f } : PSt).step1 c = { X.step1 c with fin := f } := by
    unfold PSt.step1
    by_cases h : (nx X.st c.toNat).1 ≠ 1
    · rw [if_pos h, if_pos (show (nx ({ X with fin := f } : PSt).st c.toNat).1 ≠ 1 from h), endS_fin]
    · rw [if_neg h, if_neg (show ¬ (nx ({ X with fin := f } : PSt).st c.toNat).1 ≠ 1 from h)]
  have hs1 : (X.step1 c).st = X.st := by
    unfold PSt.step1 PSt.endS
    (repeat' split) <;> rfl
  have e2 : ∀ n, ({ X.step1 c with fin := f } : PSt).step2 n c = { (X.step1 c).step2 n c with fin := f } := by
    intro n
    unfold PSt.step2
    by_cases h : n ≠ (X.step1 c).st ∧ ((X.step1 c).st = 10 ∨ (X.step1 c).st = 12)
    · rw [if_pos h, if_pos (show n ≠ ({ X.step1 c with fin := f } : PSt).st ∧ (({ X.step1 c with fin := f } : PSt).st = 10 ∨ ({ X.step1 c with fin := f } : PSt).st = 12) from h), stopS_fin _ _ _ (by rw [hs1]; exact h10) (h.2.resolve_left (by rw [hs1]; exact h10))]
    · rw [if_neg h, if_neg (show ¬ (n ≠ ({ X.step1 c with fin := f } : PSt).st ∧ (({ X.step1 c with fin := f } : PSt).st = 10 ∨ ({ X.step1 c with fin := f } : PSt).st = 12)) from h)]
  have e3 : ∀ (Z : PSt) n, ({ Z with fin := f } : PSt).step3 n = { Z.step3 n with fin := f } := by
    intro Z n
    unfold PSt.step3
    by_cases h : n ≠ Z.st ∧ (n = 1 ∨ n = 3 ∨ n = 7 ∨ n = 12)
    · rw [if_pos h, if_pos (show n ≠ ({ Z with fin := f } : PSt).st ∧ (n = 1 ∨ n = 3 ∨ n = 7 ∨ n = 12) from h)]; rfl
    · rw [if_neg h, if_neg (show ¬ (n ≠ ({ Z with fin := f } : PSt).st ∧ (n = 1 ∨ n = 3 ∨ n = 7 ∨ n = 12)) from h)]
  unfold PSt.step
  have hst : ({ X with fin := f } : PSt).st = X.st := rfl
  rw [hst, e1, e2, e3, doesS_fin]
theorem step_st (X : PSt) (c : UInt8) : (X.step c).st = (nx X.st c.toNat).2 := rfl
theorem doesS_fin7 (X : PSt) (c : UInt8) : (X.doesS 7 c).fin = c.toNat := by
  unfold PSt.doesS
  simp only [Int.reduceEq, if_false, if_true]
theorem endS_eq {X Y : PSt} (hd : X.d = Y.d) (ht : X.told = Y.told) : X.endS.d = Y.endS.d ∧ X.endS.told = Y.endS.told := by
  unfold PSt.endS
  by_cases h : X.d.kept = 0
  · rw [if_pos h, if_pos (by rw [← hd]; exact h)]; exact ⟨hd, ht⟩
  · rw [if_neg h, if_neg (by rw [← hd]; exact h)]; exact ⟨rfl, by simp only [ht]⟩
theorem Eqv.step {X Y : PSt} (hX : X.Good) (h : Eqv X Y) (c : UInt8) : Eqv (X.step c) (Y.step c) := by
  have F := nxF c.toNat hX.st
  by_cases h0 : X.st = 0
  · have hY0 : Y.st = 0 := by rw [← h.st]; exact h0
    have s1 : (X.step1 c).d = (Y.step1 c).d ∧ (X.step1 c).told = (Y.step1 c).told := by
      unfold PSt.step1
      rw [h0, hY0]
      by_cases hh : (nx 0 c.toNat).1 ≠ 1
      · rw [if_pos hh, if_pos hh]; exact endS_eq h.d h.told
      · rw [if_neg hh, if_neg hh]; exact ⟨h.d, h.told⟩
    have x1 : (X.step1 c).st = 0 := by rw [(Good.step1 hX c).2.2.1, h0]
    have y1 : (Y.step1 c).st = 0 := by
      unfold PSt.step1 PSt.endS
      (repeat' split) <;> exact hY0
    have x2 : ∀ n, (X.step1 c).step2 n c = X.step1 c := fun n => by unfold PSt.step2; rw [if_neg (by rw [x1]; omega)]
    have y2 : ∀ n, (Y.step1 c).step2 n c = Y.step1 c := fun n => by unfold PSt.step2; rw [if_neg (by rw [y1]; omega)]
    have hnx : nx Y.st c.toNat = nx X.st c.toNat := by rw [h0, hY0]
    rcases F.grd h0 with ⟨hn, ha⟩ | hn
    · have x3 : (X.step1 c).step3 (nx X.st c.toNat).2 = X.step1 c := by unfold PSt.step3; rw [if_neg (by rw [x1, hn]; omega)]
      have y3 : (Y.step1 c).step3 (nx X.st c.toNat).2 = Y.step1 c := by unfold PSt.step3; rw [if_neg (by rw [y1, hn]; omega)]
      have dd : ((X.step1 c).doesS (nx X.st c.toNat).1 c).d = ((Y.step1 c).doesS (nx X.st c.toNat).1 c).d ∧ ((X.step1 c).doesS (nx X.st c.toNat).1 c).told = ((Y.step1 c).doesS (nx X.st c.toNat).1 c).told := by
        rcases ha with ha | ha | ha <;> rw [ha] <;> unfold PSt.doesS <;> simp only [Int.reduceEq, if_false, if_true]
        · exact s1
        · simp only [PSt.prints, s1.1, s1.2, and_self]
        · simp only [PSt.tell, s1.1, s1.2, and_self]
      refine ⟨?_, ?_, ?_, ?_, ?_⟩
      · rw [step_st, step_st, hnx]
      · unfold PSt.step; rw [hnx, x2, y2, x3, y3]; exact dd.1
      · unfold PSt.step; rw [hnx, x2, y2, x3, y3]; exact dd.2
      · intro hh; rw [step_st, hn] at hh; exact absurd rfl hh
      · intro hh; rw [step_st, hn] at hh; omega
    · have x3 : (X.step1 c).step3 (nx X.st c.toNat).2 = (X.step1 c).clrS := by unfold PSt.step3; rw [if_pos ⟨by rw [x1, hn]; omega, .inl hn⟩]
      have y3 : (Y.step1 c).step3 (nx X.st c.toNat).2 = (Y.step1 c).clrS := by unfold PSt.step3; rw [if_pos ⟨by rw [y1, hn]; omega, .inl hn⟩]
      have e1 : Eq1 (X.step1 c).clrS (Y.step1 c).clrS := ⟨by show (X.step1 c).st = (Y.step1 c).st; rw [x1, y1], s1.1, s1.2, rfl, rfl, rfl, rfl, rfl⟩
      have e2 := e1.eq
      have e3 : (Y.step c) = { X.step c with fin := (Y.step c).fin } := by
        have : Y.step c = { X.step c with fin := if (nx X.st c.toNat).1 = 7 then (c.toNat : Int) else (Y.step1 c).clrS.fin } := by
          unfold PSt.step
          rw [hnx, x2, y2, x3, y3, e2, doesS_fin]
        rw [this]
      rw [e3]
      exact ⟨rfl, rfl, rfl, fun _ => ⟨rfl, rfl, rfl, rfl, rfl⟩, fun hh => by rw [step_st, hn] at hh; omega⟩
  · have e := (h.one h0).eq
    by_cases h10 : X.st = 10
    · have : Y = X := by rw [e, ← h.fin h10]
      rw [this]
      exact ⟨rfl, rfl, rfl, fun _ => ⟨rfl, rfl, rfl, rfl, rfl⟩, fun _ => rfl⟩
    · have e2 := step_fin X Y.fin c h10
      rw [← e] at e2
      rw [e2]
      refine ⟨rfl, rfl, rfl, fun _ => ⟨rfl, rfl, rfl, rfl, rfl⟩, fun hh => ?_⟩
      rw [step_st] at hh
      have h7 := (F.ten hh).resolve_left h10
      simp only [h7.2, if_true]
      unfold PSt.step
      simp only [h7.2]
      exact doesS_fin7 _ c
theorem Eqv.feed : ∀ {t : List UInt8} {X Y : PSt}, X.Good → Eqv X Y → Eqv (X.feed t) (Y.feed t)
  | [], X, Y, _, h => h
  | c :: t, X, Y, hg, h => Eqv.feed (t := t) (Good.step hg c).1 (h.step hg c)
theorem cancel_new {X : PSt} (hX : X.Good) : Eqv { X.step 24 with told := [] } PSt.new := by
  have hn : nx X.st ((24 : UInt8).toNat : Int) = (2, 0) := rfl
  have hd : (X.step 24).d = DSt.zero := by
    have h1 : (X.step1 24).d = DSt.zero := by
      unfold PSt.step1
      rw [hn, if_pos (by decide)]
      unfold PSt.endS
      by_cases h : X.d.kept = 0
      · rw [if_pos h]; exact hX.d.z (by omega)
      · rw [if_neg h]
    have h2 : ∀ (Z : PSt) n, (Z.step2 n 24).d = Z.d := by
      intro Z n
      unfold PSt.step2 PSt.stopS
      (repeat' split) <;> rfl
    have h3 : ∀ (Z : PSt) n, (Z.step3 n).d = Z.d := by
      intro Z n
      unfold PSt.step3
      split <;> rfl
    have h4 : ∀ (Z : PSt), (Z.doesS 2 24).d = Z.d := by
      intro Z
      unfold PSt.doesS
      simp only [Int.reduceEq, if_false, if_true]
      rfl
    unfold PSt.step
    rw [hn]
    show (((X.step1 24).step2 0 24).step3 0 |>.doesS 2 24).d = DSt.zero
    rw [h4, h3, h2, h1]
  exact ⟨rfl, hd, rfl, fun hh => absurd rfl hh, fun hh => by have : (0 : Int) = 10 := hh; omega⟩
/-! ### The shape of events -/
structure EvG (e : PEv) : Prop where
  k : 1 ≤ e.k ∧ e.k ≤ 6
  r : e.k ≠ 1 → e.r = 0
  m : e.m.length ≤ 2
  t : e.t.length ≤ 1024
  L : e.k < 4 → e.L = []
  t5 : e.k < 5 → e.t = []
  f : e.k = 5 → e.f = 0 ∧ e.m = []
  m3 : e.k < 3 → e.m = []
structure TI (s : PSt) : Prop where
  t1 : s.text.length ≤ 1024
  t10 : s.st = 10 → s.text.length ≤ 256
  t7 : s.st = 7 ∨ s.st = 8 ∨ s.st = 9 → s.text = []
def TG (s : PSt) : Prop := ∀ e ∈ s.told, EvG e
theorem TG.tell {s : PSt} (h : TG s) {e : PEv} (he : EvG e) : TG (s.tell e) := fun x hx => by
  rcases List.mem_append.1 hx with hx | hx
  · exact h x hx
  · simp only [List.mem_singleton] at hx; subst hx; exact he
theorem evg1 (r : Int) : EvG ⟨1, r, 0, [], [], []⟩ := by constructor <;> simp
theorem evg2 (c : Int) : EvG ⟨2, 0, c, [], [], []⟩ := by constructor <;> simp
theorem evg3 (c : Int) {m : List UInt8} (h : m.length ≤ 2) : EvG ⟨3, 0, c, m, [], []⟩ := by constructor <;> simp [h]
theorem evg4 (c : Int) {m : List UInt8} (h : m.length ≤ 2) (L : List (List Int)) : EvG ⟨4, 0, c, m, L, []⟩ := by constructor <;> simp [h]
theorem evg5 {t : List UInt8} (h : t.length ≤ 1024) : EvG ⟨5, 0, 0, [], [], t⟩ := by constructor <;> simp [h]
theorem evg6 (c : Int) {m t : List UInt8} (h : m.length ≤ 2) (h2 : t.length ≤ 1024) (L : List (List Int)) : EvG ⟨6, 0, c, m, L, t⟩ := by constructor <;> simp [h, h2]
theorem TG.endS {s : PSt} (h : TG s) : TG s.endS := by
  unfold PSt.endS
  split
  · exact h
  · exact TG.tell (s := s) h (evg1 _)
theorem TG.stopS {s : PSt} (hg : s.Good) (ht : s.text.length ≤ 1024) (h : TG s) (c : UInt8) : TG (s.stopS c) := by
  unfold PSt.stopS
  split
  · exact h
  · split
    · exact h.tell (evg5 ht)
    · split
      · exact h
      · exact h.tell (evg6 _ hg.mids ht _)
theorem TG.overS {s : PSt} (hg : s.Good) (h : TG s) (a : Int) (c : UInt8) : TG (s.overS a c) := by
  unfold PSt.overS
  split
  · exact h
  · split
    · exact h.tell (evg3 _ hg.mids)
    · exact h.tell (evg4 _ hg.mids _)
theorem TG.prints {s : PSt} (h : TG s) (xs : List Int) : TG (s.prints xs) := fun x hx => by
  rcases List.mem_append.1 hx with hx | hx
  · exact h x hx
  · obtain ⟨r, _, rfl⟩ := List.mem_map.1 hx
    exact evg1 r
theorem putS_or (s : PSt) (c : UInt8) : s.putS c = { s with long := true } ∨ (s.putS c = { s with text := s.text ++ [c] } ∧ s.text.length ≠ (if s.st = 12 then 1024 else 256)) := by
  unfold PSt.putS
  by_cases hh : s.long = true ∨ s.text.length = (if s.st = 12 then 1024 else 256)
  · exact .inl (if_pos hh)
  · exact .inr ⟨if_neg hh, fun h => hh (.inr h)⟩
theorem TG.doesS {s : PSt} (hg : s.Good) (h : TG s) (a : Int) (c : UInt8) : TG (s.doesS a c) := by
  unfold PSt.doesS
  split
  · exact TG.prints (s := { s with d := _ }) h _
  · split
    · exact h.tell (evg2 _)
    · split
      · unfold PSt.midS; split <;> exact h
      · split
        · exact h
        · split
          · exact TG.overS hg h _ _
          · split
            · exact TG.overS hg h _ _
            · split
              · exact h
              · split
                · rcases putS_or s c with e | ⟨e, _⟩ <;> rw [e] <;> exact h
                · exact h
theorem doesS_text (s : PSt) {a : Int} (c : UInt8) (h : a ≠ 8) : (s.doesS a c).text = s.text := by
  unfold PSt.doesS PSt.overS PSt.midS
  (repeat' split) <;> first | rfl | (exfalso; omega)
theorem TI.step {s : PSt} (hg : s.Good) (h : TI s) (c : UInt8) : TI (s.step c) := by
  have F := nxF c.toNat hg.st
  obtain ⟨g1, a1, b1, d1⟩ := Good.step1 hg c
  obtain ⟨g2, a2, b2, d2⟩ := Good.step2 g1 (nx s.st c.toNat).2 c
  have hst2 : ((s.step1 c).step2 (nx s.st c.toNat).2 c).st = s.st := by rw [b2, b1]
  have htx2 : ((s.step1 c).step2 (nx s.st c.toNat).2 c).text = s.text := by rw [d2, d1]
  obtain ⟨Z, hZ⟩ : ∃ Z, (s.step1 c).step2 (nx s.st c.toNat).2 c = Z := ⟨_, rfl⟩
  rw [hZ] at hst2 htx2
  have hstep : (s.step c).text = ((Z.step3 (nx s.st c.toNat).2).doesS (nx s.st c.toNat).1 c).text := by unfold PSt.step; rw [hZ]
  by_cases ha : (nx s.st c.toNat).1 = 8
  · obtain ⟨p1, p2⟩ := F.put ha
    have h3 : Z.step3 (nx s.st c.toNat).2 = Z := by unfold PSt.step3; rw [if_neg (by rw [hst2, p1]; simp)]
    rw [h3, ha] at hstep
    have e8 : Z.doesS 8 c = Z.putS c := by unfold PSt.doesS; simp only [Int.reduceEq, if_false, if_true]
    rw [e8] at hstep
    have t1 := h.t1
    rcases putS_or Z c with e | ⟨e, hne⟩
    · have : (s.step c).text = s.text := by rw [hstep, e]; exact htx2
      refine ⟨by rw [this]; exact t1, fun hh => ?_, fun hh => ?_⟩
      · rw [this]; rw [step_st, p1] at hh; exact h.t10 hh
      · rw [step_st, p1] at hh; omega
    · have : (s.step c).text = s.text ++ [c] := by rw [hstep, e]; show Z.text ++ [c] = _; rw [htx2]
      rw [htx2, hst2] at hne
      refine ⟨?_, fun hh => ?_, fun hh => ?_⟩
      · rw [this, List.length_append]
        rcases p2 with p2 | p2
        · have := h.t10 p2; simp; omega
        · rw [if_pos p2] at hne; simp; omega
      · rw [step_st, p1] at hh
        rw [this, List.length_append]
        have := h.t10 hh
        rw [if_neg (by omega)] at hne
        simp; omega
      · rw [step_st, p1] at hh; omega
  · rw [doesS_text _ _ ha] at hstep
    by_cases hc : (nx s.st c.toNat).2 ≠ Z.st ∧ ((nx s.st c.toNat).2 = 1 ∨ (nx s.st c.toNat).2 = 3 ∨ (nx s.st c.toNat).2 = 7 ∨ (nx s.st c.toNat).2 = 12)
    · have h3 : Z.step3 (nx s.st c.toNat).2 = Z.clrS := by unfold PSt.step3; rw [if_pos hc]
      rw [h3] at hstep
      have : (s.step c).text = [] := hstep
      exact ⟨by rw [this]; simp, fun _ => by rw [this]; simp, fun _ => this⟩
    · have h3 : Z.step3 (nx s.st c.toNat).2 = Z := by unfold PSt.step3; rw [if_neg hc]
      rw [h3, htx2] at hstep
      rw [hst2] at hc
      refine ⟨by rw [hstep]; exact h.t1, fun hh => ?_, fun hh => ?_⟩
      · rw [step_st] at hh
        rw [hstep]
        rcases F.ten hh with h1 | h1
        · exact h.t10 h1
        · rw [h.t7 h1.1]; simp
      · rw [step_st] at hh
        rw [hstep]
        refine h.t7 ?_
        rcases hh with hh | hh | hh
        · by_cases hs : s.st = 7
          · exact .inl hs
          · exact absurd ⟨by rw [hh]; exact fun h => hs h.symm, .inr (.inr (.inl hh))⟩ hc
        · exact F.mid (.inl hh)
        · exact F.mid (.inr hh)
theorem TG.step {s : PSt} (hg : s.Good) (ht : TI s) (h : TG s) (c : UInt8) : TG (s.step c) := by
  obtain ⟨g1, a1, b1, d1⟩ := Good.step1 hg c
  obtain ⟨g2, a2, b2, d2⟩ := Good.step2 g1 (nx s.st c.toNat).2 c
  obtain ⟨g3, _⟩ := Good.step3 g2 (nx s.st c.toNat).2
  have t1 : TG (s.step1 c) := by
    unfold PSt.step1; split
    · exact h.endS
    · exact h
  have t2 : TG ((s.step1 c).step2 (nx s.st c.toNat).2 c) := by
    unfold PSt.step2; split
    · exact TG.stopS g1 (by rw [d1]; exact ht.t1) t1 c
    · exact t1
  have t3 : TG (((s.step1 c).step2 (nx s.st c.toNat).2 c).step3 (nx s.st c.toNat).2) := by
    unfold PSt.step3; split
    · exact t2
    · exact t2
  exact TG.doesS g3 t3 _ c
theorem TG.feed : ∀ {t : List UInt8} {s : PSt}, s.Good → TI s → TG s → TG (s.feed t)
  | [], s, _, _, h => h
  | c :: t, s, hg, ht, h => TG.feed (t := t) (Good.step hg c).1 (ht.step hg c) (h.step hg ht c)
theorem new_ti : TI PSt.new := ⟨by simp [PSt.new], by simp [PSt.new], by simp [PSt.new]⟩
theorem new_tg : TG PSt.new := fun e he => by simp [PSt.new] at he
theorem bin_neqs (a b : List UInt8) : binV .neq (.str a) (.str b) = some (.bool (!decide (a = b))) := by
  simp only [binV, strBin]
  by_cases h : a = b <;> simp [h, bne]
section
variable {Q : Prog} (eq : EvQ Q) (q13 : Q.fns 13 = some A13) (q15 : Q.fns 15 = some A15) (q23 : Q.fns 23 = some A23) (q12 : Q.fns 12 = some A12) (q25 : Q.fns 25 = some A25) (q26 : Q.fns 26 = some A26) {H : AHeap} {s t : List UInt8}
include eq q13 q15 q23 q12 q25 q26
set_option maxHeartbeats 8000000 in
set_option maxRecDepth 20000 in
theorem law8 (q8 : Q.fns 8 = some A8) (ha : Q.orc 11 [] = some (.bool true)) (hf : Fr H) :
    FnTo Q 8 [.str s, .str t] H (fun r H' => r = .bool true) := by
  refine fn_wp (eq.ho 8 rfl _) q8 (by simp [A8]) ?_
  simp only [A8, SX, Opd.ev, resVal, resVals, ARes.val, Bool.false_eq_true, Bool.not_false, Bool.not_true, List.getD_cons_succ, List.getD_cons_zero, List.map_cons, List.map_nil, Nat.add_zero, Nat.zero_add, Option.map_none, Option.map_some, Option.some.injEq, and_true, decide_false, decide_true, true_and, reduceCtorEq, Nat.reduceEqDiff, ↓reduceIte, Int.reduceEq, Int.reduceLT, Int.reduceLE, Nat.reduceAdd]
  refine fn_orc ha ?_
  by_cases c1 : (3000 : Int) < s.length
  · simp only [c1, SX, Opd.ev, resVal, resVals, ARes.val, Bool.false_eq_true, Bool.not_false, Bool.not_true, List.getD_cons_succ, List.getD_cons_zero, List.map_cons, List.map_nil, Nat.add_zero, Nat.zero_add, Option.map_none, Option.map_some, Option.some.injEq, and_true, decide_false, decide_true, true_and, reduceCtorEq, Nat.reduceEqDiff, ↓reduceIte, Int.reduceEq, Int.reduceLT, Int.reduceLE, Nat.reduceAdd]
  by_cases c2 : (3000 : Int) < t.length
  · simp only [c1, c2, SX, Opd.ev, resVal, resVals, ARes.val, Bool.false_eq_true, Bool.not_false, Bool.not_true, List.getD_cons_succ, List.getD_cons_zero, List.map_cons, List.map_nil, Nat.add_zero, Nat.zero_add, Option.map_none, Option.map_some, Option.some.injEq, and_true, decide_false, decide_true, true_and, reduceCtorEq, Nat.reduceEqDiff, ↓reduceIte, Int.reduceEq, Int.reduceLT, Int.reduceLE, Nat.reduceAdd]
  simp only [c1, c2, SX, Opd.ev, resVal, resVals, ARes.val, Bool.false_eq_true, Bool.not_false, Bool.not_true, List.getD_cons_succ, List.getD_cons_zero, List.map_cons, List.map_nil, Nat.add_zero, Nat.zero_add, Option.map_none, Option.map_some, Option.some.injEq, and_true, decide_false, decide_true, true_and, reduceCtorEq, Nat.reduceEqDiff, ↓reduceIte, Int.reduceEq, Int.reduceLT, Int.reduceLE, Nat.reduceAdd]
  have hn0 : PSt.new.told.length = 0 ∧ PSt.new.text.length = 0 := ⟨rfl, rfl⟩
  refine (new_spec eq q13 (Hp.nil H hf)).mono ?_
  rintro r H1 ⟨pa, rfl, para, k1⟩
  obtain ⟨ca, pca, hpa⟩ := para.get
  simp only [SX, Opd.ev, resVal, resVals, ARes.val, Bool.false_eq_true, Bool.not_false, Bool.not_true, List.getD_cons_succ, List.getD_cons_zero, List.map_cons, List.map_nil, Nat.add_zero, Nat.zero_add, Option.map_none, Option.map_some, Option.some.injEq, and_true, decide_false, decide_true, true_and, reduceCtorEq, Nat.reduceEqDiff, ↓reduceIte, Int.reduceEq, Int.reduceLT, Int.reduceLE, Nat.reduceAdd]
  refine (new_spec eq q13 hpa).mono ?_
  rintro r H2 ⟨pb, rfl, parb, k2⟩
  obtain ⟨cb, pcb, hpb⟩ := parb.get
  simp only [SX, Opd.ev, resVal, resVals, ARes.val, Bool.false_eq_true, Bool.not_false, Bool.not_true, List.getD_cons_succ, List.getD_cons_zero, List.map_cons, List.map_nil, Nat.add_zero, Nat.zero_add, Option.map_none, Option.map_some, Option.some.injEq, and_true, decide_false, decide_true, true_and, reduceCtorEq, Nat.reduceEqDiff, ↓reduceIte, Int.reduceEq, Int.reduceLT, Int.reduceLE, Nat.reduceAdd]
  refine (new_spec eq q13 hpb).mono ?_
  rintro r H3 ⟨pc, rfl, parc, k3⟩
  obtain ⟨cc, pcc, hpc⟩ := parc.get
  have b1 : binV .add (.str s) (.str [24]) = some (.str (s ++ [24])) := bin_adds _ _ (by simp; omega)
  have b2 : binV .add (.str (s ++ [24])) (.str t) = some (.str (s ++ [24] ++ t)) := bin_adds _ _ (by simp; omega)
  simp only [b1, SX, Opd.ev, resVal, resVals, ARes.val, Bool.false_eq_true, Bool.not_false, Bool.not_true, List.getD_cons_succ, List.getD_cons_zero, List.map_cons, List.map_nil, Nat.add_zero, Nat.zero_add, Option.map_none, Option.map_some, Option.some.injEq, and_true, decide_false, decide_true, true_and, reduceCtorEq, Nat.reduceEqDiff, ↓reduceIte, Int.reduceEq, Int.reduceLT, Int.reduceLE, Nat.reduceAdd]
  have l1 : (s ++ [24]).length = s.length + 1 := by simp
  have l2 : (s ++ [24] ++ t).length = s.length + 1 + t.length := by simp; omega
  refine (feed_spec eq (t := s ++ [24]) new_good (pca.par (l := cb ++ cc) (hpc.re fun a => by simp only [cnt_append, cnt_nil]; omega)) (by omega) (by omega)).mono ?_
  rintro r H4 ⟨par4, k4⟩
  obtain ⟨ca', pca', hp4⟩ := par4.get
  simp only [SX, Opd.ev, resVal, resVals, ARes.val, Bool.false_eq_true, Bool.not_false, Bool.not_true, List.getD_cons_succ, List.getD_cons_zero, List.map_cons, List.map_nil, Nat.add_zero, Nat.zero_add, Option.map_none, Option.map_some, Option.some.injEq, and_true, decide_false, decide_true, true_and, reduceCtorEq, Nat.reduceEqDiff, ↓reduceIte, Int.reduceEq, Int.reduceLT, Int.reduceLE, Nat.reduceAdd]
  refine (feed_spec eq (t := t) new_good (pcb.par (l := ca' ++ cc) (hp4.re fun a => by simp only [cnt_append]; omega)) (by omega) (by omega)).mono ?_
  rintro r H5 ⟨par5, k5⟩
  obtain ⟨cb', pcb', hp5⟩ := par5.get
  simp only [b1, b2, SX, Opd.ev, resVal, resVals, ARes.val, Bool.false_eq_true, Bool.not_false, Bool.not_true, List.getD_cons_succ, List.getD_cons_zero, List.map_cons, List.map_nil, Nat.add_zero, Nat.zero_add, Option.map_none, Option.map_some, Option.some.injEq, and_true, decide_false, decide_true, true_and, reduceCtorEq, Nat.reduceEqDiff, ↓reduceIte, Int.reduceEq, Int.reduceLT, Int.reduceLE, Nat.reduceAdd]
  refine (feed_spec eq (t := s ++ [24] ++ t) new_good (pcc.par (l := ca' ++ cb') (hp5.re fun a => by simp only [cnt_append]; omega)) (by omega) (by omega)).mono ?_
  rintro r H6 ⟨par6, k6⟩
  obtain ⟨cc', pcc', hp6⟩ := par6.get
  -- what they are
  obtain ⟨ga, ta, xa⟩ := Good.feed (t := s ++ [24]) new_good
  obtain ⟨gb, tb, xb⟩ := Good.feed (t := t) new_good
  obtain ⟨gc, tc, xc⟩ := Good.feed (t := s ++ [24] ++ t) new_good
  have hstep : PSt.new.feed (s ++ [24]) = (PSt.new.feed s).step 24 := by rw [feed_app]; rfl
  have hEq := cancel_new (Good.feed (t := s) new_good).1
  rw [← hstep] at hEq
  obtain ⟨SA, hSA⟩ : ∃ SA, PSt.new.feed (s ++ [24]) = SA := ⟨_, rfl⟩
  obtain ⟨SB, hSB⟩ : ∃ SB, PSt.new.feed t = SB := ⟨_, rfl⟩
  obtain ⟨SC, hSC⟩ : ∃ SC, PSt.new.feed (s ++ [24] ++ t) = SC := ⟨_, rfl⟩
  have tgA : TG SA := by rw [← hSA]; exact TG.feed new_good new_ti new_tg
  have tgB : TG SB := by rw [← hSB]; exact TG.feed new_good new_ti new_tg
  have tokC : TOk SC := by rw [← hSC]; exact TOk.feed new_good new_ok
  rw [hSA] at hEq ga ta pca'
  rw [hSB] at gb tb pcb'
  rw [hSC] at gc tc pcc'
  have hpre : SC = (({ SA with told := [] } : PSt).feed t).pre SA.told := by
    rw [← hSC, feed_app, hSA, ← pre_feed]
    congr 1
    simp [PSt.pre]
  have hEqF := Eqv.feed (t := t) (X := { SA with told := [] }) (Y := PSt.new) ⟨ga.d, ga.ps, ga.st, ga.mids⟩ hEq
  rw [hSB] at hEqF
  have htold : SC.told = SA.told ++ SB.told := by rw [hpre]; show SA.told ++ _ = _; rw [hEqF.told]
  have hst : SC.st = SB.st := by rw [hpre]; exact hEqF.st
  have hsa : SA.st = 0 := hEq.st
  have hka : SA.d.kept = 0 := by have : SA.d = DSt.zero := hEq.d; rw [this]; rfl
  simp only [SX, Opd.ev, resVal, resVals, ARes.val, Bool.false_eq_true, Bool.not_false, Bool.not_true, List.getD_cons_succ, List.getD_cons_zero, List.map_cons, List.map_nil, Nat.add_zero, Nat.zero_add, Option.map_none, Option.map_some, Option.some.injEq, and_true, decide_false, decide_true, true_and, reduceCtorEq, Nat.reduceEqDiff, ↓reduceIte, Int.reduceEq, Int.reduceLT, Int.reduceLE, Nat.reduceAdd]
  refine (take_spec eq q15 (pca'.par (l := cb' ++ cc') (hp6.re fun a => by simp only [cnt_append]; omega)) (by omega)).mono ?_
  rintro r7 H7 ⟨k7, F1, f1, tF1, hF1, pF1, par7⟩
  obtain ⟨ca2, pca2, hp7⟩ := par7.get
  simp only [SX, Opd.ev, resVal, resVals, ARes.val, Bool.false_eq_true, Bool.not_false, Bool.not_true, List.getD_cons_succ, List.getD_cons_zero, List.map_cons, List.map_nil, Nat.add_zero, Nat.zero_add, Option.map_none, Option.map_some, Option.some.injEq, and_true, decide_false, decide_true, true_and, reduceCtorEq, Nat.reduceEqDiff, ↓reduceIte, Int.reduceEq, Int.reduceLT, Int.reduceLE, Nat.reduceAdd]
  refine (take_spec eq q15 (pcb'.par (l := ca2 ++ (f1 ++ cc')) (hp7.re fun a => by simp only [cnt_append]; omega)) (by omega)).mono ?_
  rintro r8 H8 ⟨k8, F2, f2, tF2, hF2, pF2, par8⟩
  obtain ⟨cb2, pcb2, hp8⟩ := par8.get
  have hF1l : F1.length = SA.told.length := by rw [← hF1]; simp
  have hF2l : F2.length = SB.told.length := by rw [← hF2]; simp
  obtain ⟨v9, H9, cl9, s9, t9, hp9, k9⟩ := tF1.pushAll tF2 (l := ca2 ++ (cb2 ++ cc')) (hp8.re fun a => by simp only [cnt_append]; omega) pF2 (by omega)
  simp only [s9, SX, Opd.ev, resVal, resVals, ARes.val, Bool.false_eq_true, Bool.not_false, Bool.not_true, List.getD_cons_succ, List.getD_cons_zero, List.map_cons, List.map_nil, Nat.add_zero, Nat.zero_add, Option.map_none, Option.map_some, Option.some.injEq, and_true, decide_false, decide_true, true_and, reduceCtorEq, Nat.reduceEqDiff, ↓reduceIte, Int.reduceEq, Int.reduceLT, Int.reduceLE, Nat.reduceAdd]
  refine (take_spec eq q15 (pcc'.par (l := ca2 ++ (cb2 ++ cl9)) (hp9.re fun a => by simp only [cnt_append]; omega)) (by omega)).mono ?_
  rintro r10 H10 ⟨k10, G, gcl, tG, hG2, pG, par10⟩
  obtain ⟨cc2, pcc2, hp10⟩ := par10.get
  have pF : ∀ a ∈ F1 ++ F2, PRv a.1.v a.1.L a.2 := by
    intro a ha
    rcases List.mem_append.1 ha with ha | ha
    · exact pF1 a ha
    · exact pF2 a ha
  have heq : G.map (fun a => a.1.pure) = (F1 ++ F2).map (fun a => a.1.pure) := by
    rw [hG2, List.map_append, hF1, hF2, htold]
  simp only [SX, Opd.ev, resVal, resVals, ARes.val, Bool.false_eq_true, Bool.not_false, Bool.not_true, List.getD_cons_succ, List.getD_cons_zero, List.map_cons, List.map_nil, Nat.add_zero, Nat.zero_add, Option.map_none, Option.map_some, Option.some.injEq, and_true, decide_false, decide_true, true_and, reduceCtorEq, Nat.reduceEqDiff, ↓reduceIte, Int.reduceEq, Int.reduceLT, Int.reduceLE, Nat.reduceAdd]
  refine (sameAll_spec eq rfl (f := 23) rfl q23 q12 q25 q26 hp10 tG t9 (fun x hx => ?_) (fun x hx => ?_) pG pF heq ?_ ?_).mono ?_
  · exact List.mem_append_right _ (List.mem_append_left _ hx)
  · exact List.mem_append_right _ (List.mem_append_right _ (List.mem_append_right _ (List.mem_append_right _ hx)))
  · intro a ha
    refine tokC _ ?_
    rw [← hG2]
    exact List.mem_map.2 ⟨a, ha, rfl⟩
  · have : G.length = SC.told.length := by rw [← hG2]; simp
    omega
  rintro r11 H11 ⟨rfl, g11⟩
  have hp11 := hp10.keep g11.keep g11.next g11.fr
  simp only [SX, Opd.ev, resVal, resVals, ARes.val, Bool.false_eq_true, Bool.not_false, Bool.not_true, List.getD_cons_succ, List.getD_cons_zero, List.map_cons, List.map_nil, Nat.add_zero, Nat.zero_add, Option.map_none, Option.map_some, Option.some.injEq, and_true, decide_false, decide_true, true_and, reduceCtorEq, Nat.reduceEqDiff, ↓reduceIte, Int.reduceEq, Int.reduceLT, Int.reduceLE, Nat.reduceAdd]
  refine (state_spec eq (pcc2.par hp11)).mono ?_
  rintro r H12 ⟨rfl, rfl⟩
  simp only [SX, Opd.ev, resVal, resVals, ARes.val, Bool.false_eq_true, Bool.not_false, Bool.not_true, List.getD_cons_succ, List.getD_cons_zero, List.map_cons, List.map_nil, Nat.add_zero, Nat.zero_add, Option.map_none, Option.map_some, Option.some.injEq, and_true, decide_false, decide_true, true_and, reduceCtorEq, Nat.reduceEqDiff, ↓reduceIte, Int.reduceEq, Int.reduceLT, Int.reduceLE, Nat.reduceAdd]
  refine (state_spec eq (pcb2.par (l := cc2 ++ (gcl ++ (ca2 ++ cl9))) (hp11.re fun a => by simp only [cnt_append]; omega))).mono ?_
  rintro r H13 ⟨rfl, rfl⟩
  have dst : (!decide (SC.st = SB.st)) = false := by simp [hst]
  simp only [dst, SX, Opd.ev, resVal, resVals, ARes.val, Bool.false_eq_true, Bool.not_false, Bool.not_true, List.getD_cons_succ, List.getD_cons_zero, List.map_cons, List.map_nil, Nat.add_zero, Nat.zero_add, Option.map_none, Option.map_some, Option.some.injEq, and_true, decide_false, decide_true, true_and, reduceCtorEq, Nat.reduceEqDiff, ↓reduceIte, Int.reduceEq, Int.reduceLT, Int.reduceLE, Nat.reduceAdd]
  refine (waits_spec eq (pca2.par (l := cc2 ++ (gcl ++ (cb2 ++ cl9))) (hp11.re fun a => by simp only [cnt_append]; omega))).mono ?_
  rintro r H14 ⟨rfl, rfl⟩
  have dw : decide (SA.st ≠ 0 ∨ 0 < SA.d.kept) = false := by simp [hsa, hka]
  simp only [dw, SX, Opd.ev, resVal, resVals, ARes.val, Bool.false_eq_true, Bool.not_false, Bool.not_true, List.getD_cons_succ, List.getD_cons_zero, List.map_cons, List.map_nil, Nat.add_zero, Nat.zero_add, Option.map_none, Option.map_some, Option.some.injEq, and_true, decide_false, decide_true, true_and, reduceCtorEq, Nat.reduceEqDiff, ↓reduceIte, Int.reduceEq, Int.reduceLT, Int.reduceLE, Nat.reduceAdd]
  -- each event's shape
  obtain ⟨E, hE⟩ : ∃ E, F1 ++ F2 = E := ⟨_, rfl⟩
  have hGd : ∀ a ∈ E, EvG a.1.pure := by
    intro a ha
    rw [← hE] at ha
    rcases List.mem_append.1 ha with ha | ha
    · exact tgA _ (by rw [← hF1]; exact List.mem_map.2 ⟨a, ha, rfl⟩)
    · exact tgB _ (by rw [← hF2]; exact List.mem_map.2 ⟨a, ha, rfl⟩)
  have hEl : E.length ≤ 100000 := by rw [← hE, List.length_append]; omega
  rw [hE] at t9 pF
  obtain ⟨I, hI⟩ : ∃ I : Nat → Env → AHeap → Prop, ∀ m e H', I m e H' ↔ (∃ k : Nat, m = E.length - k ∧ k ≤ E.length ∧ Hp H.next H' cl9 ∧ Env.get e 8 = v9 ∧ Env.get e 9 = .int .i64 k) := ⟨_, fun _ _ _ => Iff.rfl⟩
  refine loop_by I E.length ?_ ?_
  · refine (hI _ _ _).2 ⟨0, rfl, by omega, hp11.sub ?_, ?_⟩
    · exact ((List.sublist_append_right _ _).trans (List.sublist_append_right _ _)).trans ((List.sublist_append_right _ _).trans (List.sublist_append_right _ _))
    · simp only [SX, Opd.ev, resVal, resVals, ARes.val, Bool.false_eq_true, Bool.not_false, Bool.not_true, List.getD_cons_succ, List.getD_cons_zero, List.map_cons, List.map_nil, Nat.add_zero, Nat.zero_add, Option.map_none, Option.map_some, Option.some.injEq, and_true, decide_false, decide_true, true_and, reduceCtorEq, Nat.reduceEqDiff, ↓reduceIte, Int.reduceEq, Int.reduceLT, Int.reduceLE, Nat.reduceAdd]
      rfl
  · intro m e H15 hinv
    obtain ⟨k, rfl, hk, hp, e8, e9⟩ := (hI _ _ _).1 hinv
    have ln := t9.len H15
    by_cases d : (k : Int) < E.length
    · obtain ⟨a, hka2⟩ : ∃ a, E[k]? = some a := ⟨_, List.getElem?_eq_getElem (by omega)⟩
      have ma := List.mem_of_getElem? hka2
      have xa := t9.at (i := k) (by omega)
      have la := t9.get hp (fun x hx => hx) hka2
      obtain ⟨gk, gr, gm, gt, gL, gt5, gf, gm3⟩ := hGd a ma
      simp only [Ev.pure] at gk gr gm gt gL gt5 gf gm3
      have prv := pF a ma
      have w1 : IntKind.wrap .i64 ((k : Int) + 1) = ((k + 1 : Nat) : Int) := by rw [wrapI64 (by omega) (by omega)]; rfl
      obtain ⟨H16, s16, hp16, k16⟩ := hp.make zeroE 6
      obtain ⟨H17, s17, hp17, k17, n17⟩ := hp16.storeN (n := 6) (new := a.1.cs) rfl rfl (by
        have h1 := prv.one
        simp only [Ev.cs, List.all_cons, List.all_nil, h1]; rfl)
      have s17 : storeE H16 6 (.ptr H15.next 0) a.1.val = some (.undef, H17) := s17
      have m0 := hp17.load (b := H15.next) (k := 6) (cs := a.1.cs) (List.mem_cons_self ..) (o := 0) rfl
      have m1 := hp17.load (b := H15.next) (k := 6) (cs := a.1.cs) (List.mem_cons_self ..) (o := 1) rfl
      have m2 := hp17.load (b := H15.next) (k := 6) (cs := a.1.cs) (List.mem_cons_self ..) (o := 2) rfl
      have m3 := hp17.load (b := H15.next) (k := 6) (cs := a.1.cs) (List.mem_cons_self ..) (o := 3) rfl
      have m4 := hp17.load (b := H15.next) (k := 6) (cs := a.1.cs) (List.mem_cons_self ..) (o := 4) rfl
      have m5 := hp17.load (b := H15.next) (k := 6) (cs := a.1.cs) (List.mem_cons_self ..) (o := 5) rfl
      obtain ⟨⟨ak, ar, af, am, av, at_, aL⟩, acl⟩ := a
      simp only at gk gr gm gt gL gt5 gf gm3 prv m0 m1 m2 m3 m4 m5
      have gm' : ¬ (2 : Int) < am.length := by omega
      have gt' : ¬ (1024 : Int) < at_.length := by omega
      have fin : ∀ e', (Env.get e' 8 = v9 ∧ Env.get e' 9 = .int .i64 ((k + 1 : Nat) : Int)) → ∃ m', m' < E.length - k ∧ I m' e' H17 := fun e' he => ⟨E.length - (k + 1), by omega, (hI _ _ _).2 ⟨k + 1, rfl, by omega, hp17.drop, he.1, he.2⟩⟩
      have nil : ak < 4 → av = .nils := fun h => by
        rcases prv with ⟨_, h2, _⟩ | ⟨b, M, h1, h2, _⟩
        · exact h2
        · rw [gL h] at h2; simp at h2; exact absurd h2 h1
      have hcase : ak = 1 ∨ ak = 2 ∨ ak = 3 ∨ ak = 4 ∨ ak = 5 ∨ ak = 6 := by omega
      have ne0 : (!decide (([] : List UInt8) = [])) = false := rfl
      rcases hcase with rfl | rfl | rfl | rfl | rfl | rfl
      · obtain rfl := nil (by omega)
        obtain rfl := gm3 (by omega)
        obtain rfl := gt5 (by omega)
        simp only [e8, e9, ln, d, xa, la, hzE, run_allocL, s16, s17, m0, m1, m2, m3, m4, m5, gm', gt', bin_neqs, ne0, w1, SX, Opd.ev, resVal, resVals, ARes.val, Bool.false_eq_true, Bool.not_false, Bool.not_true, List.getD_cons_succ, List.getD_cons_zero, List.map_cons, List.map_nil, Nat.add_zero, Nat.zero_add, Option.map_none, Option.map_some, Option.some.injEq, and_true, decide_false, decide_true, true_and, reduceCtorEq, Nat.reduceEqDiff, ↓reduceIte, Int.reduceEq, Int.reduceLT, Int.reduceLE, Nat.reduceAdd]
        refine fin _ ?_
        simp only [e8, e9, SX, Opd.ev, resVal, resVals, ARes.val, Bool.false_eq_true, Bool.not_false, Bool.not_true, List.getD_cons_succ, List.getD_cons_zero, List.map_cons, List.map_nil, Nat.add_zero, Nat.zero_add, Option.map_none, Option.map_some, Option.some.injEq, and_true, decide_false, decide_true, true_and, reduceCtorEq, Nat.reduceEqDiff, ↓reduceIte, Int.reduceEq, Int.reduceLT, Int.reduceLE, Nat.reduceAdd]
      · have r0 := gr (by omega)
        subst r0
        obtain rfl := nil (by omega)
        obtain rfl := gm3 (by omega)
        obtain rfl := gt5 (by omega)
        simp only [e8, e9, ln, d, xa, la, hzE, run_allocL, s16, s17, m0, m1, m2, m3, m4, m5, gm', gt', bin_neqs, ne0, w1, SX, Opd.ev, resVal, resVals, ARes.val, Bool.false_eq_true, Bool.not_false, Bool.not_true, List.getD_cons_succ, List.getD_cons_zero, List.map_cons, List.map_nil, Nat.add_zero, Nat.zero_add, Option.map_none, Option.map_some, Option.some.injEq, and_true, decide_false, decide_true, true_and, reduceCtorEq, Nat.reduceEqDiff, ↓reduceIte, Int.reduceEq, Int.reduceLT, Int.reduceLE, Nat.reduceAdd]
        refine fin _ ?_
        simp only [e8, e9, SX, Opd.ev, resVal, resVals, ARes.val, Bool.false_eq_true, Bool.not_false, Bool.not_true, List.getD_cons_succ, List.getD_cons_zero, List.map_cons, List.map_nil, Nat.add_zero, Nat.zero_add, Option.map_none, Option.map_some, Option.some.injEq, and_true, decide_false, decide_true, true_and, reduceCtorEq, Nat.reduceEqDiff, ↓reduceIte, Int.reduceEq, Int.reduceLT, Int.reduceLE, Nat.reduceAdd]
      · have r0 := gr (by omega)
        subst r0
        obtain rfl := nil (by omega)
        obtain rfl := gt5 (by omega)
        simp only [e8, e9, ln, d, xa, la, hzE, run_allocL, s16, s17, m0, m1, m2, m3, m4, m5, gm', gt', bin_neqs, ne0, w1, SX, Opd.ev, resVal, resVals, ARes.val, Bool.false_eq_true, Bool.not_false, Bool.not_true, List.getD_cons_succ, List.getD_cons_zero, List.map_cons, List.map_nil, Nat.add_zero, Nat.zero_add, Option.map_none, Option.map_some, Option.some.injEq, and_true, decide_false, decide_true, true_and, reduceCtorEq, Nat.reduceEqDiff, ↓reduceIte, Int.reduceEq, Int.reduceLT, Int.reduceLE, Nat.reduceAdd]
        refine fin _ ?_
        simp only [e8, e9, SX, Opd.ev, resVal, resVals, ARes.val, Bool.false_eq_true, Bool.not_false, Bool.not_true, List.getD_cons_succ, List.getD_cons_zero, List.map_cons, List.map_nil, Nat.add_zero, Nat.zero_add, Option.map_none, Option.map_some, Option.some.injEq, and_true, decide_false, decide_true, true_and, reduceCtorEq, Nat.reduceEqDiff, ↓reduceIte, Int.reduceEq, Int.reduceLT, Int.reduceLE, Nat.reduceAdd]
      · have r0 := gr (by omega)
        subst r0
        obtain rfl := gt5 (by omega)
        simp only [e8, e9, ln, d, xa, la, hzE, run_allocL, s16, s17, m0, m1, m2, m3, m4, m5, gm', gt', bin_neqs, ne0, w1, SX, Opd.ev, resVal, resVals, ARes.val, Bool.false_eq_true, Bool.not_false, Bool.not_true, List.getD_cons_succ, List.getD_cons_zero, List.map_cons, List.map_nil, Nat.add_zero, Nat.zero_add, Option.map_none, Option.map_some, Option.some.injEq, and_true, decide_false, decide_true, true_and, reduceCtorEq, Nat.reduceEqDiff, ↓reduceIte, Int.reduceEq, Int.reduceLT, Int.reduceLE, Nat.reduceAdd]
        refine fin _ ?_
        simp only [e8, e9, SX, Opd.ev, resVal, resVals, ARes.val, Bool.false_eq_true, Bool.not_false, Bool.not_true, List.getD_cons_succ, List.getD_cons_zero, List.map_cons, List.map_nil, Nat.add_zero, Nat.zero_add, Option.map_none, Option.map_some, Option.some.injEq, and_true, decide_false, decide_true, true_and, reduceCtorEq, Nat.reduceEqDiff, ↓reduceIte, Int.reduceEq, Int.reduceLT, Int.reduceLE, Nat.reduceAdd]
      · have r0 := gr (by omega)
        subst r0
        obtain ⟨rfl, rfl⟩ := gf rfl
        simp only [e8, e9, ln, d, xa, la, hzE, run_allocL, s16, s17, m0, m1, m2, m3, m4, m5, gm', gt', bin_neqs, ne0, w1, SX, Opd.ev, resVal, resVals, ARes.val, Bool.false_eq_true, Bool.not_false, Bool.not_true, List.getD_cons_succ, List.getD_cons_zero, List.map_cons, List.map_nil, Nat.add_zero, Nat.zero_add, Option.map_none, Option.map_some, Option.some.injEq, and_true, decide_false, decide_true, true_and, reduceCtorEq, Nat.reduceEqDiff, ↓reduceIte, Int.reduceEq, Int.reduceLT, Int.reduceLE, Nat.reduceAdd]
        refine fin _ ?_
        simp only [e8, e9, SX, Opd.ev, resVal, resVals, ARes.val, Bool.false_eq_true, Bool.not_false, Bool.not_true, List.getD_cons_succ, List.getD_cons_zero, List.map_cons, List.map_nil, Nat.add_zero, Nat.zero_add, Option.map_none, Option.map_some, Option.some.injEq, and_true, decide_false, decide_true, true_and, reduceCtorEq, Nat.reduceEqDiff, ↓reduceIte, Int.reduceEq, Int.reduceLT, Int.reduceLE, Nat.reduceAdd]
      · have r0 := gr (by omega)
        subst r0
        simp only [e8, e9, ln, d, xa, la, hzE, run_allocL, s16, s17, m0, m1, m2, m3, m4, m5, gm', gt', bin_neqs, ne0, w1, SX, Opd.ev, resVal, resVals, ARes.val, Bool.false_eq_true, Bool.not_false, Bool.not_true, List.getD_cons_succ, List.getD_cons_zero, List.map_cons, List.map_nil, Nat.add_zero, Nat.zero_add, Option.map_none, Option.map_some, Option.some.injEq, and_true, decide_false, decide_true, true_and, reduceCtorEq, Nat.reduceEqDiff, ↓reduceIte, Int.reduceEq, Int.reduceLT, Int.reduceLE, Nat.reduceAdd]
        refine fin _ ?_
        simp only [e8, e9, SX, Opd.ev, resVal, resVals, ARes.val, Bool.false_eq_true, Bool.not_false, Bool.not_true, List.getD_cons_succ, List.getD_cons_zero, List.map_cons, List.map_nil, Nat.add_zero, Nat.zero_add, Option.map_none, Option.map_some, Option.some.injEq, and_true, decide_false, decide_true, true_and, reduceCtorEq, Nat.reduceEqDiff, ↓reduceIte, Int.reduceEq, Int.reduceLT, Int.reduceLE, Nat.reduceAdd]
    · simp only [e8, e9, ln, d, SX, Opd.ev, resVal, resVals, ARes.val, Bool.false_eq_true, Bool.not_false, Bool.not_true, List.getD_cons_succ, List.getD_cons_zero, List.map_cons, List.map_nil, Nat.add_zero, Nat.zero_add, Option.map_none, Option.map_some, Option.some.injEq, and_true, decide_false, decide_true, true_and, reduceCtorEq, Nat.reduceEqDiff, ↓reduceIte, Int.reduceEq, Int.reduceLT, Int.reduceLE, Nat.reduceAdd]
end
end Go.Proofs.Yteockjhckmlclaa.AM
