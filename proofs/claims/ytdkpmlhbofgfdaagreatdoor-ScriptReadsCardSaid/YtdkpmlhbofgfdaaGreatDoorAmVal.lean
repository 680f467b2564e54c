/-
  Operations on values: what the model answers where the abstract machine does.
-/
import Derived.Test.YtdkpmlhbofgfdaaGreatDoorAmMem
import Derived.Laws.StructEq
import Derived.Laws.Strings
import Derived.Laws.Entries
import Derived.WalkSpells
set_option linter.unusedSimpArgs false
set_option linter.unusedVariables false
namespace Go.Proofs.YtdkpmlhbofgfdaaGreatDoor.AM
open Go Go.RowKit

variable {base : Nat} {m : Inj} {H : AHeap} {W : World} {P : Program}

theorem str_inv {l : List UInt8} {c : Value} (h : VR m (.str l) c) : ∃ s : ByteArray, c = .string s ∧ s.data.toList = l := by
  cases h with
  | str s => exact ⟨s, rfl, rfl⟩
theorem VR.str' (m : Inj) (l : List UInt8) : VR m (.str l) (.string ⟨⟨l⟩⟩) := .str ⟨⟨l⟩⟩
theorem VR.ofStr {m : Inj} {l : List UInt8} {s : ByteArray} (h : s.data.toList = l) : VR m (.str l) (.string s) := by subst h; exact .str s
theorem size_of {l : List UInt8} {s : ByteArray} (h : s.data.toList = l) : s.size = l.length := by subst h; exact Array.length_toList.symm

theorem sim_int (P : Program) (W : World) (op : BinOp) (t : TypeId) (k : IntKind) (a b : Int) (v : AV) (hsh : op ≠ .shl ∧ op ≠ .shr) (h : intBin op k a b = some v) :
    ∃ c, (Go.binOp op t (.int k a) (.int k b)).run P W = .ok c W ∧ VR m v c := by
  cases op <;> simp only [intBin] at h <;> first
    | (injection h with h; subst h; first | refine ⟨_, ?_, .int _ _⟩ | refine ⟨_, ?_, .bool _⟩
       simp only [Go.binOp, Op.intArith, Op.intCmp, Op.intBits, ne_eq, not_true_eq_false, if_false, Sem.run_pure])
    | (split at h
       · cases h
       · rename_i hb; injection h with h; subst h; refine ⟨_, ?_, .int _ _⟩; simp [Go.binOp, Op.intDiv, hb])
    | cases h
theorem sim_shift (P : Program) (W : World) (op : BinOp) (t : TypeId) (k j : IntKind) (a b : Int) (v : AV) (h : shiftBin op k a b = some v) (hsh : op = .shl ∨ op = .shr) :
    ∃ c, (Go.binOp op t (.int k a) (.int j b)).run P W = .ok c W ∧ VR m v c := by
  unfold shiftBin at h
  split at h
  · cases h
  · rename_i hb
    rcases hsh with rfl | rfl <;> injection h with h <;> subst h <;> refine ⟨_, ?_, .int _ _⟩ <;> simp [Go.binOp, Op.shift, hb]
theorem sim_str (P : Program) (W : World) (op : BinOp) (t : TypeId) (x y : ByteArray) (v : AV) (h : strBin op x.data.toList y.data.toList = some v) (hsh : op ≠ .shl ∧ op ≠ .shr) :
    ∃ c, (Go.binOp op t (.string x) (.string y)).run P W = .ok c W ∧ VR m v c := by
  have e1 : x.toList = x.data.toList := ByteArray.toList_eq x
  have e2 : y.toList = y.data.toList := ByteArray.toList_eq y
  cases op <;> simp only [strBin] at h <;> first
    | (split at h
       · rename_i hl
         injection h with h; subst h
         refine ⟨.string (x ++ y), ?_, .ofStr (by simp)⟩
         have hs : ¬ (((x.size + y.size : Nat) : Int) > IntKind.i64.max) := by
           rw [show IntKind.i64.max = 9223372036854775807 from rfl]
           simp only [ByteArray.size]
           have : x.data.toList.length = x.data.size := by simp
           have : y.data.toList.length = y.data.size := by simp
           omega
         simp only [Go.binOp, Op.stringOp, if_neg hs, Sem.run_pure]
       · cases h)
    | (injection h with h; subst h; refine ⟨_, ?_, .bool _⟩; simp only [Go.binOp, Op.stringOp, e1, e2, Sem.run_pure])
    | cases h
theorem sim_bin (P : Program) (W : World) (op : BinOp) (t : TypeId) {x y v : AV} {c d : Value} (hx : VR m x c) (hy : VR m y d) (h : binV op x y = some v) :
    ∃ r, (Go.binOp op t c d).run P W = .ok r W ∧ VR m v r := by
  unfold binV at h
  split at h
  · rename_i k a j b
    cases hx; cases hy
    by_cases hs : op = .shl ∨ op = .shr
    · refine sim_shift P W op t k j a b v ?_ hs
      rcases hs with rfl | rfl <;> exact h
    · have hs' : op ≠ .shl ∧ op ≠ .shr := ⟨fun e => hs (.inl e), fun e => hs (.inr e)⟩
      have h' : (if k = j then intBin op k a b else none) = some v := by
        cases op <;> first | exact h | exact absurd rfl hs'.1 | exact absurd rfl hs'.2
      split at h'
      · rename_i e; subst e; exact sim_int P W op t k a b v hs' h'
      · cases h'
  · obtain ⟨s, rfl, rfl⟩ := str_inv hx
    obtain ⟨s', rfl, rfl⟩ := str_inv hy
    by_cases hs : op = .shl ∨ op = .shr
    · rcases hs with rfl | rfl <;> cases h
    · have hs' : op ≠ .shl ∧ op ≠ .shr := ⟨fun e => hs (.inl e), fun e => hs (.inr e)⟩
      refine sim_str P W op t s s' v ?_ hs'
      cases op <;> first | exact h | exact absurd rfl hs'.1 | exact absurd rfl hs'.2
  · cases h
theorem guard_ok (P : Program) (W : World) (op : BinOp) (t : TypeId) (X Y : Operand) (c d : Value) (h : ∀ x y, ¬ (c = .agg x ∧ d = .agg y)) (h2 : ¬ (c = .nilIface ∧ d = .nilIface)) :
    (eqGuard op t X Y c d).run P W = .ok () W := by
  have e : eqGuard op t X Y c d = pure () := by
    unfold eqGuard
    cases op
    all_goals first
      | rfl
      | (simp only [Bool.not_true, Bool.false_eq_true, if_false]
         split
         · exact absurd ⟨rfl, rfl⟩ h2
         · exact absurd ⟨rfl, rfl⟩ (h _ _)
         · rfl)
  rw [e]; rfl
/-- == and != go by Equal where the operands are no numbers and no strings -/
theorem eql_run (P : Program) (W : World) (g : Bool) (t : TypeId) (c d : Value) (b : Bool) (hc : ∀ k n, c ≠ .int k n) (hs : ∀ s, c ≠ .string s) (hf : ∀ k n, c ≠ .float k n) (hx : ∀ k n r, c ≠ .complex k n r)
    (h : (Op.equal t c d).run P W = .ok b W) : (Go.binOp (if g then .neq else .eql) t c d).run P W = .ok (.bool (xor g b)) W := by
  cases g
  · have : Go.binOp .eql t c d = (do pure (.bool (← Op.equal t c d)) : Sem Value) := by
      cases c <;> first | rfl | exact absurd rfl (hc _ _) | exact absurd rfl (hs _) | exact absurd rfl (hf _ _) | exact absurd rfl (hx _ _ _)
    simp [this, h]
  · have : Go.binOp .neq t c d = (do pure (.bool (!(← Op.equal t c d))) : Sem Value) := by
      cases c <;> first | rfl | exact absurd rfl (hc _ _) | exact absurd rfl (hs _) | exact absurd rfl (hf _ _) | exact absurd rfl (hx _ _ _)
    simp [this, h]
/-- Equal, one step -/
theorem eqDeep (t : TypeId) (x y : Value) : ∃ n, Op.equal t x y = Op.equalIn (n + 1) t x y := ⟨9999, rfl⟩
theorem isNilIface_eq {X : Operand} (h : isNilIface X = true) : X = .const .nilIface := by
  unfold isNilIface at h
  split at h
  · rfl
  · cases h
theorem sim_nileq (P : Program) (W : World) (g : Bool) (t : TypeId) (X Y : Operand) {x y : AV} {c d : Value} {b : Bool} {D : TypeDesc} {k : Nat} (hx : VR m x c) (hy : VR m y d) (h : nileqV k x y = some b)
    (hu : P.underlying t = some D) (hD : (k = 0 ∧ ∃ e, D = .pointer e) ∨ (k = 1 ∧ ∃ e, D = .slice e) ∨ (k = 2 ∧ ∃ e f, D = .map e f) ∨ (k = 3 ∧ ∃ e f v, D = .func e f v) ∨ (k = 4 ∧ (∃ e, D = .interface e) ∧ (isNilIface X = true ∨ isNilIface Y = true))) :
    (do eqGuard (if g then .neq else .eql) t X Y c d; Go.binOp (if g then .neq else .eql) t c d : Sem Value).run P W = .ok (.bool (xor g b)) W := by
  unfold nileqV at h
  split at h
  · rename_i i a j b' hi hj
    split at h
    · rename_i hk
      obtain ⟨rfl, rfl, hab⟩ := hk
      injection h with h
      subst h
      have hg : (eqGuard (if g then .neq else .eql) t X Y c d).run P W = .ok () W := by
        by_cases hn : c = .nilIface ∧ d = .nilIface
        · obtain ⟨rfl, rfl⟩ := hn
          cases hx
          simp only [nilKind] at hi
          injection hi with hi
          injection hi with hi _
          subst hi
          simp only [reduceCtorEq, false_and, false_or, Nat.reduceEqDiff, Nat.one_ne_zero, true_and] at hD
          have e : eqGuard (if g then .neq else .eql) t X Y .nilIface .nilIface = pure () := by
            rcases hD.2 with hi | hi <;> have hi := isNilIface_eq hi <;> subst hi
            · cases g <;> rfl
            · cases g <;> cases X <;> rfl
          rw [e]; rfl
        · refine guard_ok P W _ t X Y c d (fun u v hc => ?_) hn
          obtain ⟨rfl, rfl⟩ := hc
          cases hx
          simp [nilKind] at hi
      simp only [Sem.run_bind, hg, Result.andThen_ok]
      cases x <;> simp only [nilKind, reduceCtorEq] at hi <;> (injection hi with hi; injection hi with hi1 hi2; subst hi1; subst hi2) <;>
        cases y <;> simp only [nilKind, reduceCtorEq] at hj <;> (injection hj with hj; injection hj with hj1 hj2; first | (cases hj1; done) | skip) <;>
        (subst hj2; first | (simp at hab; done) | skip) <;> cases hx <;> cases hy <;>
        simp only [true_and, false_and, or_false, false_or, Nat.reduceEqDiff, Nat.zero_ne_one, Nat.one_ne_zero] at hD
      all_goals refine eql_run P W g t _ _ _ (by simp) (by simp) (by simp) (by simp) ?_
      all_goals first
        | (obtain ⟨e, rfl⟩ := hD; (rw [(eqDeep t _ _).choose_spec]; generalize (eqDeep t _ _).choose = n); simp only [Op.equalIn, Sem.run_bind, run_underlying hu, Result.andThen_ok, Sem.run_pure, Bool.and_self, Bool.and_false, Bool.false_and, Option.isNone_none, Option.isNone_some])
        | (obtain ⟨e, f, rfl⟩ := hD; (rw [(eqDeep t _ _).choose_spec]; generalize (eqDeep t _ _).choose = n); simp only [Op.equalIn, Sem.run_bind, run_underlying hu, Result.andThen_ok, Sem.run_pure, Bool.and_self, Bool.and_false, Bool.false_and, Option.isNone_none, Option.isNone_some])
        | (obtain ⟨e, f, v, rfl⟩ := hD; (rw [(eqDeep t _ _).choose_spec]; generalize (eqDeep t _ _).choose = n); simp only [Op.equalIn, Sem.run_bind, run_underlying hu, Result.andThen_ok, Sem.run_pure, Bool.and_self, Bool.and_false, Bool.false_and, Option.isNone_none, Option.isNone_some])
        | (obtain ⟨⟨e, rfl⟩, _⟩ := hD; (rw [(eqDeep t _ _).choose_spec]; generalize (eqDeep t _ _).choose = n); simp only [Op.equalIn, Sem.run_bind, run_underlying hu, Result.andThen_ok, Sem.run_pure, Bool.and_self, Bool.and_false, Bool.false_and, Option.isNone_none, Option.isNone_some])
    · cases h
  · cases h
end Go.Proofs.YtdkpmlhbofgfdaaGreatDoor.AM
