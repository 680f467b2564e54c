/-
  The document's parameters as a function, and that they are the list's: plain, no program in sight.
-/
import Derived.Test.YtbokakhpdlkkkaaParams1
set_option linter.unusedVariables false
namespace Go.Proofs.Ytbokakhpdlkkkaa.AM
open Go
structure RS where
  all : List (List Int)
  one : List Int
  n : Int
  any : Bool
  parts : Nat
def RS.sep (c : Int) (any : Bool) (r : RS) : RS :=
  let one := if r.parts ≤ 8 then r.one ++ [r.n] else r.one
  if c = 59 then ⟨if any = true ∧ r.all.length < 16 then r.all ++ [one] else r.all, [], 0, any, 1⟩ else ⟨r.all, one, 0, any, r.parts + 1⟩
def RS.step (c : Int) (fin : Bool) (r : RS) : RS :=
  if c < 48 ∨ 59 < c then r else
  let any := if fin = true then r.any else true
  if c ≤ 57 then ⟨r.all, r.one, if r.parts ≤ 8 then min (10 * r.n + (c - 48)) 9999 else r.n, any, r.parts⟩ else r.sep c any
def RS.none : RS := ⟨[], [], 0, false, 1⟩
def RS.feed (r : RS) (t : List UInt8) : RS := t.foldl (fun r b => r.step (b.toNat : Int) false) r
def refAll (t : List UInt8) : List (List Int) := ((RS.none.feed t).step 59 true).all
/-- the two states side by side -/
def Side (s : PS) (r : RS) : Prop :=
  (r.any = false ∧ s = PS.none ∧ r = RS.none) ∨
  (r.any = true ∧ s.ov = true ∧ r.all.length = 16 ∧ s.L = r.all ∧ 1 ≤ r.parts) ∨
  (r.any = true ∧ s.ov = false ∧ r.all.length < 16 ∧ ((s.fu = false ∧ r.parts ≤ 8 ∧ r.one.length + 1 = r.parts ∧ s.L = r.all ++ [r.one ++ [r.n]]) ∨ (s.fu = true ∧ 8 < r.parts ∧ r.one.length = 8 ∧ s.L = r.all ++ [r.one])))
theorem side_step {c : Int} {s : PS} {r : RS} (h : Side s r) (hc : 48 ≤ c ∧ c ≤ 59) : Side (s.byte c) (r.step c false) := by
  have hb : s.byte c = if s.ov = true then s else PS.step c (if s.L.length = 0 then s.begins else s) := by
    unfold PS.byte
    by_cases ho : s.ov = true
    · rw [if_pos (.inl ho), if_pos ho]
    · rw [if_neg (by simp [ho]; omega), if_neg ho]
  have hr : r.step c false = if c ≤ 57 then ⟨r.all, r.one, if r.parts ≤ 8 then min (10 * r.n + (c - 48)) 9999 else r.n, true, r.parts⟩ else r.sep c true := by
    unfold RS.step
    rw [if_neg (by omega)]
    rfl
  have main : ∀ (s : PS) (r : RS), s.ov = false → r.all.length < 16 → ((s.fu = false ∧ r.parts ≤ 8 ∧ r.one.length + 1 = r.parts ∧ s.L = r.all ++ [r.one ++ [r.n]]) ∨ (s.fu = true ∧ 8 < r.parts ∧ r.one.length = 8 ∧ s.L = r.all ++ [r.one])) →
      Side (PS.step c s) (if c ≤ 57 then ⟨r.all, r.one, if r.parts ≤ 8 then min (10 * r.n + (c - 48)) 9999 else r.n, true, r.parts⟩ else r.sep c true) := by
    intro s r ho hlen hcase
    obtain ⟨cur, hL⟩ : ∃ cur, s.L = r.all ++ [cur] := by
      rcases hcase with ⟨_, _, _, h⟩ | ⟨_, _, _, h⟩ <;> exact ⟨_, h⟩
    have hstep : PS.step c s = s.last c r.all cur := by unfold PS.step; rw [hL]; simp
    rw [hstep]
    unfold PS.last
    by_cases h59 : c = 59
    · rw [if_pos h59, if_neg (show ¬ c ≤ 57 by omega)]
      have hcur : (if r.parts ≤ 8 then r.one ++ [r.n] else r.one) = cur := by
        rcases hcase with ⟨_, h1, _, h⟩ | ⟨_, h1, _, h⟩
        · rw [if_pos h1]; rw [hL] at h; simpa using h.symm
        · rw [if_neg (by omega)]; rw [hL] at h; simpa using h.symm
      have hs : r.sep c true = ⟨r.all ++ [cur], [], 0, true, 1⟩ := by
        unfold RS.sep
        simp only [hcur, if_pos h59, hlen, and_self, if_true]
      rw [hs]
      unfold PS.begins
      by_cases h16 : s.L.length = 16
      · rw [if_pos h16]
        refine .inr (.inl ⟨rfl, rfl, ?_, hL, by simp⟩)
        rw [hL] at h16; exact h16
      · rw [if_neg h16]
        rw [hL] at h16 ⊢
        refine .inr (.inr ⟨rfl, rfl, ?_, .inl ⟨rfl, by simp, by simp, rfl⟩⟩)
        simp at h16 ⊢; omega
    · rw [if_neg h59]
      rcases hcase with ⟨hfu, hp, hone, h⟩ | ⟨hfu, hp, hone, h⟩
      · rw [hL] at h
        have hcur : cur = r.one ++ [r.n] := by simpa using h
        rw [if_neg (by simp [hfu])]
        by_cases h58 : c = 58
        · have hs : r.sep c true = ⟨r.all, r.one ++ [r.n], 0, true, r.parts + 1⟩ := by unfold RS.sep; simp only [if_pos hp, if_neg h59]
          rw [if_pos h58, if_neg (show ¬ c ≤ 57 by omega), hs]
          by_cases h8 : cur.length = 8
          · rw [if_pos h8]
            have : r.one.length = 7 := by rw [hcur] at h8; simpa using h8
            exact .inr (.inr ⟨rfl, ho, hlen, .inr ⟨rfl, by simp; omega, by simp; omega, by rw [← hcur]; exact hL⟩⟩)
          · rw [if_neg h8]
            have : r.one.length ≠ 7 := by rw [hcur] at h8; simpa using h8
            exact .inr (.inr ⟨rfl, ho, hlen, .inl ⟨hfu, by simp; omega, by simp; omega, by simp [hcur]⟩⟩)
        · rw [if_neg h58, if_pos (show c ≤ 57 by omega), if_pos hp]
          refine .inr (.inr ⟨rfl, ho, hlen, .inl ⟨hfu, hp, hone, ?_⟩⟩)
          simp [hcur]
      · rw [hL] at h
        have hcur : cur = r.one := by simpa using h
        rw [if_pos hfu]
        by_cases h58 : c = 58
        · have hs : r.sep c true = ⟨r.all, r.one, 0, true, r.parts + 1⟩ := by unfold RS.sep; simp only [if_neg (by omega : ¬ r.parts ≤ 8), if_neg h59]
          rw [if_neg (show ¬ c ≤ 57 by omega), hs]
          exact .inr (.inr ⟨rfl, ho, hlen, .inr ⟨hfu, by simp; omega, hone, by rw [← hcur]; exact hL⟩⟩)
        · rw [if_pos (show c ≤ 57 by omega), if_neg (show ¬ r.parts ≤ 8 by omega)]
          exact .inr (.inr ⟨rfl, ho, hlen, .inr ⟨hfu, hp, hone, by rw [← hcur]; exact hL⟩⟩)
  rw [hb, hr]
  rcases h with ⟨ha, rfl, rfl⟩ | ⟨ha, ho, hlen, hL, hp⟩ | ⟨ha, ho, hlen, hcase⟩
  · rw [if_neg (by simp [PS.none]), if_pos (by simp [PS.none])]
    have : PS.none.begins = ⟨[[0]], false, false⟩ := rfl
    rw [this]
    exact main ⟨[[0]], false, false⟩ RS.none rfl (by simp [RS.none]) (.inl ⟨rfl, by simp [RS.none], by simp [RS.none], rfl⟩)
  · rw [if_pos ho]
    refine .inr (.inl ?_)
    by_cases h57 : c ≤ 57
    · rw [if_pos h57]; exact ⟨rfl, ho, hlen, hL, hp⟩
    · rw [if_neg h57]
      unfold RS.sep
      by_cases h59 : c = 59
      · simp only [if_pos h59, hlen, Nat.lt_irrefl, and_false, if_false]; exact ⟨trivial, ho, trivial, hL, by simp⟩
      · simp only [if_neg h59]; exact ⟨trivial, ho, hlen, hL, by omega⟩
  · rw [if_neg (by simp [ho])]
    have hne : ¬ s.L.length = 0 := by rcases hcase with ⟨_, _, _, h⟩ | ⟨_, _, _, h⟩ <;> rw [h] <;> simp
    rw [if_neg hne]
    exact main s r ho hlen hcase
theorem side_feed : ∀ (t : List UInt8) {s : PS} {r : RS}, Side s r → Side (s.feed t) (r.feed t)
  | [], s, r, h => h
  | b :: t, s, r, h => by
    refine side_feed t (s := s.byte (b.toNat : Int)) (r := r.step (b.toNat : Int) false) ?_
    by_cases hc : 48 ≤ (b.toNat : Int) ∧ (b.toNat : Int) ≤ 59
    · exact side_step h hc
    · have h1 : s.byte (b.toNat : Int) = s := by unfold PS.byte; rw [if_pos (by omega)]
      have h2 : r.step (b.toNat : Int) false = r := by unfold RS.step; rw [if_pos (by omega)]
      rw [h1, h2]; exact h
theorem ref_eq (t : List UInt8) : refAll t = (PS.none.feed t).L := by
  have h := side_feed t (s := PS.none) (r := RS.none) (.inl ⟨rfl, rfl, rfl⟩)
  unfold refAll
  generalize PS.none.feed t = s at h ⊢
  generalize RS.none.feed t = r at h ⊢
  have hs : r.step 59 true = r.sep 59 r.any := by
    unfold RS.step
    rw [if_neg (by omega)]
    simp
  rw [hs]
  unfold RS.sep
  simp only [if_true]
  rcases h with ⟨ha, rfl, rfl⟩ | ⟨ha, ho, hlen, hL, hp⟩ | ⟨ha, ho, hlen, hcase⟩
  · rfl
  · simp only [hlen, Nat.lt_irrefl, and_false, if_false]; exact hL.symm
  · simp only [ha, hlen, and_self, if_true]
    rcases hcase with ⟨_, h1, _, h⟩ | ⟨_, h1, _, h⟩
    · rw [if_pos h1, h]
    · rw [if_neg (by omega), h]
end Go.Proofs.Ytbokakhpdlkkkaa.AM
