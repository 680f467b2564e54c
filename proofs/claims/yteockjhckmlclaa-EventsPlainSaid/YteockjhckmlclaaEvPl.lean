/-
  Characters as bytes, and what the parser of events tells of them. No program in sight.
-/
import Derived.Test.YteockjhckmlclaaExC
set_option linter.unusedVariables false
set_option linter.unusedSimpArgs false
namespace Go.Proofs.Yteockjhckmlclaa.AM
open Go
/-- a character that is written as it is read -/
structure Chr (r : Nat) : Prop where
  lo : 32 ≤ r
  d : r ≠ 127
  v : r < 55296 ∨ (57344 ≤ r ∧ r ≤ 1114111)
def encU (r : Nat) : List UInt8 := (Utf8.encode (r : Int)).data.toList
theorem enc_valid {r : Nat} (h : r < 55296 ∨ (57344 ≤ r ∧ r ≤ 1114111)) : Utf8.valid (r : Int) = true := by
  unfold Utf8.valid
  rcases h with h | ⟨h, h'⟩
  · have : ((r : Int) < 55296) := by omega
    simp [this]
  · have h1 : ((57344 : Int) ≤ r) := by omega
    have h2 : ((r : Int) ≤ 1114111) := by omega
    simp [h1, h2]
set_option maxRecDepth 100000 in
theorem encU_eq {r : Nat} (h : r < 55296 ∨ (57344 ≤ r ∧ r ≤ 1114111)) : encU r = if r < 128 then [UInt8.ofNat r] else if r < 2048 then [UInt8.ofNat (192 + r / 64), UInt8.ofNat (128 + r % 64)]
    else if r < 65536 then [UInt8.ofNat (224 + r / 4096), UInt8.ofNat (128 + r / 64 % 64), UInt8.ofNat (128 + r % 64)]
    else [UInt8.ofNat (240 + r / 262144), UInt8.ofNat (128 + r / 4096 % 64), UInt8.ofNat (128 + r / 64 % 64), UInt8.ofNat (128 + r % 64)] := by
  unfold encU Utf8.encode
  dsimp only
  rw [if_pos (enc_valid h), Int.toNat_natCast]
  by_cases c1 : r < 128
  · rw [if_pos c1, if_pos c1]
  · rw [if_neg c1, if_neg c1]
    by_cases c2 : r < 2048
    · rw [if_pos c2, if_pos c2]
    · rw [if_neg c2, if_neg c2]
      by_cases c3 : r < 65536
      · rw [if_pos c3, if_pos c3]
      · rw [if_neg c3, if_neg c3]
theorem encU_len {r : Nat} (h : r < 55296 ∨ (57344 ≤ r ∧ r ≤ 1114111)) : (encU r).length ≤ 4 := by
  rw [encU_eq h]
  by_cases c1 : r < 128
  · rw [if_pos c1]; simp
  · rw [if_neg c1]
    by_cases c2 : r < 2048
    · rw [if_pos c2]; simp
    · rw [if_neg c2]
      by_cases c3 : r < 65536
      · rw [if_pos c3]; simp
      · rw [if_neg c3]; simp
theorem dec_pos (s : ByteArray) (i : Nat) : 1 ≤ (Utf8.decode s i).2 ∧ (Utf8.decode s i).2 ≤ 4 := by
  unfold Utf8.decode
  simp only
  split
  · exact ⟨Nat.le_refl _, by simp⟩
  · split
    · split <;> simp
    · split
      · split <;> simp
      · split
        · split <;> simp
        · simp
theorem valid_nat {c : Nat} (h : Utf8.valid (c : Int) = true) : c < 55296 ∨ (57344 ≤ c ∧ c ≤ 1114111) := by
  unfold Utf8.valid at h
  simp at h
  omega
theorem dec_valid (s : ByteArray) (i : Nat) : (Utf8.decode s i).1 < 55296 ∨ (57344 ≤ (Utf8.decode s i).1 ∧ (Utf8.decode s i).1 ≤ 1114111) := by
  unfold Utf8.decode
  simp only
  split
  · rename_i h; left; simp only; omega
  · split
    · split
      · left
        simp only
        have : (s.get! (i + 0)).toNat < 256 := UInt8.toNat_lt _
        omega
      · right; simp [Utf8.runeError]
    · split
      · split
        · rename_i h
          simp only [ge_iff_le, Bool.and_eq_true, decide_eq_true_eq] at h
          exact valid_nat h.2
        · right; simp [Utf8.runeError]
      · split
        · split
          · rename_i h
            simp only [ge_iff_le, Bool.and_eq_true, decide_eq_true_eq] at h
            exact valid_nat h.2
          · right; simp [Utf8.runeError]
        · right; simp [Utf8.runeError]
/-! ### What is told -/
theorem step_plain {s : PSt} (h0 : s.st = 0) {c : UInt8} (h1 : 32 ≤ c.toNat) (h2 : c.toNat ≠ 127) : s.step c = ({ s with d := (s.d.byte c.toNat).2 } : PSt).prints (s.d.byte c.toNat).1 := by
  have hn : nx s.st c.toNat = (1, 0) := by
    rw [h0]
    unfold nx nGround
    rw [if_neg (by omega), if_neg (by omega), if_neg (by omega), if_neg (by omega), if_neg (by omega), if_neg (by omega), if_neg (by omega), if_neg (by omega), if_neg (by omega), if_neg (by omega), if_neg (by omega)]
  unfold PSt.step PSt.step1 PSt.step2 PSt.step3 PSt.doesS
  rw [hn]
  simp only [ne_eq, not_true_eq_false, if_false, h0, false_and, if_true]
  simp [PSt.prints, h0]
theorem ofNat_int {n : Nat} (h : n < 256) : ((UInt8.ofNat n).toNat : Int) = n := by
  rw [UInt8.toNat_ofNat', Nat.mod_eq_of_lt (by omega)]
theorem step_at {s : PSt} {D d : DSt} (h0 : s.st = 0) {n : Nat} (h1 : 32 ≤ n) (h2 : n ≠ 127) (h3 : n < 256) {xs : List Int} (h : D.byte (n : Int) = (xs, d)) : ({ s with d := D } : PSt).step (UInt8.ofNat n) = ({ s with d := d } : PSt).prints xs := by
  have e : (UInt8.ofNat n).toNat = n := by rw [UInt8.toNat_ofNat', Nat.mod_eq_of_lt (by omega)]
  rw [step_plain (s := ({ s with d := D } : PSt)) h0 (by omega) (by omega), e]
  show ({ s with d := (D.byte (n : Int)).2 } : PSt).prints (D.byte (n : Int)).1 = _
  rw [h]
theorem prints_d (s : PSt) (xs : List Int) : (s.prints xs).d = s.d := rfl
theorem prints_st (s : PSt) (xs : List Int) : (s.prints xs).st = s.st := rfl
theorem zero_byte {b l lo hi x : Int} (h : begD b = (l, lo, hi, x)) : DSt.zero.byte b = if l < 0 then ([65533], DSt.zero) else if l = 0 then ([x], DSt.zero) else ([], ⟨1, l, lo, hi, x⟩) := by
  unfold DSt.byte DSt.first
  rw [if_neg (by simp [DSt.zero]), if_neg (by simp [DSt.zero]), h]
theorem feed_chr {r : Nat} (h : Chr r) {s : PSt} (h0 : s.st = 0) (hd : s.d = DSt.zero) : s.feed (encU r) = s.prints [(r : Int)] := by
  obtain ⟨lo, n127, v⟩ := h
  have ez : ({ s with d := DSt.zero } : PSt) = s := by rw [← hd]
  suffices main : ({ s with d := DSt.zero } : PSt).feed (encU r) = ({ s with d := DSt.zero } : PSt).prints [(r : Int)] by
    rw [ez] at main; exact main
  rw [encU_eq v]
  by_cases c1 : r < 128
  · rw [if_pos c1]
    have hb : DSt.zero.byte (r : Int) = ([(r : Int)], DSt.zero) := by
      have hb : begD (r : Int) = (0, 0, 0, (r : Int)) := by unfold begD; rw [if_pos (by omega)]
      rw [zero_byte hb, if_neg (by omega), if_pos rfl]
    show PSt.step _ _ = _
    rw [step_at h0 lo n127 (by omega) hb]
  · rw [if_neg c1]
    by_cases c2 : r < 2048
    · rw [if_pos c2]
      have hb1 : DSt.zero.byte ((192 + r / 64 : Nat) : Int) = ([], ⟨1, 1, 128, 191, ((r / 64 : Nat) : Int)⟩) := by
        have hb : begD ((192 + r / 64 : Nat) : Int) = (1, 128, 191, ((r / 64 : Nat) : Int)) := by
          unfold begD
          rw [if_neg (by omega), if_neg (by omega), if_pos (by omega)]
          simp only [Prod.mk.injEq, true_and]
          omega
        rw [zero_byte hb, if_neg (by omega), if_neg (by omega)]
      have hb2 : (⟨1, 1, 128, 191, ((r / 64 : Nat) : Int)⟩ : DSt).byte ((128 + r % 64 : Nat) : Int) = ([(r : Int)], DSt.zero) := by
        unfold DSt.byte
        simp only
        rw [if_pos (by omega)]
        simp only [if_true, Prod.mk.injEq, and_true, List.cons.injEq]
        omega
      show (PSt.step _ _).step _ = _
      rw [step_at h0 (by omega) (by omega) (by omega) hb1, prints_nil, step_at h0 (by omega) (by omega) (by omega) hb2]
    · rw [if_neg c2]
      by_cases c3 : r < 65536
      · rw [if_pos c3]
        have hb0 : ∃ lo hi : Int, begD ((224 + r / 4096 : Nat) : Int) = (2, lo, hi, ((r / 4096 : Nat) : Int)) ∧ lo ≤ ((128 + r / 64 % 64 : Nat) : Int) ∧ ((128 + r / 64 % 64 : Nat) : Int) ≤ hi := by
          unfold begD
          rw [if_neg (by omega), if_neg (by omega), if_neg (by omega)]
          by_cases q1 : ((224 + r / 4096 : Nat) : Int) = 224
          · rw [if_pos q1]
            refine ⟨160, 191, ?_, by omega, by omega⟩
            simp only [Prod.mk.injEq, true_and]
            omega
          · rw [if_neg q1]
            by_cases q2 : ((224 + r / 4096 : Nat) : Int) = 237
            · rw [if_pos q2]
              refine ⟨128, 159, ?_, by omega, by omega⟩
              simp only [Prod.mk.injEq, true_and]
              omega
            · rw [if_neg q2, if_pos (by omega)]
              refine ⟨128, 191, ?_, by omega, by omega⟩
              simp only [Prod.mk.injEq, true_and]
              omega
        obtain ⟨lo', hi', hb0, g1, g2⟩ := hb0
        have hb1 : DSt.zero.byte ((224 + r / 4096 : Nat) : Int) = ([], ⟨1, 2, lo', hi', ((r / 4096 : Nat) : Int)⟩) := by rw [zero_byte hb0, if_neg (by omega), if_neg (by omega)]
        have hb2 : (⟨1, 2, lo', hi', ((r / 4096 : Nat) : Int)⟩ : DSt).byte ((128 + r / 64 % 64 : Nat) : Int) = ([], ⟨2, 1, 128, 191, ((r / 64 : Nat) : Int)⟩) := by
          unfold DSt.byte
          simp only
          rw [if_pos ⟨by omega, g1, g2⟩, if_neg (by omega)]
          simp only [Prod.mk.injEq, true_and, DSt.mk.injEq]
          omega
        have hb3 : (⟨2, 1, 128, 191, ((r / 64 : Nat) : Int)⟩ : DSt).byte ((128 + r % 64 : Nat) : Int) = ([(r : Int)], DSt.zero) := by
          unfold DSt.byte
          simp only
          rw [if_pos (by omega)]
          simp only [if_true, Prod.mk.injEq, and_true, List.cons.injEq]
          omega
        show ((PSt.step _ _).step _).step _ = _
        rw [step_at h0 (by omega) (by omega) (by omega) hb1, prints_nil, step_at h0 (by omega) (by omega) (by omega) hb2, prints_nil,
          step_at h0 (by omega) (by omega) (by omega) hb3]
      · rw [if_neg c3]
        have hb0 : ∃ lo hi : Int, begD ((240 + r / 262144 : Nat) : Int) = (3, lo, hi, ((r / 262144 : Nat) : Int)) ∧ lo ≤ ((128 + r / 4096 % 64 : Nat) : Int) ∧ ((128 + r / 4096 % 64 : Nat) : Int) ≤ hi := by
          unfold begD
          rw [if_neg (by omega), if_neg (by omega), if_neg (by omega), if_neg (by omega), if_neg (by omega), if_neg (by omega)]
          by_cases q1 : ((240 + r / 262144 : Nat) : Int) = 240
          · rw [if_pos q1]
            refine ⟨144, 191, ?_, by omega, by omega⟩
            simp only [Prod.mk.injEq, true_and]
            omega
          · rw [if_neg q1]
            by_cases q2 : ((240 + r / 262144 : Nat) : Int) = 244
            · rw [if_pos q2]
              refine ⟨128, 143, ?_, by omega, by omega⟩
              simp only [Prod.mk.injEq, true_and]
              omega
            · rw [if_neg q2]
              refine ⟨128, 191, ?_, by omega, by omega⟩
              simp only [Prod.mk.injEq, true_and]
              omega
        obtain ⟨lo', hi', hb0, g1, g2⟩ := hb0
        have hb1 : DSt.zero.byte ((240 + r / 262144 : Nat) : Int) = ([], ⟨1, 3, lo', hi', ((r / 262144 : Nat) : Int)⟩) := by rw [zero_byte hb0, if_neg (by omega), if_neg (by omega)]
        have hb2 : (⟨1, 3, lo', hi', ((r / 262144 : Nat) : Int)⟩ : DSt).byte ((128 + r / 4096 % 64 : Nat) : Int) = ([], ⟨2, 2, 128, 191, ((r / 4096 : Nat) : Int)⟩) := by
          unfold DSt.byte
          simp only
          rw [if_pos ⟨by omega, g1, g2⟩, if_neg (by omega)]
          simp only [Prod.mk.injEq, true_and, DSt.mk.injEq]
          omega
        have hb3 : (⟨2, 2, 128, 191, ((r / 4096 : Nat) : Int)⟩ : DSt).byte ((128 + r / 64 % 64 : Nat) : Int) = ([], ⟨3, 1, 128, 191, ((r / 64 : Nat) : Int)⟩) := by
          unfold DSt.byte
          simp only
          rw [if_pos (by omega), if_neg (by omega)]
          simp only [Prod.mk.injEq, true_and, DSt.mk.injEq]
          omega
        have hb4 : (⟨3, 1, 128, 191, ((r / 64 : Nat) : Int)⟩ : DSt).byte ((128 + r % 64 : Nat) : Int) = ([(r : Int)], DSt.zero) := by
          unfold DSt.byte
          simp only
          rw [if_pos (by omega)]
          simp only [if_true, Prod.mk.injEq, and_true, List.cons.injEq]
          omega
        show (((PSt.step _ _).step _).step _).step _ = _
        rw [step_at h0 (by omega) (by omega) (by omega) hb1, prints_nil, step_at h0 (by omega) (by omega) (by omega) hb2, prints_nil,
          step_at h0 (by omega) (by omega) (by omega) hb3, prints_nil, step_at h0 (by omega) (by omega) (by omega) hb4]
theorem feed_chrs : ∀ {rs : List Nat} {s : PSt}, (∀ r ∈ rs, Chr r) → s.st = 0 → s.d = DSt.zero → s.feed (rs.flatMap encU) = s.prints (rs.map fun r : Nat => (r : Int))
  | [], s, _, _, _ => by simp [PSt.feed, prints_nil]
  | r :: rs, s, h, h0, hd => by
    have e : (r :: rs).flatMap encU = encU r ++ rs.flatMap encU := by simp
    have ea : s.feed (encU r ++ rs.flatMap encU) = (s.feed (encU r)).feed (rs.flatMap encU) := by simp [PSt.feed]
    rw [e, ea, feed_chr (h r (by simp)) h0 hd, feed_chrs (s := s.prints [(r : Int)]) (fun x hx => h x (by simp [hx])) h0 hd]
    simp [PSt.prints]
end Go.Proofs.Yteockjhckmlclaa.AM
