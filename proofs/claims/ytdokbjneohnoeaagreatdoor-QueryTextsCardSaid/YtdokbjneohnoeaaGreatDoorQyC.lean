/-
  The document's way to letters, bit by bit, and to a pasted text: the plain functions, and that they are the program's.
-/
import Derived.Test.YtdokbjneohnoeaaGreatDoorQyB
set_option linter.unusedVariables false
set_option linter.unusedSimpArgs false
namespace Go.Proofs.YtdokbjneohnoeaaGreatDoor.AM
open Go
def bits8 (c : Nat) : List Nat := [c / 128 % 2, c / 64 % 2, c / 32 % 2, c / 16 % 2, c / 8 % 2, c / 4 % 2, c / 2 % 2, c / 1 % 2]
def bitsP (s : List UInt8) : List Nat := s.flatMap fun c => bits8 c.toNat
def valK (Z : List Nat) : Nat → Nat
  | 0 => 0
  | k + 1 => 2 * valK Z k + Z.getD k 0
def sixF : Nat → List Nat → List UInt8
  | 0, _ => []
  | f + 1, Z => if Z.length < 6 then [] else letN (valK Z 6) :: sixF f (Z.drop 6)
def pad (n : Nat) {α : Type} (X : List α) (z : α) : List α := X ++ List.replicate ((n - X.length % n) % n) z
theorem pad_pre (n : Nat) (h0 : 0 < n) {α : Type} (A X : List α) (z : α) (h : A.length % n = 0) : pad n (A ++ X) z = A ++ pad n X z := by
  unfold pad
  rw [List.length_append, List.append_assoc]
  have : (A.length + X.length) % n = X.length % n := by rw [Nat.add_mod, h, Nat.zero_add, Nat.mod_mod]
  rw [this]
theorem pad_len (n : Nat) (h0 : 0 < n) {α : Type} (X : List α) (z : α) : (pad n X z).length % n = 0 := by
  unfold pad
  rw [List.length_append, List.length_replicate]
  have hm := Nat.mod_lt X.length h0
  by_cases c : X.length % n = 0
  · rw [c, Nat.sub_zero, Nat.mod_self, Nat.add_zero]; exact c
  · rw [Nat.mod_eq_of_lt (by omega : n - X.length % n < n)]
    have := Nat.div_add_mod X.length n
    rw [show X.length + (n - X.length % n) = n * (X.length / n + 1) by rw [Nat.mul_add]; omega, Nat.mul_mod_right]
def refP (s : List UInt8) : List UInt8 := pad 4 (sixF (pad 6 (bitsP s) 0).length (pad 6 (bitsP s) 0)) 61
theorem sixF_fuel : ∀ (f g : Nat) (Z : List Nat), Z.length ≤ f → Z.length ≤ g → sixF f Z = sixF g Z
  | 0, g, Z, h, _ => by
    obtain rfl : Z = [] := List.length_eq_zero_iff.1 (by omega)
    cases g <;> simp [sixF]
  | f + 1, 0, Z, _, h => by
    obtain rfl : Z = [] := List.length_eq_zero_iff.1 (by omega)
    simp [sixF]
  | f + 1, g + 1, Z, h, h' => by
    simp only [sixF]
    split
    · rfl
    · rw [sixF_fuel f g _ (by simp; omega) (by simp; omega)]
theorem six_cons (f : Nat) (a b c d e g : Nat) (Z : List Nat) (hf : Z.length + 6 ≤ f) : sixF f (a :: b :: c :: d :: e :: g :: Z) = letN (valK [a, b, c, d, e, g] 6) :: sixF Z.length Z := by
  obtain ⟨f, rfl⟩ : ∃ k, f = k + 1 := ⟨f - 1, by omega⟩
  rw [sixF, if_neg (by simp)]
  have : valK (a :: b :: c :: d :: e :: g :: Z) 6 = valK [a, b, c, d, e, g] 6 := by simp [valK]
  rw [this]
  simp only [List.drop_succ_cons, List.drop_zero]
  rw [sixF_fuel f Z.length Z (by omega) (Nat.le_refl _)]
theorem refP_nil : refP [] = [] := by simp [refP, bitsP, pad, sixF]
theorem encF_two (f g : Nat) (r : List UInt8) (h : r.length ≤ f) (h' : r.length ≤ g) : encF f r = encF g r := by
  induction f generalizing g r with
  | zero =>
    obtain rfl : r = [] := List.length_eq_zero_iff.1 (by omega)
    rw [encF_nil, encF_nil]
  | succ f ih =>
    cases g with
    | zero =>
      obtain rfl : r = [] := List.length_eq_zero_iff.1 (by omega)
      rw [encF_nil, encF_nil]
    | succ g =>
      simp only [encF]
      split
      · rfl
      · rename_i hne
        have := List.length_pos_iff.2 hne
        rw [ih g (r.drop 3) (by simp; omega) (by simp; omega)]
set_option maxHeartbeats 8000000 in
theorem ref_enc : ∀ (n : Nat) (s : List UInt8), s.length ≤ n → refP s = encP s
  | _, [], _ => by rw [refP_nil]; rfl
  | _, [a], _ => by
    have ha := UInt8.toNat_lt a
    have hw : w3 [a] 3 = a.toNat * 65536 := by simp [w3]; omega
    have e : encP [a] = [letN (a.toNat * 65536 / 262144 % 64), letN (a.toNat * 65536 / 4096 % 64), 61, 61] := by
      show encF 1 [a] = _
      simp only [encF, hw, quadOf, qat]
      simp
    rw [e]
    have p : pad 6 (bitsP [a]) 0 = bits8 a.toNat ++ [0, 0, 0, 0] := by simp [pad, bitsP, bits8]
    unfold refP
    rw [p]
    simp only [bits8, List.cons_append, List.nil_append]
    rw [six_cons _ _ _ _ _ _ _ _ (by simp), six_cons _ _ _ _ _ _ _ _ (by simp)]
    have h1 : valK [a.toNat / 128 % 2, a.toNat / 64 % 2, a.toNat / 32 % 2, a.toNat / 16 % 2, a.toNat / 8 % 2, a.toNat / 4 % 2] 6 = a.toNat * 65536 / 262144 % 64 := by simp only [valK, List.getD_cons_zero, List.getD_cons_succ]; omega
    have h2 : valK [a.toNat / 2 % 2, a.toNat / 1 % 2, 0, 0, 0, 0] 6 = a.toNat * 65536 / 4096 % 64 := by simp only [valK, List.getD_cons_zero, List.getD_cons_succ]; omega
    rw [h1, h2]
    simp [sixF, pad]
  | _, [a, b], _ => by
    have ha := UInt8.toNat_lt a
    have hb := UInt8.toNat_lt b
    have hw : w3 [a, b] 3 = a.toNat * 65536 + b.toNat * 256 := by simp [w3]; omega
    obtain ⟨w, hw2⟩ : ∃ w, a.toNat * 65536 + b.toNat * 256 = w := ⟨_, rfl⟩
    have e : encP [a, b] = [letN (w / 262144 % 64), letN (w / 4096 % 64), letN (w / 64 % 64), 61] := by
      show encF 2 [a, b] = _
      simp only [encF, hw, hw2, quadOf, qat]
      simp
    rw [e]
    have p : pad 6 (bitsP [a, b]) 0 = bits8 a.toNat ++ bits8 b.toNat ++ [0, 0] := by simp [pad, bitsP, bits8]
    unfold refP
    rw [p]
    simp only [bits8, List.cons_append, List.nil_append]
    rw [six_cons _ _ _ _ _ _ _ _ (by simp), six_cons _ _ _ _ _ _ _ _ (by simp), six_cons _ _ _ _ _ _ _ _ (by simp)]
    have h1 : valK [a.toNat / 128 % 2, a.toNat / 64 % 2, a.toNat / 32 % 2, a.toNat / 16 % 2, a.toNat / 8 % 2, a.toNat / 4 % 2] 6 = w / 262144 % 64 := by simp only [valK, List.getD_cons_zero, List.getD_cons_succ]; omega
    have h2 : valK [a.toNat / 2 % 2, a.toNat / 1 % 2, b.toNat / 128 % 2, b.toNat / 64 % 2, b.toNat / 32 % 2, b.toNat / 16 % 2] 6 = w / 4096 % 64 := by simp only [valK, List.getD_cons_zero, List.getD_cons_succ]; omega
    have h3 : valK [b.toNat / 8 % 2, b.toNat / 4 % 2, b.toNat / 2 % 2, b.toNat / 1 % 2, 0, 0] 6 = w / 64 % 64 := by simp only [valK, List.getD_cons_zero, List.getD_cons_succ]; omega
    rw [h1, h2, h3]
    simp [sixF, pad]
  | 0, a :: b :: c :: r, h => by simp at h
  | n + 1, a :: b :: c :: r, h => by
    have ih := ref_enc n r (by simp only [List.length_cons] at h; omega)
    have ha := UInt8.toNat_lt a
    have hb := UInt8.toNat_lt b
    have hc := UInt8.toNat_lt c
    have hw : w3 (a :: b :: c :: r) 3 = a.toNat * 65536 + b.toNat * 256 + c.toNat := by simp [w3]; omega
    obtain ⟨w, hw2⟩ : ∃ w, a.toNat * 65536 + b.toNat * 256 + c.toNat = w := ⟨_, rfl⟩
    have hm : min (a :: b :: c :: r).length 3 = 3 := by simp only [List.length_cons]; omega
    have e : encP (a :: b :: c :: r) = [letN (w / 262144 % 64), letN (w / 4096 % 64), letN (w / 64 % 64), letN (w % 64)] ++ encP r := by
      show encF (r.length + 1 + 1 + 1) (a :: b :: c :: r) = _
      rw [encF, if_neg (by simp), hm, hw, hw2]
      simp only [List.drop_succ_cons, List.drop_zero]
      rw [encF_two (r.length + 1 + 1) r.length r (by omega) (Nat.le_refl _)]
      simp [quadOf, qat, encP]
    rw [e, ← ih]
    have p : pad 6 (bitsP (a :: b :: c :: r)) 0 = (bits8 a.toNat ++ bits8 b.toNat ++ bits8 c.toNat) ++ pad 6 (bitsP r) 0 := by
      rw [← pad_pre 6 (by omega) _ _ _ (by simp [bits8])]
      simp [bitsP]
    unfold refP
    rw [p]
    obtain ⟨Y, hY⟩ : ∃ Y, pad 6 (bitsP r) 0 = Y := ⟨_, rfl⟩
    rw [hY]
    simp only [bits8, List.cons_append, List.nil_append]
    rw [six_cons _ _ _ _ _ _ _ _ (by simp), six_cons _ _ _ _ _ _ _ _ (by simp), six_cons _ _ _ _ _ _ _ _ (by simp), six_cons _ _ _ _ _ _ _ _ (by simp)]
    have h1 : valK [a.toNat / 128 % 2, a.toNat / 64 % 2, a.toNat / 32 % 2, a.toNat / 16 % 2, a.toNat / 8 % 2, a.toNat / 4 % 2] 6 = w / 262144 % 64 := by simp only [valK, List.getD_cons_zero, List.getD_cons_succ]; omega
    have h2 : valK [a.toNat / 2 % 2, a.toNat / 1 % 2, b.toNat / 128 % 2, b.toNat / 64 % 2, b.toNat / 32 % 2, b.toNat / 16 % 2] 6 = w / 4096 % 64 := by simp only [valK, List.getD_cons_zero, List.getD_cons_succ]; omega
    have h3 : valK [b.toNat / 8 % 2, b.toNat / 4 % 2, b.toNat / 2 % 2, b.toNat / 1 % 2, c.toNat / 128 % 2, c.toNat / 64 % 2] 6 = w / 64 % 64 := by simp only [valK, List.getD_cons_zero, List.getD_cons_succ]; omega
    have h4 : valK [c.toNat / 32 % 2, c.toNat / 16 % 2, c.toNat / 8 % 2, c.toNat / 4 % 2, c.toNat / 2 % 2, c.toNat / 1 % 2] 6 = w % 64 := by simp only [valK, List.getD_cons_zero, List.getD_cons_succ]; omega
    rw [h1, h2, h3, h4]
    exact pad_pre 4 (by omega) [letN (w / 262144 % 64), letN (w / 4096 % 64), letN (w / 64 % 64), letN (w % 64)] (sixF Y.length Y) 61 (by simp)
/-- an own list that came of appends of one cell -/
def OwnV (base : Nat) (H : AHeap) (v : AV) (xs : List AV) (rest : List Cel) : Prop :=
  (xs = [] ∧ v = .nils ∧ Hp base H rest) ∨ (xs ≠ [] ∧ ∃ b, v = .slc b 0 xs.length xs.length ∧ Hp base H (⟨b, 1, xs⟩ :: rest))
theorem OwnV.hp {base : Nat} {H : AHeap} {l : List Cel} {v : AV} {t : List AV} (h : OwnV base H v t l) : Hp base H l := by
  rcases h with ⟨_, _, h⟩ | ⟨_, b, _, h⟩
  · exact h
  · exact h.drop
theorem OwnV.len {base : Nat} {H : AHeap} {l : List Cel} {v : AV} {t : List AV} (h : OwnV base H v t l) (H2 : AHeap) : lngV H2 1 v = some (.int .i64 t.length) := by
  rcases h with ⟨rfl, rfl, _⟩ | ⟨_, b, rfl, _⟩ <;> rfl
theorem OwnV.push {base : Nat} {H : AHeap} {l : List Cel} {v : AV} {t : List AV} (h : OwnV base H v t l) {bytes : Nat} (hb0 : 0 < bytes) (hb1 : bytes ≤ 8) (hl : t.length ≤ 1000000) (x : AV) (hx : x.one = true) :
    ∃ H1 H2 w, H.alloc (.row ⟨[x], 0, false, true, 0⟩) = H1 ∧ appendE H1 1 bytes v (.slc H.next 0 1 1) = some (w, H2) ∧ OwnV base H2 w (t ++ [x]) l ∧ Keep base H H2 := by
  obtain ⟨H1, s1, h1, k1⟩ := h.hp.make [x] 1
  rcases h with ⟨rfl, rfl, h⟩ | ⟨hne, b, rfl, h⟩
  · have hsrc := h1.srcOne (List.mem_cons_self ..) 1
    refine ⟨H1, H1.alloc (.row ⟨[x], 1, false, true, 0⟩), .slc H1.next 0 1 1, s1, ?_, .inr ⟨by simp, H1.next, rfl, ?_⟩, k1.trans (h1.keep_alloc _)⟩
    · simp only [appendE, EOp.run, Opd.ev, hsrc, appendA]
      rw [if_neg (by simp [hx]; omega), if_neg (by omega), if_pos (by omega)]
    · exact (h1.alloc _ 1 1 (.inr rfl)).swap.drop
  · obtain ⟨H1', s1', h1', k1'⟩ := h.make [x] 1
    obtain rfl := s1.symm.trans s1'
    obtain ⟨B, hB, hc⟩ := h1'.rowOf (List.mem_cons_self ..)
    obtain ⟨H2, a1, a2, a3⟩ := (Hp.swap h1').append1 (n := t.length) rfl hB (o2 := 0) (c2 := 1) (by rw [hc]; rfl) hx hb0 (by have := Nat.mul_le_mul_left (t.length + 1) hb1; omega)
    exact ⟨H1, H2, .slc H1.next 0 (t.length + 1) (t.length + 1), s1, a1, .inr ⟨by simp, H1.next, by simp, a2.swap.drop⟩, k1.trans a3⟩
theorem OwnV.at {base : Nat} {H : AHeap} {l : List Cel} {v : AV} {t : List AV} (h : OwnV base H v t l) {i : Nat} {x : AV} (hx : t[i]? = some x) (k : IntKind) : ∃ p, idxSV 1 v (.int k i) = some p ∧ loadV H none p = some x := by
  have hi : i < t.length := (List.getElem?_eq_some_iff.1 hx).1
  rcases h with ⟨rfl, rfl, _⟩ | ⟨_, b, rfl, h⟩
  · simp at hi
  · exact ⟨_, idxSV_slc hi, h.load (List.mem_cons_self ..) (by rw [Nat.zero_add]; exact hx)⟩
end Go.Proofs.YtdokbjneohnoeaaGreatDoor.AM
