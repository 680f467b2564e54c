/-
  The abstract machine: small facts of its trees, environments and memories.
-/
import Derived.Test.YtdkpmlhbofgfdaaGreatDoorAmComp
namespace Go.Proofs.YtdkpmlhbofgfdaaGreatDoor.AM
open Go

theorem nbf {a b : Nat} (h : ¬ a = b) : Nat.beq a b = false := by
  cases hb : Nat.beq a b with
  | false => rfl
  | true => exact absurd (Nat.eq_of_beq_eq_true hb) h

namespace T
variable {α : Type}
theorem get_setF_same : ∀ (f : Nat) (t : T α) (k : Nat) (v : α), k < f → (setF f t k v).get k = some v := by
  intro f
  induction f with
  | zero => intro t k v h; omega
  | succ f ih =>
    intro t k v h
    by_cases h0 : k = 0
    · subst h0; cases t <;> simp [setF, get]
    · have hb : Nat.beq k 0 = false := nbf h0
      by_cases h1 : k % 2 = 1
      · have h1' : Nat.beq (k % 2) 1 = true := by rw [h1]; rfl
        cases t <;> simp [setF, get, hb, h1', ih _ (k / 2) v (by omega)]
      · have h1' : Nat.beq (k % 2) 1 = false := nbf h1
        cases t <;> simp [setF, get, hb, h1', ih _ (k / 2 - 1) v (by omega)]
theorem get_setF_ne : ∀ (f : Nat) (t : T α) (k j : Nat) (v : α), k < f → j ≠ k → (setF f t k v).get j = t.get j := by
  intro f
  induction f with
  | zero => intro t k j v h; omega
  | succ f ih =>
    intro t k j v h hne
    by_cases h0 : k = 0
    · subst h0
      have hj : Nat.beq j 0 = false := nbf hne
      cases t with
      | nil => simp [setF, get, hj]
      | node l x r => simp [setF, get, hj]
    · have hb : Nat.beq k 0 = false := nbf h0
      by_cases h1 : k % 2 = 1
      · have h1' : Nat.beq (k % 2) 1 = true := by rw [h1]; rfl
        by_cases hj0 : j = 0
        · subst hj0; cases t <;> simp [setF, get, hb, h1']
        · have hj : Nat.beq j 0 = false := nbf hj0
          by_cases hj1 : j % 2 = 1
          · have hj1' : Nat.beq (j % 2) 1 = true := by rw [hj1]; rfl
            have := ih (t := .nil) (k / 2) (j / 2) v (by omega) (by omega)
            cases t with
            | nil => simp [setF, get, hb, h1', hj, hj1', this]
            | node l x r => simp [setF, get, hb, h1', hj, hj1', ih l (k / 2) (j / 2) v (by omega) (by omega)]
          · have hj1' : Nat.beq (j % 2) 1 = false := nbf hj1
            cases t <;> simp [setF, get, hb, h1', hj, hj1']
      · have h1' : Nat.beq (k % 2) 1 = false := nbf h1
        by_cases hj0 : j = 0
        · subst hj0; cases t <;> simp [setF, get, hb, h1']
        · have hj : Nat.beq j 0 = false := nbf hj0
          by_cases hj1 : j % 2 = 1
          · have hj1' : Nat.beq (j % 2) 1 = true := by rw [hj1]; rfl
            cases t <;> simp [setF, get, hb, h1', hj, hj1']
          · have hj1' : Nat.beq (j % 2) 1 = false := nbf hj1
            have := ih (t := .nil) (k / 2 - 1) (j / 2 - 1) v (by omega) (by omega)
            cases t with
            | nil => simp [setF, get, hb, h1', hj, hj1', this]
            | node l x r => simp [setF, get, hb, h1', hj, hj1', ih r (k / 2 - 1) (j / 2 - 1) v (by omega) (by omega)]
theorem get_set (t : T α) (k : Nat) (v : α) (j : Nat) : (t.set k v).get j = if j = k then some v else t.get j := by
  by_cases h : j = k
  · subst h; rw [if_pos rfl]; exact get_setF_same _ _ _ _ (by omega)
  · rw [if_neg h]; exact get_setF_ne _ _ _ _ _ (by omega) h
theorem get_nil (j : Nat) : (T.nil : T α).get j = none := rfl
end T

theorem Env.get_set (e : Env) (k : Nat) (v : AV) (j : Nat) : Env.get (T.set e k v) j = if j = k then v else Env.get e j := by
  unfold Env.get
  rw [T.get_set]
  split <;> rfl
theorem Env.get_set_same (e : Env) (k : Nat) (v : AV) : Env.get (T.set e k v) k = v := by rw [Env.get_set, if_pos rfl]
theorem Env.get_set_ne (e : Env) (k : Nat) (v : AV) (j : Nat) (h : (j == k) = false) : Env.get (T.set e k v) j = Env.get e j := by
  rw [Env.get_set, if_neg (by simpa using h)]
theorem Env.get_nil (j : Nat) : Env.get .nil j = .undef := rfl
theorem Env.get_put (e : Env) (d : Option Nat) (v : AV) (j : Nat) : Env.get (Env.put e d v) j = if d = some j then v else Env.get e j := by
  cases d with
  | none => simp [Env.put]
  | some d =>
    rw [Env.put, Env.get_set]
    by_cases h : j = d
    · subst h; simp
    · simp [h]; intro h'; exact absurd h'.symm h

theorem AHeap.get_set (H : AHeap) (b : Nat) (o : AObj) (c : Nat) : (H.set b o).get c = if c = b then some o else H.get c := T.get_set _ _ _ _
theorem AHeap.get_set_same (H : AHeap) (b : Nat) (o : AObj) : (H.set b o).get b = some o := by rw [AHeap.get_set, if_pos rfl]
theorem AHeap.get_set_ne (H : AHeap) (b : Nat) (o : AObj) (c : Nat) (h : c ≠ b) : (H.set b o).get c = H.get c := by rw [AHeap.get_set, if_neg h]
theorem AHeap.get_alloc (H : AHeap) (o : AObj) (c : Nat) : (H.alloc o).get c = if c = H.next then some o else H.get c := T.get_set _ _ _ _
theorem AHeap.next_set (H : AHeap) (b : Nat) (o : AObj) : (H.set b o).next = H.next := rfl
theorem AHeap.next_alloc (H : AHeap) (o : AObj) : (H.alloc o).next = H.next + 1 := rfl

theorem over_length (cs : List AV) (o : Nat) (vs : List AV) : (over cs o vs).length = cs.length := by
  induction vs generalizing cs o with
  | nil => rfl
  | cons v vs ih => simp [over, ih]
theorem over_get (vs : List AV) : ∀ (cs : List AV) (o i : Nat), o + vs.length ≤ cs.length →
    (over cs o vs)[i]? = if o ≤ i ∧ i < o + vs.length then vs[i - o]? else cs[i]? := by
  induction vs with
  | nil => intro cs o i _; simp [over]; intro h1 h2; omega
  | cons v vs ih =>
    intro cs o i h
    simp only [List.length_cons] at h ⊢
    rw [over, ih _ _ _ (by simp; omega)]
    by_cases h1 : o + 1 ≤ i ∧ i < o + 1 + vs.length
    · rw [if_pos h1, if_pos (by omega)]
      have : i - o = (i - (o + 1)) + 1 := by omega
      rw [this, List.getElem?_cons_succ]
    · rw [if_neg h1]
      by_cases h2 : i = o
      · subst h2; rw [if_pos (by omega), List.getElem?_set_self (by omega)]; simp
      · rw [if_neg (by omega), List.getElem?_set_ne (by omega)]
theorem cut_some {cs : List AV} {o n : Nat} {l : List AV} (h : cut cs o n = some l) : o + n ≤ cs.length ∧ l.length = n ∧ ∀ i, i < n → l[i]? = cs[o + i]? := by
  unfold cut at h
  split at h
  · rename_i hl
    injection h with h
    subst h
    refine ⟨hl, by simp; omega, fun i hi => ?_⟩
    rw [List.getElem?_take_of_lt hi, List.getElem?_drop]
  · cases h
theorem AV.same1_eq : ∀ {a b : AV}, AV.same1 a b = true → a = b := by
  intro a b h
  cases a <;> cases b <;> simp [AV.same1] at h ⊢ <;> first | exact h | (obtain ⟨h1, h2⟩ := h; exact ⟨h1, h2⟩) | (obtain ⟨⟨⟨h1, h2⟩, h3⟩, h4⟩ := h; exact ⟨h1, h2, h3, h4⟩)
theorem AV.sameL_eq : ∀ {a b : List AV}, AV.sameL a b = true → a = b := by
  intro a
  induction a with
  | nil => intro b h; cases b <;> simp_all [AV.sameL]
  | cons x xs ih =>
    intro b h
    cases b with
    | nil => simp [AV.sameL] at h
    | cons y ys =>
      simp only [AV.sameL, Bool.and_eq_true] at h
      rw [AV.same1_eq h.1, ih h.2]
theorem AV.same_eq {a b : AV} (h : AV.same a b = true) : a = b := by
  unfold AV.same at h
  split at h
  · rw [AV.sameL_eq h]
  · rw [AV.sameL_eq h]
  · exact AV.same1_eq h
end Go.Proofs.YtdkpmlhbofgfdaaGreatDoor.AM
