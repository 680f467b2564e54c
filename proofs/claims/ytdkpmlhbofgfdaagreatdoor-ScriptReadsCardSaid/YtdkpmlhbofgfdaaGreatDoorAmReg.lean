/-
  Regions whose order Go leaves open.
-/
import Derived.Test.YtdkpmlhbofgfdaaGreatDoorAmMono
set_option linter.unusedSimpArgs false
set_option linter.unusedVariables false
namespace Go.Proofs.YtdkpmlhbofgfdaaGreatDoor.AM
open Go Go.RowKit

variable {base : Nat} {P : Program} {gl : List Nat}

/-! ### what goes before -/
theorem foldl_mask (acc : List Nat) (j : Nat) : ∀ (es : List Nat) (m0 : Nat), (es.foldl (fun m j => if j < acc.length then m ||| (1 <<< j) ||| acc.getD j 0 else m) m0).testBit j = true →
    m0.testBit j = true ∨ ∃ k ∈ es, k < acc.length ∧ (j = k ∨ (acc.getD k 0).testBit j = true)
  | [], m0, h => .inl h
  | k :: es, m0, h => by
    simp only [List.foldl_cons] at h
    rcases foldl_mask acc j es _ h with h1 | ⟨q, hq, h2, h3⟩
    · split at h1
      · rename_i hk
        simp only [Nat.testBit_or, Bool.or_eq_true] at h1
        rcases h1 with (h1 | h1) | h1
        · exact .inl h1
        · refine .inr ⟨k, by simp, hk, .inl ?_⟩
          rw [Nat.one_shiftLeft, Nat.testBit_two_pow] at h1
          have := of_decide_eq_true h1; omega
        · exact .inr ⟨k, by simp, hk, .inr h1⟩
      · exact .inl h1
    · exact .inr ⟨q, by simp [hq], h2, h3⟩
/-- closed under what stands behind 'after' -/
def Closed (ops : List Oper) (S : Nat → Prop) : Prop := ∀ i o, ops[i]? = some o → S i → ∀ j ∈ edges o, S j
theorem closGo_sound (all : List Oper) (S : Nat → Prop) (hS : Closed all S) : ∀ (r : List Oper) (acc : List Nat), (∃ d, all = d ++ r ∧ d.length = acc.length) →
    (∀ i j, i < acc.length → (acc.getD i 0).testBit j = true → S i → S j) → ∀ i j, ((closGo r acc).getD i 0).testBit j = true → S i → S j
  | [], acc, _, hacc, i, j, h, hi => by
    rw [closGo] at h
    by_cases hl : i < acc.length
    · exact hacc i j hl h hi
    · rw [List.getD_eq_getElem?_getD, List.getElem?_eq_none (by omega)] at h; simp at h
  | o :: r, acc, ⟨d, hd, hdl⟩, hacc, i, j, h, hi => by
    rw [closGo] at h
    refine closGo_sound all S hS r _ ⟨d ++ [o], by simp [hd], by simp [hdl]⟩ (fun i j hl hb hi => ?_) i j h hi
    simp only [List.length_append, List.length_cons, List.length_nil] at hl
    by_cases hlt : i < acc.length
    · rw [List.getD_eq_getElem?_getD, List.getElem?_append_left hlt, ← List.getD_eq_getElem?_getD] at hb
      exact hacc i j hlt hb hi
    · have hie : i = acc.length := by omega
      rw [hie, List.getD_eq_getElem?_getD, List.getElem?_append_right (Nat.le_refl _)] at hb
      simp only [Nat.sub_self, List.getElem?_cons_zero, Option.getD_some] at hb
      have ho : all[i]? = some o := by rw [hd, hie, ← hdl, List.getElem?_append_right (Nat.le_refl _)]; simp
      rcases foldl_mask acc j _ _ hb with h0 | ⟨k, hk, hkl, h1⟩
      · simp at h0
      · have hSk := hS i o ho hi k hk
        rcases h1 with rfl | h1
        · exact hSk
        · exact hacc k j hkl h1 hSk
theorem bef_sound {ops : List Oper} {S : Nat → Prop} (hS : Closed ops S) {i j : Nat} (h : bef (closGo ops []) i j = true) (hi : S i) : S j :=
  closGo_sound ops S hS ops [] ⟨[], by simp, rfl⟩ (fun i j h => by simp at h) i j h hi

/-! ### the looks of okRegion -/
theorem nodup_inj : ∀ {L : List AOper}, nodupIx L = true → ∀ {o p : AOper}, o ∈ L → p ∈ L → o.ix = p.ix → o = p
  | [], _, _, _, h, _, _ => by simp at h
  | a :: L, h, o, p, ho, hp, he => by
    simp only [nodupIx, Bool.and_eq_true, List.all_eq_true, bne_iff_ne, ne_eq] at h
    rcases List.mem_cons.1 ho with h1 | h1 <;> rcases List.mem_cons.1 hp with h2 | h2
    · rw [h1, h2]
    · exact absurd (by rw [← he, h1]) (h.1 p h2)
    · exact absurd (by rw [he, h2]) (h.1 o h1)
    · exact nodup_inj h.2 h1 h2 he
theorem nodup_split : ∀ {A : List AOper} {o : AOper} {B : List AOper}, nodupIx (A ++ o :: B) = true → (∀ p ∈ A, p.ix ≠ o.ix) ∧ (∀ p ∈ B, p.ix ≠ o.ix) ∧ nodupIx B = true
  | [], o, B, h => by
    simp only [List.nil_append, nodupIx, Bool.and_eq_true, List.all_eq_true, bne_iff_ne, ne_eq] at h
    exact ⟨fun p hp => by simp at hp, h.1, h.2⟩
  | a :: A, o, B, h => by
    simp only [List.cons_append, nodupIx, Bool.and_eq_true, List.all_eq_true, bne_iff_ne, ne_eq] at h
    obtain ⟨h1, h2, h3⟩ := nodup_split h.2
    refine ⟨fun p hp => ?_, h2, h3⟩
    rcases List.mem_cons.1 hp with rfl | hp
    · exact fun e => h.1 o (by simp) e.symm
    · exact h1 p hp
theorem split_uniq : ∀ {A A' : List AOper} {o : AOper} {B B' : List AOper}, nodupIx (A ++ o :: B) = true → A ++ o :: B = A' ++ o :: B' → A = A' ∧ B = B'
  | [], [], o, B, B', _, h => by simp at h; exact ⟨rfl, h⟩
  | [], a' :: A', o, B, B', hn, h => by
    simp only [List.nil_append, List.cons_append] at h
    injection h with h1 h2; subst h1
    obtain ⟨_, h3, _⟩ := nodup_split hn
    exact absurd rfl (h3 o (by rw [h2]; simp))
  | a :: A, [], o, B, B', hn, h => by
    simp only [List.nil_append, List.cons_append] at h
    injection h with h1 h2; subst h1
    obtain ⟨h3, _, _⟩ := nodup_split hn
    exact absurd rfl (h3 a (by simp))
  | a :: A, a' :: A', o, B, B', hn, h => by
    simp only [List.cons_append] at h
    injection h with h1 h2; subst h1
    simp only [List.cons_append, nodupIx, Bool.and_eq_true] at hn
    obtain ⟨h3, h4⟩ := split_uniq hn.2 h2
    exact ⟨by rw [h3], h4⟩
/-- what ordOk says of one operation -/
structure OrdAt (masks : List Nat) (n : Nat) (all : List AOper) (earlier : List AOper) (o : AOper) : Prop where
  before : ∀ j, j < n → bef masks o.ix j = true → ∃ p ∈ earlier, p.ix = j
  loud : o.op.loud = true → ∀ p ∈ earlier, p.op.eff = true → bef masks o.ix p.ix = true
  reads : o.op.eff = true → ∀ p ∈ earlier, ∀ r, p.op = .r r → r.pure = false → bef masks o.ix p.ix = true ∨ strictOk masks all p r = true
theorem ordOk_at {masks : List Nat} {n : Nat} {all : List AOper} : ∀ {L : List AOper} {earlier : List AOper}, ordOk masks n all earlier L = true → ∀ {A : List AOper} {o : AOper} {B : List AOper}, L = A ++ o :: B → OrdAt masks n all (earlier ++ A) o
  | [], earlier, h, A, o, B, hL => by simp at hL
  | a :: L, earlier, h, A, o, B, hL => by
    simp only [ordOk, Bool.and_eq_true] at h
    obtain ⟨⟨⟨h1, h2⟩, h3⟩, h4⟩ := h
    cases A with
    | nil =>
      simp only [List.nil_append] at hL
      injection hL with hL1 hL2; subst hL1; subst hL2
      rw [List.append_nil]
      refine ⟨fun j hj hb => ?_, fun hl p hp he => ?_, fun he p hp r hr hpu => ?_⟩
      · simp only [List.all_eq_true, List.mem_range, Bool.or_eq_true, Bool.not_eq_true', List.any_eq_true, beq_iff_eq] at h1
        rcases h1 j hj with h1 | h1
        · rw [hb] at h1; cases h1
        · exact h1
      · simp only [Bool.or_eq_true, Bool.not_eq_true', List.all_eq_true] at h2
        rcases h2 with h2 | h2
        · rw [hl] at h2; cases h2
        · rcases h2 p hp with h5 | h5
          · rw [he] at h5; cases h5
          · exact h5
      · simp only [Bool.or_eq_true, Bool.not_eq_true', List.all_eq_true] at h3
        rcases h3 with h3 | h3
        · rw [he] at h3; cases h3
        · have h5 := h3 p hp
          rw [hr] at h5
          simp only [Bool.or_eq_true] at h5
          rcases h5 with (h5 | h5) | h5
          · rw [hpu] at h5; cases h5
          · exact .inl h5
          · exact .inr h5
    | cons a' A =>
      simp only [List.cons_append] at hL
      injection hL with hL1 hL2; subst hL1
      have := ordOk_at h4 hL2
      rw [List.append_assoc] at this
      simpa using this
theorem withEcho_append (masks : List Nat) : ∀ (A B E : List AOper), withEcho masks E (A ++ B) = withEcho masks E A ++ withEcho masks (E ++ A) B
  | [], B, E => by simp [withEcho]
  | a :: A, B, E => by
    simp only [List.cons_append, withEcho]
    rw [withEcho_append masks A B (E ++ [a])]
    simp
/-- an operation as it is run: with what is looked at again -/
def starred (masks : List Nat) (E : List AOper) (o : AOper) : AOper := if o.op.eff then { o with echo := echoOf masks E o } else o
theorem withEcho_cons (masks : List Nat) (E : List AOper) (o : AOper) (l : List AOper) : withEcho masks E (o :: l) = starred masks E o :: withEcho masks (E ++ [o]) l := rfl
theorem starred_dst (masks : List Nat) (E : List AOper) (o : AOper) : (starred masks E o).dst = o.dst := by unfold starred; split <;> rfl
theorem starred_op (masks : List Nat) (E : List AOper) (o : AOper) : (starred masks E o).op = o.op := by unfold starred; split <;> rfl
theorem starred_guard (masks : List Nat) (E : List AOper) (o : AOper) : (starred masks E o).guard = o.guard := by unfold starred; split <;> rfl
theorem withEcho_mem (masks : List Nat) : ∀ (L E : List AOper) {p : AOper}, p ∈ withEcho masks E L → ∃ o ∈ L, p.dst = o.dst
  | [], E, p, h => by simp [withEcho] at h
  | o :: L, E, p, h => by
    rw [withEcho_cons] at h
    rcases List.mem_cons.1 h with rfl | h
    · exact ⟨o, by simp, starred_dst _ _ _⟩
    · obtain ⟨q, hq, hd⟩ := withEcho_mem masks L _ h
      exact ⟨q, by simp [hq], hd⟩
theorem copers_mem {N : Nat} {ops : List Oper} : ∀ {is : List Nat} {L : List AOper}, copers P gl N ops is = some L → ∀ o ∈ L, coper P gl N ops o.ix = some o
  | [], L, h, o, ho => by rw [copers] at h; injection h with h; subst h; simp at ho
  | i :: is, L, h, o, ho => by
    rw [copers] at h
    split at h
    · rename_i a ha
      split at h
      · rename_i l hl
        injection h with h; subst h
        rcases List.mem_cons.1 ho with rfl | ho
        · obtain ⟨_, _, _, _, hix, _⟩ := coper_inv ha
          rw [hix]; exact ha
        · exact copers_mem hl o ho
      · cases h
    · cases h
theorem edgesOk_lt : ∀ {l : List Oper} {i : Nat}, edgesOk l i = true → ∀ k o, l[k]? = some o → ∀ j ∈ edges o, j < i + k
  | [], i, _, k, o, h, _, _ => by simp at h
  | a :: l, i, h, k, o, ho, j, hj => by
    simp only [edgesOk, Bool.and_eq_true, List.all_eq_true, decide_eq_true_eq] at h
    cases k with
    | zero => simp at ho; subst ho; exact h.1 j hj
    | succ k => have := edgesOk_lt h.2 k o (by simpa using ho) j hj; omega
theorem mem_edges {o : Oper} {j : Nat} : j ∈ edges o ↔ ∃ ed ∈ o.after, Region.binds .any ed = true ∧ ed.on = j := by
  unfold edges
  simp only [List.mem_map, List.mem_filter, Array.mem_toList_iff]
  constructor
  · rintro ⟨x, ⟨h1, h2⟩, h3⟩; exact ⟨x, h1, h2, h3⟩
  · rintro ⟨x, h1, h2, h3⟩; exact ⟨x, ⟨h1, h2⟩, h3⟩
end Go.Proofs.YtdkpmlhbofgfdaaGreatDoor.AM
