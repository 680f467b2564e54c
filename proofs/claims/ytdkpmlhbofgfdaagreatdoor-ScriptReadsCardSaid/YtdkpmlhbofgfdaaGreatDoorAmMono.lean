/-
  The abstract machine: what its operations look at; more memory, the same answer.
-/
import Derived.Test.YtdkpmlhbofgfdaaGreatDoorAmSeq
set_option linter.unusedSimpArgs false
set_option linter.unusedVariables false
namespace Go.Proofs.YtdkpmlhbofgfdaaGreatDoor.AM
open Go Go.RowKit

theorem Opd.ev_congr {e e' : Env} {x : Opd} (h : ∀ t ∈ x.tmps, Env.get e t = Env.get e' t) : x.ev e = x.ev e' := by
  cases x with
  | t i => exact h i (by simp [Opd.tmps])
  | c v => rfl
theorem opt_congr {e e' : Env} {x : Option Opd} (h : ∀ t ∈ optTmps x, Env.get e t = Env.get e' t) : x.map (·.ev e) = x.map (·.ev e') := by
  cases x with
  | none => rfl
  | some x => simp only [Option.map_some]; rw [Opd.ev_congr (fun t ht => h t ht)]
theorem map_congr {e e' : Env} {xs : List Opd} (h : ∀ t ∈ xs.flatMap Opd.tmps, Env.get e t = Env.get e' t) : xs.map (·.ev e) = xs.map (·.ev e') := by
  apply List.map_congr_left
  intro x hx
  exact Opd.ev_congr (fun t ht => h t (List.mem_flatMap.2 ⟨x, hx, ht⟩))
theorem ROp.run_congr {H : AHeap} {e e' : Env} {r : ROp} (h : ∀ t ∈ r.tmps, Env.get e t = Env.get e' t) : r.run H e = r.run H e' := by
  cases r <;> simp only [ROp.tmps, List.mem_append] at h
  case build z ps =>
    have : (ps.map fun p => (p.1, p.2.1, p.2.2.ev e)) = (ps.map fun p => (p.1, p.2.1, p.2.2.ev e')) := by
      apply List.map_congr_left
      intro p hp
      rw [Opd.ev_congr (fun t ht => h t (List.mem_flatMap.2 ⟨p, hp, ht⟩))]
    simp only [ROp.run, this]
  case mkFn f a b => simp only [ROp.run, map_congr (fun t ht => h t (.inl ht)), map_congr (fun t ht => h t (.inr ht))]
  case mnmx b x xs => simp only [ROp.run, Opd.ev_congr (fun t ht => h t (.inl ht)), map_congr (fun t ht => h t (.inr ht))]
  case pick c a b => simp only [ROp.run, Opd.ev_congr (fun t ht => h t (.inl (.inl ht))), Opd.ev_congr (fun t ht => h t (.inl (.inr ht))), Opd.ev_congr (fun t ht => h t (.inr ht))]
  case slStr x l hh => simp only [ROp.run, Opd.ev_congr (fun t ht => h t (.inl (.inl ht))), opt_congr (fun t ht => h t (.inl (.inr ht))), opt_congr (fun t ht => h t (.inr ht))]
  case slS es x l hh => simp only [ROp.run, Opd.ev_congr (fun t ht => h t (.inl (.inl ht))), opt_congr (fun t ht => h t (.inl (.inr ht))), opt_congr (fun t ht => h t (.inr ht))]
  case slA n es x l hh => simp only [ROp.run, Opd.ev_congr (fun t ht => h t (.inl (.inl ht))), opt_congr (fun t ht => h t (.inl (.inr ht))), opt_congr (fun t ht => h t (.inr ht))]
  case lenC n => rfl
  all_goals first
    | (simp only [ROp.run, Opd.ev_congr (fun t ht => h t (.inl ht)), Opd.ev_congr (fun t ht => h t (.inr ht))]; done)
    | (simp only [ROp.run, Opd.ev_congr (fun t ht => h t ht)]; done)

/-- what is there stays there -/
def AHeap.sub (H H' : AHeap) : Prop := ∀ b o, H.get b = some o → H'.get b = some o
theorem AHeap.sub_row {H H' : AHeap} (h : H.sub H') {b : Nat} {B : Blk} (hb : H.row b = some B) : H'.row b = some B := by
  obtain ⟨h1, h2⟩ := row_inv hb
  unfold AHeap.row
  rw [h b _ h1]
  simp [h2]
theorem ROp.run_mono {H H' : AHeap} (h : H.sub H') {e : Env} {r : ROp} {v : AV} (hr : r.run H e = some v) : r.run H' e = some v := by
  cases r <;> simp only [ROp.run] at hr ⊢ <;> try exact hr
  case slS es x lo hi =>
    split at hr
    · exact hr
    · split at hr
      · rename_i hb
        split at hr
        · rename_i B hB; rw [h _ _ hB]; exact hr
        · cases hr
      · cases hr
    · cases hr
  case lng k x =>
    split at hr <;> try exact hr
    split at hr
    · rename_i es hes; rw [h _ _ hes]; exact hr
    · cases hr
  case load sz a =>
    split at hr
    · split at hr
      · rename_i B hB; rw [AHeap.sub_row h hB]; exact hr
      · cases hr
    · cases hr
  case toUns x =>
    split at hr
    · split at hr
      · rename_i B hB; rw [h _ _ hB]; exact hr
      · cases hr
    · cases hr
  case fromUns tbl x =>
    split at hr
    · split at hr
      · rename_i B hB; rw [h _ _ hB]; exact hr
      · cases hr
    · cases hr
  case strOfBytes x =>
    split at hr
    · exact hr
    · split at hr
      · rename_i B hB; rw [AHeap.sub_row h hB]; exact hr
      · cases hr
    · cases hr
  case strOfRunes x =>
    split at hr
    · exact hr
    · split at hr
      · rename_i B hB; rw [AHeap.sub_row h hB]; exact hr
      · cases hr
    · cases hr
  case lookup kk z zg x k ok =>
    split at hr
    · cases hr
    · rename_i hk
      rw [if_neg hk]
      have : ∀ es, mapOf H (x.ev e) = some es → mapOf H' (x.ev e) = some es := by
        intro es hes
        unfold mapOf at hes ⊢
        split at hes
        · exact hes
        · split at hes
          · rename_i es' hes'; rw [h _ _ hes']; exact hes
          · cases hes
        · cases hes
      split at hr
      · cases hr
      · rename_i es hes; rw [this es hes]; exact hr
theorem ROp.run_pure {H H' : AHeap} {e : Env} {r : ROp} (hp : r.pure = true) : r.run H e = r.run H' e := by
  cases r <;> simp only [ROp.pure, bne_iff_ne, ne_eq, reduceCtorEq] at hp <;> try rfl
  case lng k x => simp only [ROp.run]; split <;> first | rfl | exact absurd rfl hp

theorem runOps_append {cl : CallH} : ∀ (A B : List AOper) (e : Env) (H : AHeap), runOps cl (A ++ B) e H = match runOps cl A e H with | some (e', H') => runOps cl B e' H' | none => none
  | [], B, e, H => rfl
  | o :: A, B, e, H => by
    simp only [List.cons_append, runOps]
    cases o.run cl e H with
    | none => rfl
    | some p => obtain ⟨e', H'⟩ := p; exact runOps_append A B e' H'
theorem AOper.run_keep {cl : CallH} {o : AOper} {e e' : Env} {H H' : AHeap} (h : o.run cl e H = some (e', H')) : ∃ v, e' = Env.put e o.dst v := by
  unfold AOper.run at h
  split at h
  · split at h
    · split at h
      · injection h with h; injection h with h1 h2; exact ⟨_, h1.symm⟩
      · cases h
    · split at h
      · injection h with h; injection h with h1 h2; exact ⟨_, h1.symm⟩
      · cases h
    · split at h
      · split at h
        · injection h with h; injection h with h1 h2; exact ⟨_, h1.symm⟩
        · cases h
      · cases h
  · injection h with h; injection h with h1 h2; exact ⟨_, h1.symm⟩
theorem runOps_keep {cl : CallH} {x : Nat} : ∀ {L : List AOper} {e e' : Env} {H H' : AHeap}, runOps cl L e H = some (e', H') → (∀ o ∈ L, o.dst ≠ some x) → Env.get e' x = Env.get e x
  | [], e, e', H, H', h, _ => by rw [runOps] at h; injection h with h; injection h with h1 h2; rw [h1]
  | o :: L, e, e', H, H', h, hd => by
    rw [runOps] at h
    split at h
    · rename_i e1 H1 h1
      obtain ⟨v, hv⟩ := AOper.run_keep h1
      rw [runOps_keep h (fun p hp => hd p (by simp [hp])), hv, Env.get_put, if_neg (hd o (by simp))]
    · cases h

/-! ### blocks are never taken back -/
theorem storeA_next {H H' : AHeap} {b o : Nat} {cs : List AV} (h : storeA H b o cs = some H') : H'.next = H.next := by
  unfold storeA at h
  split at h
  · split at h
    · injection h with h; subst h; rfl
    · cases h
  · cases h
theorem appendA_next {ty : Nat} {H H' : AHeap} {es by_ n : Nat} {s v : AV} {new : List AV} (h : appendA ty H es by_ s n new = some (v, H')) : H.next ≤ H'.next := by
  unfold appendA at h
  split at h
  · split at h
    · injection h with h; injection h with _ h; subst h; exact Nat.le_refl _
    · split at h
      · injection h with h; injection h with _ h; subst h; rw [AHeap.next_alloc]; omega
      · cases h
  · split at h
    · split at h
      · injection h with h; injection h with _ h; subst h; exact Nat.le_refl _
      · split at h
        · rename_i H2 hs; injection h with h; injection h with _ h; subst h; exact Nat.le_of_eq (storeA_next hs).symm
        · cases h
    · split at h
      · cases h
      · split at h
        · cases h
        · split at h
          · cases h
          · split at h
            · injection h with h; injection h with _ h; subst h; rw [AHeap.next_alloc]; omega
            · split at h
              · injection h with h; injection h with _ h; subst h; rw [AHeap.next_alloc, AHeap.next_set]; omega
              · cases h
  · cases h
def NextMono (cl : CallH) : Prop := ∀ f args H v H', cl f args H = some (v, H') → H.next ≤ H'.next
theorem EOp.run_next {cl : CallH} (hcl : NextMono cl) {H H' : AHeap} {e : Env} {x : EOp} {v : AV} (h : x.run cl H e = some (v, H')) : H.next ≤ H'.next := by
  cases x <;> simp only [EOp.run] at h
  case store n a v =>
    split at h
    · split at h
      · split at h
        · rename_i H2 hs; injection h with h; injection h with _ h; subst h; exact Nat.le_of_eq (storeA_next hs).symm
        · cases h
      · cases h
    · cases h
  case append es by_ s x =>
    split at h
    · split at h
      · cases h
      · exact appendA_next h
    · cases h
  case appendT ty es by_ s x =>
    split at h
    · split at h
      · cases h
      · exact appendA_next h
    · cases h
  case nxt x =>
    split at h
    · split at h
      · cases h
      · split at h
        · split at h
          · injection h with h; injection h with _ h; subst h; exact Nat.le_refl _
          · injection h with h; injection h with _ h; subst h; exact Nat.le_refl _
        · cases h
    · cases h
  case mapDel kk m k =>
    split at h
    · split at h
      · split at h
        · cases h
        · split at h
          · cases h
          · injection h with h; injection h with _ h; subst h; exact Nat.le_refl _
          · injection h with h; injection h with _ h; subst h; exact Nat.le_refl _
      · cases h
    · split at h
      · injection h with h; injection h with _ h; subst h; exact Nat.le_refl _
      · cases h
    · cases h
  case strUns ety x n =>
    split at h
    · split at h
      · injection h with h; injection h with _ h; subst h; exact Nat.le_refl _
      · cases h
    · split at h
      · cases h
      · split at h
        · split at h
          · cases h
          · split at h
            · split at h
              · injection h with h; injection h with _ h; subst h; exact Nat.le_refl _
              · cases h
            · cases h
        · cases h
    · cases h
  case copy es d s =>
    split at h
    · split at h <;> first | (injection h with h; injection h with _ h; subst h; exact Nat.le_refl _) | cases h
    · split at h
      · split at h
        · injection h with h; injection h with _ h; subst h; exact Nat.le_refl _
        · split at h
          · rename_i H2 hs; injection h with h; injection h with _ h; subst h; exact Nat.le_of_eq (storeA_next hs).symm
          · cases h
      · cases h
    · cases h
  case clear z s =>
    split at h
    · injection h with h; injection h with _ h; subst h; exact Nat.le_refl _
    · injection h with h; injection h with _ h; subst h; exact Nat.le_refl _
    · split at h
      · injection h with h; injection h with _ h; subst h; exact Nat.le_refl _
      · cases h
    · split at h
      · injection h with h; injection h with _ h; subst h; exact Nat.le_refl _
      · split at h
        · cases h
        · split at h
          · rename_i H2 hs; injection h with h; injection h with _ h; subst h; exact Nat.le_of_eq (storeA_next hs).symm
          · cases h
    · cases h
  case call f as => exact hcl _ _ _ _ _ h
  case callv f as =>
    split at h
    · exact hcl _ _ _ _ _ h
    · exact hcl _ _ _ _ _ h
    · cases h
  case mark x =>
    split at h
    · split at h
      · split at h
        · cases h
        · injection h with h; injection h with _ h; subst h; exact Nat.le_refl _
      · cases h
    · cases h
  case mapUpd kk m k v =>
    split at h
    · split at h
      · split at h
        · cases h
        · split at h
          · cases h
          · injection h with h; injection h with _ h; subst h; exact Nat.le_refl _
          · injection h with h; injection h with _ h; subst h; exact Nat.le_refl _
      · cases h
    · cases h
  case fail => cases h
theorem AOper.run_next {cl : CallH} (hcl : NextMono cl) {o : AOper} {e e' : Env} {H H' : AHeap} (h : o.run cl e H = some (e', H')) : H.next ≤ H'.next := by
  unfold AOper.run at h
  split at h
  · split at h
    · split at h
      · injection h with h; injection h with h1 h2; subst h2; exact Nat.le_refl _
      · cases h
    · split at h
      · injection h with h; injection h with h1 h2; subst h2; rw [AHeap.next_alloc]; omega
      · cases h
    · split at h
      · rename_i x v H2 hx
        split at h
        · injection h with h; injection h with h1 h2; subst h2; exact EOp.run_next hcl hx
        · cases h
      · cases h
  · injection h with h; injection h with h1 h2; subst h2; exact Nat.le_refl _
theorem runOps_next {cl : CallH} (hcl : NextMono cl) : ∀ {L : List AOper} {e e' : Env} {H H' : AHeap}, runOps cl L e H = some (e', H') → H.next ≤ H'.next
  | [], e, e', H, H', h => by rw [runOps] at h; injection h with h; injection h with h1 h2; rw [h2]; exact Nat.le_refl _
  | o :: L, e, e', H, H', h => by
    rw [runOps] at h
    split at h
    · rename_i e1 H1 h1
      exact Nat.le_trans (AOper.run_next hcl h1) (runOps_next hcl h)
    · cases h
theorem iter_next {f : Env → AHeap → Out} (hf : ∀ e H x e' H', f e H = some (x, e', H') → H.next ≤ H'.next) : ∀ (k : Nat) (e : Env) (H : AHeap) (x : AEx) (e' : Env) (H' : AHeap), iter f k e H = some (x, e', H') → H.next ≤ H'.next
  | 0, e, H, x, e', H', h => by cases h
  | k + 1, e, H, x, e', H', h => by
    rw [iter] at h
    split at h
    · rename_i e1 H1 h1
      exact Nat.le_trans (hf _ _ _ _ _ h1) (iter_next hf k _ _ _ _ _ h)
    · exact hf _ _ _ _ _ h
theorem ACode.run_next {cl : CallH} (hcl : NextMono cl) (fuel : Nat) : ∀ (c : ACode) (e : Env) (H : AHeap) (x : AEx) (e' : Env) (H' : AHeap), c.run cl fuel e H = some (x, e', H') → H.next ≤ H'.next := by
  intro c
  induction c with
  | skip => intro e H x e' H' h; simp only [ACode.run, Option.some.injEq, Prod.mk.injEq] at h; rw [h.2.2]; exact Nat.le_refl _
  | ops l =>
    intro e H x e' H' h
    simp only [ACode.run] at h
    split at h
    · rename_i e1 H1 h1
      simp only [Option.some.injEq, Prod.mk.injEq] at h
      rw [← h.2.2]; exact runOps_next hcl h1
    · cases h
  | seq a b iha ihb =>
    intro e H x e' H' h
    simp only [ACode.run] at h
    split at h
    · rename_i e1 H1 h1
      exact Nat.le_trans (iha _ _ _ _ _ h1) (ihb _ _ _ _ _ h)
    · exact iha _ _ _ _ _ h
  | cond c a b iha ihb =>
    intro e H x e' H' h
    simp only [ACode.run] at h
    split at h
    · exact iha _ _ _ _ _ h
    · exact ihb _ _ _ _ _ h
    · cases h
  | block id c ih =>
    intro e H x e' H' h
    simp only [ACode.run] at h
    split at h
    · rename_i id' e1 H1 h1
      split at h
      · simp only [Option.some.injEq, Prod.mk.injEq] at h; rw [← h.2.2]; exact ih _ _ _ _ _ h1
      · simp only [Option.some.injEq, Prod.mk.injEq] at h; rw [← h.2.2]; exact ih _ _ _ _ _ h1
    · exact ih _ _ _ _ _ h
  | loop c ih =>
    intro e H x e' H' h
    simp only [ACode.run] at h
    exact iter_next (fun e H x e' H' h => ih e H x e' H' h) _ _ _ _ _ _ h
  | rangeF g N ps a b _ _ =>
    intro e H x e' H' h
    simp only [ACode.run] at h
    split at h
    · split at h
      · rename_i v1 H1 h1
        have := hcl _ _ _ _ _ h1
        split at h
        · split at h
          · cases h
          · simp only [Option.some.injEq, Prod.mk.injEq] at h
            rw [← h.2.2, AHeap.next_set]
            rw [AHeap.next_alloc] at this; omega
        · cases h
      · cases h
    · cases h
  | exit id => intro e H x e' H' h; simp only [ACode.run, Option.some.injEq, Prod.mk.injEq] at h; rw [h.2.2]; exact Nat.le_refl _
  | ret => intro e H x e' H' h; simp only [ACode.run, Option.some.injEq, Prod.mk.injEq] at h; rw [h.2.2]; exact Nat.le_refl _
  | fail => intro e H x e' H' h; cases h
theorem callF_next (P : Prog) : ∀ n, NextMono (callF P n)
  | 0 => fun f args H v H' h => by cases h
  | n + 1 => fun f args H v H' h => by
    cases f with
    | fn f =>
      simp only [callF] at h
      split at h
      · split at h
        · injection h with h; injection h with _ h; rw [h]; exact Nat.le_refl _
        · cases h
      · split at h
        · split at h
          · injection h with h; injection h with _ h; rw [h]; exact Nat.le_refl _
          · cases h
        · split at h
          · cases h
          · split at h
            · rename_i h1
              split at h
              · injection h with h; injection h with _ h; subst h; exact ACode.run_next (callF_next P n) n _ _ _ _ _ _ h1
              · cases h
            · rename_i h1
              split at h
              · injection h with h; injection h with _ h; subst h; exact ACode.run_next (callF_next P n) n _ _ _ _ _ _ h1
              · cases h
            · cases h
    | yld b =>
      simp only [callF] at h
      split at h
      · split at h
        · cases h
        · split at h
          · rename_i h1
            split at h
            · split at h
              · cases h
              · split at h
                · rename_i h2
                  split at h
                  · injection h with h; injection h with _ h; subst h
                    rw [AHeap.next_set]
                    have q1 := ACode.run_next (callF_next P n) n _ _ _ _ _ _ h1
                    have q2 := ACode.run_next (callF_next P n) n _ _ _ _ _ _ h2
                    rw [AHeap.next_set] at q2
                    omega
                  · cases h
                · cases h
            · cases h
          · cases h
      · cases h
end Go.Proofs.YtdkpmlhbofgfdaaGreatDoor.AM
