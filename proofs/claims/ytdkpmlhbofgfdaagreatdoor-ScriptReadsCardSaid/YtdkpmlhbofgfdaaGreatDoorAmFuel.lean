/-
  More fuel answers the same; a code that is run in two parts.
-/
import Derived.Test.YtdkpmlhbofgfdaaGreatDoorAmWp
import Derived.Test.YtdkpmlhbofgfdaaGreatDoorAmMono
set_option linter.unusedVariables false
set_option linter.unusedSimpArgs false
namespace Go.Proofs.YtdkpmlhbofgfdaaGreatDoor.AM
open Go
def CallLe (cl cl' : CallH) : Prop := ∀ f args H r, cl f args H = some r → cl' f args H = some r
theorem EOp.run_le {cl cl' : CallH} (h : CallLe cl cl') {o : EOp} {H : AHeap} {e : Env} {r : AV × AHeap} (hr : o.run cl H e = some r) : o.run cl' H e = some r := by
  cases o with
  | call f args => exact h _ _ _ _ hr
  | callv f args =>
    simp only [EOp.run] at hr ⊢
    split at hr
    · exact h _ _ _ _ hr
    · exact h _ _ _ _ hr
    · cases hr
  | _ => exact hr
theorem AOper.run_le {cl cl' : CallH} (h : CallLe cl cl') {o : AOper} {H : AHeap} {e : Env} {r : Env × AHeap} (hr : o.run cl e H = some r) : o.run cl' e H = some r := by
  obtain ⟨ix, dst, guard, op, echo⟩ := o
  simp only [AOper.run] at hr ⊢
  cases hw : want e guard with
  | false => rw [hw] at hr; exact hr
  | true =>
    rw [hw] at hr
    simp only [if_true] at hr ⊢
    cases op with
    | r x => exact hr
    | a x => exact hr
    | e x =>
      simp only at hr ⊢
      cases hq : x.run cl H e with
      | none => rw [hq] at hr; cases hr
      | some p => rw [hq] at hr; rw [EOp.run_le h hq]; exact hr
theorem runOps_le {cl cl' : CallH} (h : CallLe cl cl') : ∀ {l : List AOper} {H : AHeap} {e : Env} {r : Env × AHeap}, runOps cl l e H = some r → runOps cl' l e H = some r
  | [], _, _, _, hr => hr
  | o :: l, H, e, r, hr => by
    simp only [runOps] at hr ⊢
    cases hq : o.run cl e H with
    | none => rw [hq] at hr; cases hr
    | some p => rw [hq] at hr; rw [AOper.run_le h hq]; exact runOps_le h hr
theorem iter_le {f g : Env → AHeap → Out} (h : ∀ e H r, f e H = some r → g e H = some r) : ∀ {k k' : Nat}, k ≤ k' → ∀ {e : Env} {H : AHeap} {r : AEx × Env × AHeap}, iter f k e H = some r → iter g k' e H = some r
  | 0, _, _, _, _, _, hr => by cases hr
  | k + 1, 0, hk, _, _, _, _ => by omega
  | k + 1, k' + 1, hk, e, H, r, hr => by
    simp only [iter] at hr ⊢
    cases hq : f e H with
    | none => rw [hq] at hr; cases hr
    | some p =>
      rw [hq] at hr
      rw [h _ _ _ hq]
      obtain ⟨x, e', H'⟩ := p
      cases x with
      | normal => exact iter_le h (by omega) hr
      | exit i => exact hr
      | ret => exact hr
theorem ACode.run_le {cl cl' : CallH} (h : CallLe cl cl') {n n' : Nat} (hn : n ≤ n') : ∀ {c : ACode} {e : Env} {H : AHeap} {r : AEx × Env × AHeap}, c.run cl n e H = some r → c.run cl' n' e H = some r
  | .skip, _, _, _, hr => hr
  | .ops l, e, H, r, hr => by
    simp only [ACode.run] at hr ⊢
    cases hq : runOps cl l e H with
    | none => rw [hq] at hr; cases hr
    | some p => rw [hq] at hr; rw [runOps_le h hq]; exact hr
  | .seq a b, e, H, r, hr => by
    simp only [ACode.run] at hr ⊢
    cases hq : a.run cl n e H with
    | none => rw [hq] at hr; cases hr
    | some p =>
      rw [hq] at hr
      rw [ACode.run_le (c := a) h hn hq]
      obtain ⟨x, e', H'⟩ := p
      cases x with
      | normal => exact ACode.run_le (c := b) h hn hr
      | exit i => exact hr
      | ret => exact hr
  | .cond c a b, e, H, r, hr => by
    simp only [ACode.run] at hr ⊢
    split at hr
    · exact ACode.run_le (c := a) h hn hr
    · exact ACode.run_le (c := b) h hn hr
    · cases hr
  | .block id c, e, H, r, hr => by
    simp only [ACode.run] at hr ⊢
    cases hq : c.run cl n e H with
    | none => rw [hq] at hr; cases hr
    | some p => rw [hq] at hr; rw [ACode.run_le (c := c) h hn hq]; exact hr
  | .loop c, e, H, r, hr => by
    simp only [ACode.run] at hr ⊢
    exact iter_le (fun e H r hq => ACode.run_le (c := c) h hn hq) hn hr
  | .rangeF g N ps as bd, e, H, r, hr => by
    simp only [ACode.run] at hr ⊢
    split at hr
    · rename_i f first cap hg
      cases hq : cl (.fn f) (first ++ [AV.yld H.next] ++ cap) (H.alloc (.loop ⟨0, .normal, N, e, ps, as, bd⟩)) with
      | none => rw [hq] at hr; cases hr
      | some p => rw [hq] at hr; rw [h _ _ _ _ hq]; exact hr
    · cases hr
  | .exit id, _, _, _, hr => hr
  | .ret, _, _, _, hr => hr
  | .fail, _, _, _, hr => by cases hr
theorem callF_succ (P : Prog) : ∀ n, CallLe (callF P n) (callF P (n + 1))
  | 0, f, args, H, r, hr => by cases hr
  | n + 1, .fn f, args, H, r, hr => by
    have ih := callF_succ P n
    rw [callF] at hr ⊢
    cases ho : P.orc f args with
    | some v => rw [ho] at hr; exact hr
    | none =>
      rw [ho] at hr
      simp only at hr ⊢
      cases hF : P.fns f with
      | none => rw [hF] at hr; exact hr
      | some F =>
        rw [hF] at hr
        simp only at hr ⊢
        split at hr
        · cases hr
        · rename_i hl
          rw [if_neg hl]
          cases hq : F.body.run (callF P n) n (Env.init 0 args .nil) H with
          | none => rw [hq] at hr; cases hr
          | some p => rw [hq] at hr; rw [ACode.run_le ih (Nat.le_succ n) hq]; exact hr
  | n + 1, .yld b, args, H, r, hr => by
    have ih := callF_succ P n
    rw [callF] at hr ⊢
    cases hb : H.get b with
    | none => rw [hb] at hr; cases hr
    | some o =>
      rw [hb] at hr
      cases o with
      | loop R =>
        simp only at hr ⊢
        split at hr
        · cases hr
        · rename_i hst
          rw [if_neg hst]
          cases hq : R.assign.run (callF P n) n (putAll R.ps args R.env) H with
          | none => rw [hq] at hr; cases hr
          | some p =>
            rw [hq] at hr
            rw [ACode.run_le ih (Nat.le_succ n) hq]
            obtain ⟨x, e1, H1⟩ := p
            cases x with
            | exit i => cases hr
            | ret => cases hr
            | normal =>
              simp only at hr ⊢
              cases hb1 : H1.get b with
              | none => rw [hb1] at hr; cases hr
              | some o1 =>
                rw [hb1] at hr
                cases o1 with
                | loop R1 =>
                  simp only at hr ⊢
                  split at hr
                  · cases hr
                  · rename_i hst1
                    rw [if_neg hst1]
                    cases hq2 : R.body.run (callF P n) n e1 (H1.set b (.loop { R1 with st := 1 })) with
                    | none => rw [hq2] at hr; cases hr
                    | some p2 => rw [hq2] at hr; rw [ACode.run_le ih (Nat.le_succ n) hq2]; exact hr
                | row B => cases hr
                | map es => cases hr
                | itr s p => cases hr
      | row B => cases hr
      | map es => cases hr
      | itr s p => cases hr
theorem callF_le (P : Prog) {n m : Nat} (h : n ≤ m) : CallLe (callF P n) (callF P m) := by
  induction h with
  | refl => exact fun _ _ _ _ h => h
  | step _ ih => exact fun f args H r hr => callF_succ P _ f args H r (ih f args H r hr)
/-! ### A code in two parts -/
def appC : ACode → ACode → ACode
  | .seq a b, c => .seq a (appC b c)
  | x, c => .seq x c
theorem appC_run {cl : CallH} {n : Nat} : ∀ {a c : ACode} {e : Env} {H : AHeap}, (appC a c).run cl n e H = match a.run cl n e H with | some (.normal, e', H') => c.run cl n e' H' | r => r
  | .seq a b, c, e, H => by
    show (ACode.seq a (appC b c)).run cl n e H = _
    simp only [ACode.run]
    cases a.run cl n e H with
    | none => rfl
    | some p =>
      obtain ⟨x, e', H'⟩ := p
      cases x with
      | normal => exact appC_run (a := b)
      | exit i => rfl
      | ret => rfl
  | .skip, c, e, H => rfl
  | .ops l, c, e, H => rfl
  | .cond x a b, c, e, H => rfl
  | .block i b, c, e, H => rfl
  | .loop b, c, e, H => rfl
  | .rangeF g N ps a b, c, e, H => rfl
  | .exit i, c, e, H => rfl
  | .ret, c, e, H => rfl
  | .fail, c, e, H => rfl
/-- the first part run once, the second one by its weakest precondition -/
theorem fn_two {Q : Prog} {f : FuncId} {F : AFunc} {args : List AV} {H : AHeap} {K : AV → AHeap → Prop} (ho : Q.orc f args = none) (hf : Q.fns f = some F) (hl : args.length ≤ F.ntmps) {a : ACode} {L1 L2 : List AOper} {b : ACode}
    (hb : F.body = appC a (.seq (.ops (L1 ++ L2)) b)) {n0 : Nat} {e1 : Env} {H1 : AHeap} (h1 : (appC a (.ops L1)).run (callF Q n0) n0 (Env.init 0 args .nil) H = some (.normal, e1, H1))
    (h2 : ACode.wp Q (.seq (.ops L2) b) (fnK F.res K) e1 H1) : FnTo Q f args H K := by
  obtain ⟨N, x, e', H', hr, hk⟩ := ACode.wp_sound h2
  have body : ∀ n, max N n0 ≤ n → F.body.run (callF Q n) n (Env.init 0 args .nil) H = some (x, e', H') := by
    intro n hn
    have ha := ACode.run_le (callF_le Q (show n0 ≤ n by omega)) (show n0 ≤ n by omega) h1
    have hs := hr n (by omega)
    rw [hb, appC_run]
    rw [appC_run] at ha
    cases hq : a.run (callF Q n) n (Env.init 0 args .nil) H with
    | none => rw [hq] at ha; cases ha
    | some p =>
      rw [hq] at ha
      obtain ⟨y, e2, H2⟩ := p
      cases y with
      | exit i => simp only at ha; cases ha
      | ret => simp only at ha; cases ha
      | normal =>
        simp only at ha ⊢
        simp only [ACode.run, runOps_append] at ha hs ⊢
        cases hq1 : runOps (callF Q n) L1 e2 H2 with
        | none => rw [hq1] at ha; cases ha
        | some p1 =>
          rw [hq1] at ha
          obtain ⟨e3, H3⟩ := p1
          simp only [Option.some.injEq, Prod.mk.injEq, true_and] at ha
          obtain ⟨rfl, rfl⟩ := ha
          exact hs
  have key : x = .normal ∨ x = .ret → (∃ v, resVal e' H' F.res = some v ∧ K v H') → FnTo Q f args H K := by
    intro hx ⟨v, hv, hk⟩
    refine ⟨max N n0 + 1, v, H', fun n hn => ?_, hk⟩
    obtain ⟨n, rfl⟩ : ∃ j, n = j + 1 := ⟨n - 1, by omega⟩
    have hr := body n (by omega)
    simp only [callF, ho, hf, if_neg (by omega : ¬ args.length > F.ntmps)]
    rcases hx with rfl | rfl <;> simp only [hr, hv]
  cases x with
  | normal => exact key (.inl rfl) hk
  | exit i => exact hk.elim
  | ret => exact key (.inr rfl) hk
end Go.Proofs.YtdkpmlhbofgfdaaGreatDoor.AM
