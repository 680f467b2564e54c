/-
  Weakest preconditions over the abstract machine: computed by recursion on the code; sound for every fuel that is great enough.
-/
import Derived.Test.YtdkpmlhbofgfdaaGreatDoorAmBase
set_option linter.unusedVariables false
namespace Go.Proofs.YtdkpmlhbofgfdaaGreatDoor.AM
open Go

/-- a call comes to an end, whatever the fuel, if it is enough -/
def CTo (Q : Prog) (f : CFn) (args : List AV) (H : AHeap) (K : AV → AHeap → Prop) : Prop := ∃ N v H', (∀ n, N ≤ n → callF Q n f args H = some (v, H')) ∧ K v H'
theorem CTo.mono {Q : Prog} {f : CFn} {args : List AV} {H : AHeap} {K K' : AV → AHeap → Prop} (h : CTo Q f args H K) (hk : ∀ v H', K v H' → K' v H') : CTo Q f args H K' := by
  obtain ⟨N, v, H', h1, h2⟩ := h
  exact ⟨N, v, H', h1, hk _ _ h2⟩
def FnTo (Q : Prog) (f : FuncId) (args : List AV) (H : AHeap) (K : AV → AHeap → Prop) : Prop := CTo Q (.fn f) args H K
theorem FnTo.mono {Q : Prog} {f : FuncId} {args : List AV} {H : AHeap} {K K' : AV → AHeap → Prop} (h : FnTo Q f args H K) (hk : ∀ v H', K v H' → K' v H') : FnTo Q f args H K' := CTo.mono h hk
abbrev PostO := Env → AHeap → Prop
abbrev PostC := AEx → Env → AHeap → Prop
def EOp.wp (Q : Prog) (H : AHeap) (e : Env) (K : AV → AHeap → Prop) : EOp → Prop
  | .call f args => FnTo Q f (args.map (·.ev e)) H K
  | .callv f args => match f.ev e with | .fn (.func g) first captured => FnTo Q g (first ++ args.map (·.ev e) ++ captured) H K | .yld b => CTo Q (.yld b) (args.map (·.ev e)) H K | _ => False
  | o => ∃ v H', o.run (fun _ _ _ => none) H e = some (v, H') ∧ K v H'
def wantV (v : AV) (b : Bool) : Bool := match v with | .bool c => c == b | _ => false
def bindO (r : Option AV) (k : AV → Prop) : Prop := ∃ v, r = some v ∧ k v
theorem bindO_some (v : AV) (k : AV → Prop) : bindO (some v) k = k v := by simp [bindO]
def bindA (r : Option (AObj × AKind)) (k : AObj → AKind → Prop) : Prop := ∃ o a, r = some (o, a) ∧ k o a
theorem bindA_some (o : AObj) (a : AKind) (k : AObj → AKind → Prop) : bindA (some (o, a)) k = k o a := propext ⟨fun ⟨_, _, h, hk⟩ => by cases h; exact hk, fun h => ⟨o, a, rfl, h⟩⟩
def nextV (k : PostO) (e : Env) (d : Option Nat) (H : AHeap) (v : AV) : Prop := k (Env.put e d v) H
def nextA (k : PostO) (e : Env) (d : Option Nat) (H : AHeap) (o : AObj) (a : AKind) : Prop := k (Env.put e d (a.val H.next)) (H.alloc o)
def nextE (k : PostO) (e : Env) (d : Option Nat) (ec : List Echo) (v : AV) (H : AHeap) : Prop := echoOk H e ec = true ∧ k (Env.put e d v) H
def stepX (Q : Prog) (k : PostO) (e : Env) (H : AHeap) (d : Option Nat) (ec : List Echo) : AOp → Prop
  | .r x => bindO (x.run H e) (nextV k e d H)
  | .a x => bindA (x.run e) (nextA k e d H)
  | .e x => x.wp Q H e (nextE k e d ec)
def wops (Q : Prog) : List AOper → PostO → PostO
  | [], K, e, H => K e H
  | o :: l, K, e, H => if want e o.guard then stepX Q (wops Q l K) e H o.dst o.echo o.op else wops Q l K (Env.put e o.dst .undef) H
def seqK (k : PostO) (K : PostC) : PostC := fun x e H => match x with | .normal => k e H | x => K x e H
theorem seqK_normal (k : PostO) (K : PostC) (e : Env) (H : AHeap) : seqK k K .normal e H = k e H := rfl
theorem seqK_exit (k : PostO) (K : PostC) (i : Nat) (e : Env) (H : AHeap) : seqK k K (.exit i) e H = K (.exit i) e H := rfl
theorem seqK_ret (k : PostO) (K : PostC) (e : Env) (H : AHeap) : seqK k K .ret e H = K .ret e H := rfl
def blockK (id : Nat) (K : PostC) : PostC := fun x e H => match x with | .exit i => if i = id then K .normal e H else K (.exit i) e H | x => K x e H
theorem blockK_normal (id : Nat) (K : PostC) (e : Env) (H : AHeap) : blockK id K .normal e H = K .normal e H := rfl
theorem blockK_exit (id : Nat) (K : PostC) (i : Nat) (e : Env) (H : AHeap) : blockK id K (.exit i) e H = if i = id then K .normal e H else K (.exit i) e H := rfl
theorem blockK_ret (id : Nat) (K : PostC) (e : Env) (H : AHeap) : blockK id K .ret e H = K .ret e H := rfl
def loopK (I : Nat → Env → AHeap → Prop) (m : Nat) (K : PostC) : PostC := fun x e H => match x with | .normal => ∃ m', m' < m ∧ I m' e H | x => K x e H
theorem loopK_normal (I : Nat → Env → AHeap → Prop) (m : Nat) (K : PostC) (e : Env) (H : AHeap) : loopK I m K .normal e H = ∃ m', m' < m ∧ I m' e H := rfl
theorem loopK_exit (I : Nat → Env → AHeap → Prop) (m : Nat) (K : PostC) (i : Nat) (e : Env) (H : AHeap) : loopK I m K (.exit i) e H = K (.exit i) e H := rfl
theorem loopK_ret (I : Nat → Env → AHeap → Prop) (m : Nat) (K : PostC) (e : Env) (H : AHeap) : loopK I m K .ret e H = K .ret e H := rfl
def condK (t : AV) (a b : PostO) (e : Env) (H : AHeap) : Prop := ∃ c, t = .bool c ∧ (c = true → a e H) ∧ (c = false → b e H)
theorem condK_true (a b : PostO) (e : Env) (H : AHeap) : condK (.bool true) a b e H = a e H := by simp [condK]
theorem condK_false (a b : PostO) (e : Env) (H : AHeap) : condK (.bool false) a b e H = b e H := by simp [condK]
def loopW (w : PostC → PostO) (K : PostC) (e : Env) (H : AHeap) : Prop := ∃ (I : Nat → Env → AHeap → Prop) (m : Nat), I m e H ∧ ∀ m e H, I m e H → w (loopK I m K) e H
def fnK (res : List ARes) (K : AV → AHeap → Prop) : PostC := fun x e H' => match x with | .exit _ => False | _ => ∃ v, resVal e H' res = some v ∧ K v H'
def bindR (r : Option AV) (k : AV → AHeap → Prop) (H : AHeap) : Prop := ∃ v, r = some v ∧ k v H
theorem bindR_some (v : AV) (k : AV → AHeap → Prop) (H : AHeap) : bindR (some v) k H = k v H := by simp [bindR]
theorem fnK_normal (res : List ARes) (K : AV → AHeap → Prop) (e : Env) (H : AHeap) : fnK res K .normal e H = bindR (resVal e H res) K H := rfl
theorem fnK_ret (res : List ARes) (K : AV → AHeap → Prop) (e : Env) (H : AHeap) : fnK res K .ret e H = bindR (resVal e H res) K H := rfl
/-- behind a range over a function -/
def rangeK (b : Nat) (K : PostC) (e : Env) (H : AHeap) : Prop := ∃ R, H.get b = some (.loop R) ∧ R.st ≠ 1 ∧ K R.pend e (H.set b (.loop { R with st := 3 }))
def rangeW (Q : Prog) (g : AV) (R : ALoop) (K : PostC) (e : Env) (H : AHeap) : Prop := ∃ f first cap, g = .fn (.func f) first cap ∧ CTo Q (.fn f) (first ++ [.yld H.next] ++ cap) (H.alloc (.loop R)) (fun _ H' => rangeK H.next K e H')
def ACode.wp (Q : Prog) : ACode → PostC → PostO
  | .skip, K, e, H => K .normal e H
  | .ops l, K, e, H => wops Q l (K .normal) e H
  | .seq a b, K, e, H => a.wp Q (seqK (b.wp Q K) K) e H
  | .cond c a b, K, e, H => condK (c.ev e) (a.wp Q K) (b.wp Q K) e H
  | .block id c, K, e, H => c.wp Q (blockK id K) e H
  | .loop c, K, e, H => loopW (c.wp Q) K e H
  | .rangeF g N ps as bd, K, e, H => rangeW Q (g.ev e) ⟨0, .normal, N, e, ps, as, bd⟩ K e H
  | .exit id, K, e, H => K (.exit id) e H
  | .ret, K, e, H => K .ret e H
  | .fail, _, _, _ => False

theorem wops_nil (Q : Prog) (K : PostO) (e : Env) (H : AHeap) : wops Q [] K e H = K e H := rfl
theorem wops_cons (Q : Prog) (o : AOper) (l : List AOper) (K : PostO) (e : Env) (H : AHeap) : wops Q (o :: l) K e H = if want e o.guard then stepX Q (wops Q l K) e H o.dst o.echo o.op else wops Q l K (Env.put e o.dst .undef) H := rfl
theorem stepX_r (Q : Prog) (k : PostO) (e : Env) (H : AHeap) (d : Option Nat) (ec : List Echo) (x : ROp) : stepX Q k e H d ec (.r x) = bindO (x.run H e) (nextV k e d H) := rfl
theorem stepX_a (Q : Prog) (k : PostO) (e : Env) (H : AHeap) (d : Option Nat) (ec : List Echo) (x : LOp) : stepX Q k e H d ec (.a x) = bindA (x.run e) (nextA k e d H) := rfl
theorem stepX_e (Q : Prog) (k : PostO) (e : Env) (H : AHeap) (d : Option Nat) (ec : List Echo) (x : EOp) : stepX Q k e H d ec (.e x) = x.wp Q H e (nextE k e d ec) := rfl
theorem nextV_eq (k : PostO) (e : Env) (d : Option Nat) (H : AHeap) (v : AV) : nextV k e d H v = k (Env.put e d v) H := rfl
theorem nextA_eq (k : PostO) (e : Env) (d : Option Nat) (H : AHeap) (o : AObj) (a : AKind) : nextA k e d H o a = k (Env.put e d (a.val H.next)) (H.alloc o) := rfl
theorem nextE_eq (k : PostO) (e : Env) (d : Option Nat) (ec : List Echo) (v : AV) (H : AHeap) : nextE k e d ec v H = (echoOk H e ec = true ∧ k (Env.put e d v) H) := rfl
theorem wp_skip (Q : Prog) (K : PostC) (e : Env) (H : AHeap) : ACode.wp Q .skip K e H = K .normal e H := rfl
theorem wp_ops (Q : Prog) (l : List AOper) (K : PostC) (e : Env) (H : AHeap) : ACode.wp Q (.ops l) K e H = wops Q l (K .normal) e H := rfl
theorem wp_seq (Q : Prog) (a b : ACode) (K : PostC) (e : Env) (H : AHeap) : ACode.wp Q (.seq a b) K e H = a.wp Q (seqK (b.wp Q K) K) e H := rfl
theorem wp_cond (Q : Prog) (c : Opd) (a b : ACode) (K : PostC) (e : Env) (H : AHeap) : ACode.wp Q (.cond c a b) K e H = condK (c.ev e) (a.wp Q K) (b.wp Q K) e H := rfl
theorem wp_block (Q : Prog) (id : Nat) (c : ACode) (K : PostC) (e : Env) (H : AHeap) : ACode.wp Q (.block id c) K e H = c.wp Q (blockK id K) e H := rfl
theorem wp_loop (Q : Prog) (c : ACode) (K : PostC) (e : Env) (H : AHeap) : ACode.wp Q (.loop c) K e H = loopW (c.wp Q) K e H := rfl
theorem wp_rangeF (Q : Prog) (g : Opd) (N : Nat) (ps : List Nat) (as bd : ACode) (K : PostC) (e : Env) (H : AHeap) : ACode.wp Q (.rangeF g N ps as bd) K e H = rangeW Q (g.ev e) ⟨0, .normal, N, e, ps, as, bd⟩ K e H := rfl
theorem wp_exit (Q : Prog) (id : Nat) (K : PostC) (e : Env) (H : AHeap) : ACode.wp Q (.exit id) K e H = K (.exit id) e H := rfl
theorem wp_ret (Q : Prog) (K : PostC) (e : Env) (H : AHeap) : ACode.wp Q .ret K e H = K .ret e H := rfl
theorem want_none (e : Env) : want e none = true := rfl
theorem want_some (e : Env) (t : Nat) (b : Bool) : want e (some (t, b)) = wantV (Env.get e t) b := rfl
theorem wantV_true (c : Bool) : wantV (.bool c) true = c := by cases c <;> rfl
theorem wantV_false (c : Bool) : wantV (.bool c) false = !c := by cases c <;> rfl
theorem EOp.wp_sound {Q : Prog} {H : AHeap} {e : Env} {K : AV → AHeap → Prop} : ∀ {o : EOp}, o.wp Q H e K → ∃ N v H', (∀ n, N ≤ n → o.run (callF Q n) H e = some (v, H')) ∧ K v H' := by
  have plain : ∀ {o : EOp}, (∀ cl cl', o.run cl H e = o.run cl' H e) → (∃ v H', o.run (fun _ _ _ => none) H e = some (v, H') ∧ K v H') → ∃ N v H', (∀ n, N ≤ n → o.run (callF Q n) H e = some (v, H')) ∧ K v H' := by
    intro o ho ⟨v, H', h1, h2⟩
    exact ⟨0, v, H', fun n _ => by rw [ho _ (fun _ _ _ => none)]; exact h1, h2⟩
  intro o h
  cases o with
  | call f args => exact h
  | callv f args =>
    simp only [EOp.wp] at h
    simp only [EOp.run]
    split at h
    · rename_i hf; simp only [hf]; exact h
    · rename_i hf; simp only [hf]; exact h
    · exact h.elim
  | store n a v => exact plain (fun _ _ => rfl) h
  | append es bytes s x => exact plain (fun _ _ => rfl) h
  | copy es d s => exact plain (fun _ _ => rfl) h
  | clear zero s => exact plain (fun _ _ => rfl) h
  | mapUpd kk m k v => exact plain (fun _ _ => rfl) h
  | mark x => exact plain (fun _ _ => rfl) h
  | appendT ty es bytes s x => exact plain (fun _ _ => rfl) h
  | strUns ety x n => exact plain (fun _ _ => rfl) h
  | mapDel kk m k => exact plain (fun _ _ => rfl) h
  | nxt x => exact plain (fun _ _ => rfl) h
  | fail => obtain ⟨v, H', h1, _⟩ := h; cases h1
theorem wops_sound {Q : Prog} {K : PostO} : ∀ {l : List AOper} {e : Env} {H : AHeap}, wops Q l K e H → ∃ N e' H', (∀ n, N ≤ n → runOps (callF Q n) l e H = some (e', H')) ∧ K e' H'
  | [], e, H, h => ⟨0, e, H, fun _ _ => rfl, h⟩
  | o :: l, e, H, h => by
    simp only [wops] at h
    split at h
    · rename_i hw
      unfold stepX at h
      split at h
      · rename_i x hx
        obtain ⟨v, h1, h2⟩ := h
        obtain ⟨N, e', H', h3, h4⟩ := wops_sound h2
        exact ⟨N, e', H', fun n hn => by simp only [runOps, AOper.run, hw, if_true, hx, h1]; exact h3 n hn, h4⟩
      · rename_i x hx
        obtain ⟨obj, k, h1, h2⟩ := h
        obtain ⟨N, e', H', h3, h4⟩ := wops_sound h2
        exact ⟨N, e', H', fun n hn => by simp only [runOps, AOper.run, hw, if_true, hx, h1]; exact h3 n hn, h4⟩
      · rename_i x hx
        obtain ⟨N1, v, H1, h1, hec, h2⟩ := EOp.wp_sound h
        obtain ⟨N, e', H', h3, h4⟩ := wops_sound h2
        exact ⟨max N N1, e', H', fun n hn => by simp only [runOps, AOper.run, hw, if_true, hx, h1 n (by omega), hec]; exact h3 n (by omega), h4⟩
    · rename_i hw
      obtain ⟨N, e', H', h3, h4⟩ := wops_sound h
      exact ⟨N, e', H', fun n hn => by simp only [runOps, AOper.run, hw]; exact h3 n hn, h4⟩
theorem ACode.wp_sound {Q : Prog} : ∀ {c : ACode} {K : PostC} {e : Env} {H : AHeap}, c.wp Q K e H → ∃ N x e' H', (∀ n, N ≤ n → c.run (callF Q n) n e H = some (x, e', H')) ∧ K x e' H'
  | .skip, K, e, H, h => ⟨0, _, e, H, fun _ _ => rfl, h⟩
  | .ops l, K, e, H, h => by
    obtain ⟨N, e', H', h3, h4⟩ := wops_sound h
    exact ⟨N, .normal, e', H', fun n hn => by simp only [ACode.run, h3 n hn], h4⟩
  | .seq a b, K, e, H, h => by
    obtain ⟨N, x, e', H', h1, h2⟩ := ACode.wp_sound (c := a) h
    cases x with
    | normal =>
      obtain ⟨N2, x2, e2, H2, h3, h4⟩ := ACode.wp_sound (c := b) h2
      exact ⟨max N N2, x2, e2, H2, fun n hn => by simp only [ACode.run, h1 n (by omega), h3 n (by omega)], h4⟩
    | exit i => exact ⟨N, _, e', H', fun n hn => by simp only [ACode.run, h1 n hn], h2⟩
    | ret => exact ⟨N, _, e', H', fun n hn => by simp only [ACode.run, h1 n hn], h2⟩
  | .cond c a b, K, e, H, h => by
    obtain ⟨t, ht, h1, h2⟩ := h
    cases t with
    | true =>
      obtain ⟨N, x, e', H', h3, h4⟩ := ACode.wp_sound (c := a) (h1 rfl)
      exact ⟨N, x, e', H', fun n hn => by simp only [ACode.run, ht, h3 n hn], h4⟩
    | false =>
      obtain ⟨N, x, e', H', h3, h4⟩ := ACode.wp_sound (c := b) (h2 rfl)
      exact ⟨N, x, e', H', fun n hn => by simp only [ACode.run, ht, h3 n hn], h4⟩
  | .block id c, K, e, H, h => by
    obtain ⟨N, x, e', H', h1, h2⟩ := ACode.wp_sound (c := c) h
    cases x with
    | normal => exact ⟨N, _, e', H', fun n hn => by simp only [ACode.run, h1 n hn], h2⟩
    | exit i =>
      rw [blockK_exit] at h2
      by_cases hi : i = id
      · rw [if_pos hi] at h2
        exact ⟨N, _, e', H', fun n hn => by simp only [ACode.run, h1 n hn, hi, if_true], h2⟩
      · rw [if_neg hi] at h2
        exact ⟨N, _, e', H', fun n hn => by simp only [ACode.run, h1 n hn, if_neg hi], h2⟩
    | ret => exact ⟨N, _, e', H', fun n hn => by simp only [ACode.run, h1 n hn], h2⟩
  | .loop c, K, e, H, h => by
    obtain ⟨I, m, h0, hs⟩ := h
    have key : ∀ m e H, I m e H → ∃ N x e' H', (∀ n k, N ≤ n → N ≤ k → iter (c.run (callF Q n) n) k e H = some (x, e', H')) ∧ K x e' H' := by
      intro m
      induction m using Nat.strongRecOn with
      | _ m ih =>
        intro e H hI
        obtain ⟨N, x, e', H', h1, h2⟩ := ACode.wp_sound (c := c) (hs m e H hI)
        cases x with
        | normal =>
          obtain ⟨m', hm, hI'⟩ := h2
          obtain ⟨N2, x2, e2, H2, h3, h4⟩ := ih m' hm e' H' hI'
          refine ⟨max N N2 + 1, x2, e2, H2, fun n k hn hk => ?_, h4⟩
          obtain ⟨k, rfl⟩ : ∃ j, k = j + 1 := ⟨k - 1, by omega⟩
          simp only [iter, h1 n (by omega)]
          exact h3 n k (by omega) (by omega)
        | exit i =>
          refine ⟨N + 1, _, e', H', fun n k hn hk => ?_, h2⟩
          obtain ⟨k, rfl⟩ : ∃ j, k = j + 1 := ⟨k - 1, by omega⟩
          simp only [iter, h1 n (by omega)]
        | ret =>
          refine ⟨N + 1, _, e', H', fun n k hn hk => ?_, h2⟩
          obtain ⟨k, rfl⟩ : ∃ j, k = j + 1 := ⟨k - 1, by omega⟩
          simp only [iter, h1 n (by omega)]
    obtain ⟨N, x, e', H', h1, h2⟩ := key m e H h0
    exact ⟨N, x, e', H', fun n hn => by simp only [ACode.run]; exact h1 n n hn hn, h2⟩
  | .rangeF g N ps as bd, K, e, H, h => by
    obtain ⟨f, first, cap, hg, N1, v, H1, h1, R, h2, h3, h4⟩ := h
    refine ⟨N1, _, _, _, fun n hn => ?_, h4⟩
    simp only [ACode.run, hg, h1 n hn, h2, if_neg h3]
  | .exit id, K, e, H, h => ⟨0, _, e, H, fun _ _ => rfl, h⟩
  | .ret, K, e, H, h => ⟨0, _, e, H, fun _ _ => rfl, h⟩
  | .fail, K, e, H, h => h.elim

theorem ACode.wp_mono {Q : Prog} : ∀ {c : ACode} {K K' : PostC} {e : Env} {H : AHeap}, (∀ x e H, K x e H → K' x e H) → c.wp Q K e H → c.wp Q K' e H := by
  have eop : ∀ {o : EOp} {K K' : AV → AHeap → Prop} {e : Env} {H : AHeap}, (∀ v H', K v H' → K' v H') → o.wp Q H e K → o.wp Q H e K' := by
    intro o K K' e H hk h
    cases o with
    | call f args => exact FnTo.mono h hk
    | callv f args =>
      simp only [EOp.wp] at h ⊢
      split at h
      · exact FnTo.mono h hk
      · exact CTo.mono h hk
      · exact h.elim
    | _ => exact ⟨_, _, h.choose_spec.choose_spec.1, hk _ _ h.choose_spec.choose_spec.2⟩
  have ops : ∀ {l : List AOper} {K K' : PostO} {e : Env} {H : AHeap}, (∀ e H, K e H → K' e H) → wops Q l K e H → wops Q l K' e H := by
    intro l
    induction l with
    | nil => intro K K' e H hk h; exact hk _ _ h
    | cons o l ih =>
      intro K K' e H hk h
      simp only [wops] at h ⊢
      by_cases hw : want e o.guard = true
      · rw [if_pos hw] at h ⊢
        unfold stepX at h ⊢
        split at h
        · obtain ⟨v, h1, h2⟩ := h; exact ⟨v, h1, ih hk h2⟩
        · obtain ⟨v, k, h1, h2⟩ := h; exact ⟨v, k, h1, ih hk h2⟩
        · exact eop (fun v H' hh => ⟨hh.1, ih hk hh.2⟩) h
      · rw [if_neg hw] at h ⊢
        exact ih hk h
  intro c
  induction c with
  | skip => intro K K' e H hk h; exact hk _ _ _ h
  | ops l => intro K K' e H hk h; exact ops (hk .normal) h
  | seq a b iha ihb =>
    intro K K' e H hk h
    refine iha (fun x e H hx => ?_) h
    cases x with
    | normal => exact ihb hk hx
    | exit i => exact hk _ _ _ hx
    | ret => exact hk _ _ _ hx
  | cond c a b iha ihb =>
    intro K K' e H hk h
    obtain ⟨t, ht, h1, h2⟩ := h
    exact ⟨t, ht, fun hh => iha hk (h1 hh), fun hh => ihb hk (h2 hh)⟩
  | block id c ih =>
    intro K K' e H hk h
    refine ih (fun x e H hx => ?_) h
    cases x with
    | normal => exact hk _ _ _ hx
    | exit i =>
      rw [blockK_exit] at hx ⊢
      split at hx
      · rename_i hi; rw [if_pos hi]; exact hk _ _ _ hx
      · rename_i hi; rw [if_neg hi]; exact hk _ _ _ hx
    | ret => exact hk _ _ _ hx
  | loop c ih =>
    intro K K' e H hk h
    obtain ⟨I, m, h0, hs⟩ := h
    refine ⟨I, m, h0, fun m e H hI => ih (fun x e H hx => ?_) (hs m e H hI)⟩
    cases x with
    | normal => exact hx
    | exit i => exact hk _ _ _ hx
    | ret => exact hk _ _ _ hx
  | rangeF g N ps as bd _ _ =>
    intro K K' e H hk h
    obtain ⟨f, first, cap, hg, h⟩ := h
    refine ⟨f, first, cap, hg, h.mono fun v H' ⟨R, h2, h3, h4⟩ => ⟨R, h2, h3, hk _ _ _ h4⟩⟩
  | exit id => intro K K' e H hk h; exact hk _ _ _ h
  | ret => intro K K' e H hk h; exact hk _ _ _ h
  | fail => intro K K' e H hk h; exact h

/-- a function's body, by its weakest precondition -/
theorem fn_wp {Q : Prog} {f : FuncId} {F : AFunc} {args : List AV} {H : AHeap} {K : AV → AHeap → Prop} (ho : Q.orc f args = none) (hf : Q.fns f = some F) (hl : args.length ≤ F.ntmps)
    (h : F.body.wp Q (fnK F.res K) (Env.init 0 args .nil) H) : FnTo Q f args H K := by
  obtain ⟨N, x, e', H', h1, h2⟩ := ACode.wp_sound h
  have key : x = .normal ∨ x = .ret → (∃ v, resVal e' H' F.res = some v ∧ K v H') → FnTo Q f args H K := by
    intro hx ⟨v, hv, hk⟩
    refine ⟨N + 1, v, H', fun n hn => ?_, hk⟩
    obtain ⟨n, rfl⟩ : ∃ j, n = j + 1 := ⟨n - 1, by omega⟩
    have hr := h1 n (by omega)
    simp only [callF, ho, hf, if_neg (by omega : ¬ args.length > F.ntmps)]
    rcases hx with rfl | rfl <;> simp only [hr, hv]
  cases x with
  | normal => exact key (.inl rfl) h2
  | exit i => exact h2.elim
  | ret => exact key (.inr rfl) h2
theorem fn_orc {Q : Prog} {f : FuncId} {args : List AV} {H : AHeap} {K : AV → AHeap → Prop} {v : AV} (ho : Q.orc f args = some v) (ht : hasTabs H Q.tabs = true) (hk : K v H) : FnTo Q f args H K :=
  ⟨1, v, H, fun n hn => by
    obtain ⟨n, rfl⟩ : ∃ j, n = j + 1 := ⟨n - 1, by omega⟩
    simp only [callF, ho, ht, if_true], hk⟩
theorem fn_orh {Q : Prog} {f : FuncId} {args : List AV} {H : AHeap} {K : AV → AHeap → Prop} {v : AV} (ho : Q.orc f args = none) (hf : Q.fns f = none) (hh : Q.orh f args H = some v) (hk : K v H) : FnTo Q f args H K :=
  ⟨1, v, H, fun n hn => by
    obtain ⟨n, rfl⟩ : ∃ j, n = j + 1 := ⟨n - 1, by omega⟩
    simp only [callF, ho, hf, hh], hk⟩
/-- one round of a loop: the record says where it begins -/
theorem yld_wp {Q : Prog} {b : Nat} {args : List AV} {H : AHeap} {K : AV → AHeap → Prop} {R : ALoop} (hb : H.get b = some (.loop R)) (hst : R.st = 0) (hl : args.length = R.ps.length)
    (h : R.assign.wp Q (seqK (fun e H1 => ∃ R1, H1.get b = some (.loop R1) ∧ R1.st = 0 ∧ R.body.wp Q (fun x _ H2 => ∃ R2, H2.get b = some (.loop R2) ∧ K (.bool (decide (x = .normal))) (H2.set b (.loop { R2 with st := if x = .normal then 0 else 2, pend := x }))) e (H1.set b (.loop { R1 with st := 1 }))) (fun _ _ _ => False)) (putAll R.ps args R.env) H) :
    CTo Q (.yld b) args H K := by
  obtain ⟨N1, x, e1, H1, h1, h2⟩ := ACode.wp_sound h
  cases x with
  | exit i => exact h2.elim
  | ret => exact h2.elim
  | normal =>
    obtain ⟨R1, k1, k2, k3⟩ := h2
    obtain ⟨N2, x, e2, H2, g1, R2, g2, g3⟩ := ACode.wp_sound k3
    refine ⟨max N1 N2 + 1, _, _, fun n hn => ?_, g3⟩
    obtain ⟨n, rfl⟩ : ∃ j, n = j + 1 := ⟨n - 1, by omega⟩
    simp only [callF, hb, hst, hl, and_self, not_true, if_false, h1 n (by omega), k1, k2, g1 n (by omega), g2, ne_eq]
theorem Env.get_init (args : List AV) (x : Nat) : Env.get (Env.init 0 args .nil) x = args.getD x .undef := by
  have : ∀ (vs : List AV) (i : Nat) (e : Env) (x : Nat), Env.get (Env.init i vs e) x = if i ≤ x ∧ x < i + vs.length then vs.getD (x - i) .undef else Env.get e x := by
    intro vs
    induction vs with
    | nil => intro i e x; simp only [Env.init, List.length_nil, Nat.add_zero]; rw [if_neg (by omega)]
    | cons v vs ih =>
      intro i e x
      simp only [Env.init]
      rw [ih, Env.get_set]
      simp only [List.length_cons]
      by_cases h1 : x = i
      · subst h1
        rw [if_neg (by omega), if_pos rfl, if_pos (by omega)]
        simp
      · rw [if_neg h1]
        by_cases h2 : i + 1 ≤ x ∧ x < i + 1 + vs.length
        · rw [if_pos h2, if_pos (by omega)]
          obtain ⟨k, hk⟩ : ∃ k, x - i = k + 1 := ⟨x - i - 1, by omega⟩
          have h3 : x - (i + 1) = k := by omega
          rw [h3, hk]; rfl
        · rw [if_neg h2, if_neg (by omega)]
  rw [this]
  by_cases h : x < args.length
  · rw [if_pos (by omega)]; rfl
  · rw [if_neg (by omega)]
    rw [List.getD_eq_getElem?_getD, List.getElem?_eq_none (by omega)]
    rfl
end Go.Proofs.YtdkpmlhbofgfdaaGreatDoor.AM
