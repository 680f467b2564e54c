/-
  Arguments as lists and numbers: from what a row hands over to what the walks ask.
-/
import Derived.Test.YtdkpmlhbofgfdaaGreatDoorAmRow
import Derived.Test.YtdkpmlhbofgfdaaGreatDoorAmWp2
set_option linter.unusedVariables false
namespace Go.Proofs.YtdkpmlhbofgfdaaGreatDoor.AM
open Go

/-- data of a one-celled type, read as values of ours -/
def One {α : Type} (P : Program) (t : TypeId) (R : AHeap → α → AV → Prop) (G : α → Prop) : Prop :=
  ∀ (H : AHeap) (d : Dt) (cs : List AV), WT P d t → Rd H d cs → (∀ ps, d ≠ .agg ps) ∧ ∃ a c, cs = [c] ∧ R H a c ∧ G a
def SlR {α : Type} (R : AHeap → α → AV → Prop) (H : AHeap) (l : List α) (v : AV) : Prop := IsSl R H v l
def IsK (k : IntKind) (_ : AHeap) (x : Int) (c : AV) : Prop := c = .int k x
def IsStr (_ : AHeap) (x : List UInt8) (c : AV) : Prop := c = .str x
def IsBool (_ : AHeap) (x : Bool) (c : AV) : Prop := c = .bool x
theorem one_int {P : Program} {t : TypeId} {k : IntKind} (h : P.underlying t = some (.int k)) : One P t (IsK k) (fun x => (Lit.int k x).wf = true) := by
  intro H d cs hw hr
  cases d with
  | int j n =>
    simp only [WT, h, Option.some.injEq, TypeDesc.int.injEq] at hw
    obtain ⟨rfl, hw⟩ := hw
    simp only [Rd] at hr
    exact ⟨(fun ps hh => by cases hh), n, _, hr, rfl, hw⟩
  | bool b => simp [WT, h] at hw
  | str s => simp [WT, h] at hw
  | nils => simp [WT, h] at hw
  | slc es cap => simp [WT, h] at hw
  | agg ps => simp [WT, h] at hw
theorem one_bool {P : Program} {t : TypeId} (h : P.underlying t = some .bool) : One P t IsBool (fun _ => True) := by
  intro H d cs hw hr
  cases d with
  | bool b =>
    simp only [Rd] at hr
    exact ⟨(fun ps hh => by cases hh), b, _, hr, rfl, trivial⟩
  | int k n => simp [WT, h] at hw
  | str s => simp [WT, h] at hw
  | nils => simp [WT, h] at hw
  | slc es cap => simp [WT, h] at hw
  | agg ps => simp [WT, h] at hw
theorem one_str {P : Program} {t : TypeId} (h : P.underlying t = some .string) : One P t IsStr (fun s => s.length ≤ maxLen) := by
  intro H d cs hw hr
  cases d with
  | str s =>
    simp only [Rd] at hr
    simp only [WT] at hw
    exact ⟨(fun ps hh => by cases hh), s, _, hr, rfl, hw.2⟩
  | int k n => simp [WT, h] at hw
  | bool b => simp [WT, h] at hw
  | nils => simp [WT, h] at hw
  | slc es cap => simp [WT, h] at hw
  | agg ps => simp [WT, h] at hw
theorem one_slice {α : Type} {P : Program} {t e : TypeId} {R : AHeap → α → AV → Prop} {G : α → Prop} (he : One P e R G) (h : P.underlying t = some (.slice e)) : One P t (SlR R) (fun l => l.length ≤ maxLen ∧ ∀ x ∈ l, G x) := by
  have list : ∀ (H : AHeap) (ds : List Dt) (cs : List AV), WTL P ds e → RdL H ds cs → ∃ l : List α, l.length = ds.length ∧ (∀ (i : Nat) (x : α), l[i]? = some x → ∃ c, cs[i]? = some c ∧ R H x c) ∧ ∀ x ∈ l, G x := by
    intro H ds
    induction ds with
    | nil => intro cs _ _; exact ⟨[], rfl, fun i x h => by simp at h, fun x h => by simp at h⟩
    | cons d ds ih =>
      intro cs hw hr
      simp only [WTL] at hw
      simp only [RdL] at hr
      obtain ⟨c1, c2, rfl, h1, h2⟩ := hr
      obtain ⟨_, a, c, rfl, h3, h4⟩ := he H d c1 hw.1 h1
      obtain ⟨l, h5, h6, h7⟩ := ih c2 hw.2 h2
      refine ⟨a :: l, by simp [h5], ?_, ?_⟩
      · intro i x hx
        cases i with
        | zero => simp at hx; subst hx; exact ⟨c, by simp, h3⟩
        | succ i => simp at hx; obtain ⟨c', h8, h9⟩ := h6 i x hx; exact ⟨c', by simpa using h8, h9⟩
      · intro x hx
        rcases List.mem_cons.1 hx with rfl | hx
        · exact h4
        · exact h7 x hx
  intro H d cs hw hr
  cases d with
  | nils =>
    simp only [Rd] at hr
    exact ⟨(fun ps hh => by cases hh), [], _, hr, .inl ⟨rfl, rfl⟩, by simp, fun x hx => by simp at hx⟩
  | slc es cap =>
    simp only [WT, h, Option.some.injEq, TypeDesc.slice.injEq] at hw
    obtain ⟨e', rfl, h1, h2, h3⟩ := hw
    simp only [Rd] at hr
    obtain ⟨b, B, hc, hb, hlv, hro, hes, hrd⟩ := hr
    obtain ⟨l, h5, h6, h7⟩ := list H es B.cells h3 hrd
    refine ⟨(fun ps hh => by cases hh), l, _, hc, .inr ⟨b, 0, cap, B, by rw [h5], by simp only [AHeap.row, hb, hlv, if_true], fun i x hx => ?_⟩, by rw [h5]; omega, h7⟩
    obtain ⟨c, h8, h9⟩ := h6 i x hx
    exact ⟨c, by rw [Nat.zero_add]; exact h8, h9⟩
  | int k n => simp [WT, h] at hw
  | bool b => simp [WT, h] at hw
  | str s => simp [WT, h] at hw
  | agg ps => simp [WT, h] at hw
theorem arg_one {α : Type} {P : Program} {t : TypeId} {R : AHeap → α → AV → Prop} {G : α → Prop} (h1 : One P t R G) {H : AHeap} {ts : List TypeId} {ds : List Dt} {vs : List AV} (h : ArgsR P H (t :: ts) ds vs) :
    ∃ a v ds' vs', vs = v :: vs' ∧ R H a v ∧ G a ∧ ArgsR P H ts ds' vs' := by
  cases ds with
  | nil => cases vs <;> exact h.elim
  | cons d ds =>
    cases vs with
    | nil => exact h.elim
    | cons v vs =>
      obtain ⟨hw, hr, hm, hrest⟩ := h
      obtain ⟨hna, a, c, hc, hR, hG⟩ := h1 H d _ hw hr
      have ho : v.one = true := by
        cases d with
        | agg ps => exact absurd rfl (hna ps)
        | _ => exact hm
      have : v.cells = [v] := by cases v <;> first | rfl | (simp [AV.one] at ho)
      rw [this] at hc
      simp only [List.cons.injEq, and_true] at hc
      subst hc
      exact ⟨a, v, ds, vs, rfl, hR, hG, hrest⟩
theorem args_none {P : Program} {H : AHeap} {ds : List Dt} {vs : List AV} (h : ArgsR P H [] ds vs) : vs = [] := by
  cases ds <;> cases vs <;> first | rfl | exact h.elim
theorem FnTo.runs {Q : Prog} {f : FuncId} {args : List AV} {H : AHeap} {K : AV → AHeap → Prop} (h : FnTo Q f args H K) (hk : ∀ v H', K v H' → v = .bool true) : ∃ n H', callF Q n (.fn f) args H = some (.bool true, H') := by
  obtain ⟨N, v, H', h1, h2⟩ := h
  refine ⟨N, H', ?_⟩
  rw [h1 N (Nat.le_refl _), hk _ _ h2]
end Go.Proofs.YtdkpmlhbofgfdaaGreatDoor.AM
