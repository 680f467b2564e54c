import Derived.Test.YtfbcgjpblomckaaDoorAmRow
import Derived.Test.YtfbcgjpblomckaaDoorAmWp2
set_option linter.unusedVariables false
namespace Go.Proofs.YtfbcgjpblomckaaDoor.AM
open Go
def One {α : Type} (P : Program) (t : TypeId) (R : AHeap -> α -> AV -> Prop) (G : α -> Prop) : Prop :=
 ∀ (H : AHeap) (d : Dt) (cs : List AV),WT P d t -> Rd H d cs -> (∀ ps,d ≠ .agg ps) /\ ∃ a c,cs = [c] /\ R H a c /\ G a
def IsK (k : IntKind) (_ : AHeap) (x : Int) (c : AV) : Prop := c = .int k x
def IsStr (_ : AHeap) (x : List UInt8) (c : AV) : Prop := c = .str x
theorem one_int {P : Program} {t : TypeId} {k : IntKind} (h : P.underlying t = some (.int k)) : One P t (IsK k) (fun x => (Lit.int k x).wf = true) := by
 intro H d cs hw hr
 cases d with
 | int j n =>
  simp only [WT,h,Option.some.injEq,TypeDesc.int.injEq] at hw
  obtain ⟨rfl,hw⟩ := hw
  simp only [Rd] at hr
  exact ⟨(fun ps hh => by cases hh),n,_,hr,rfl,hw⟩
 | bool b => simp [WT,h] at hw
 | str s => simp [WT,h] at hw
 | nils => simp [WT,h] at hw
 | slc es cap => simp [WT,h] at hw
 | agg ps => simp [WT,h] at hw
theorem one_str {P : Program} {t : TypeId} (h : P.underlying t = some .string) : One P t IsStr (fun s => s.length <= maxLen) := by
 intro H d cs hw hr
 cases d with
 | str s =>
  simp only [Rd] at hr
  simp only [WT] at hw
  exact ⟨(fun ps hh => by cases hh),s,_,hr,rfl,hw.2⟩
 | int k n => simp [WT,h] at hw
 | bool b => simp [WT,h] at hw
 | nils => simp [WT,h] at hw
 | slc es cap => simp [WT,h] at hw
 | agg ps => simp [WT,h] at hw
theorem arg_one {α : Type} {P : Program} {t : TypeId} {R : AHeap -> α -> AV -> Prop} {G : α -> Prop} (h1 : One P t R G) {H : AHeap} {ts : List TypeId} {ds : List Dt} {vs : List AV} (h : ArgsR P H (t :: ts) ds vs) :
  ∃ a v ds' vs',vs = v :: vs' /\ R H a v /\ G a /\ ArgsR P H ts ds' vs' := by
 cases ds with
 | nil => cases vs <;> exact h.elim
 | cons d ds =>
  cases vs with
  | nil => exact h.elim
  | cons v vs =>
   obtain ⟨hw,hr,hm,hrest⟩ := h
   obtain ⟨hna,a,c,hc,hR,hG⟩ := h1 H d _ hw hr
   have ho : v.one = true := by
    cases d with
    | agg ps => exact absurd rfl (hna ps)
    | _ => exact hm
   have : v.cells = [v] := by cases v <;> first | rfl | (simp [AV.one] at ho)
   rw [this] at hc
   simp only [List.cons.injEq,and_true] at hc
   subst hc
   exact ⟨a,v,ds,vs,rfl,hR,hG,hrest⟩
theorem args_none {P : Program} {H : AHeap} {ds : List Dt} {vs : List AV} (h : ArgsR P H [] ds vs) : vs = [] := by
 cases ds <;> cases vs <;> first | rfl | exact h.elim
theorem FnTo.runs {Q : Prog} {f : FuncId} {args : List AV} {H : AHeap} {K : AV -> AHeap -> Prop} (h : FnTo Q f args H K) (hk : ∀ v H',K v H' -> v = .bool true) : ∃ n H',callF Q n (.fn f) args H = some (.bool true,H') := by
 obtain ⟨N,v,H',h1,h2⟩ := h
 refine ⟨N,H',?_⟩
 rw [h1 N (Nat.le_refl _),hk _ _ h2]
end Go.Proofs.YtfbcgjpblomckaaDoor.AM
