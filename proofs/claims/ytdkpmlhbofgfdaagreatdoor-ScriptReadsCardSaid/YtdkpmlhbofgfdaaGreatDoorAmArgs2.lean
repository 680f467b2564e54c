/-
  Arguments that are structs, and slices of structs.
-/
import Derived.Test.YtdkpmlhbofgfdaaGreatDoorAmArgs
set_option linter.unusedVariables false
namespace Go.Proofs.YtdkpmlhbofgfdaaGreatDoor.AM
open Go
theorem wf_u8 {n : Int} (h : (Lit.int .u8 n).wf = true) : 0 ≤ n ∧ n ≤ 255 := by
  simp only [Lit.wf, Bool.and_eq_true, decide_eq_true_eq] at h
  exact ⟨h.1, h.2⟩
theorem wf_i64 {n : Int} (h : (Lit.int .i64 n).wf = true) : -9223372036854775808 ≤ n ∧ n ≤ 9223372036854775807 := by
  simp only [Lit.wf, Bool.and_eq_true, decide_eq_true_eq] at h
  exact ⟨h.1, h.2⟩
/-- data of a struct type, by its cells -/
def Agg (P : Program) (t : TypeId) (G : List AV → Prop) : Prop := ∀ (H : AHeap) (d : Dt) (cs : List AV), WT P d t → Rd H d cs → (∃ ps, d = .agg ps) ∧ G cs
/-- the first field -/
theorem fld_one {α : Type} {P : Program} {t : TypeId} {ts : List TypeId} {R : AHeap → α → AV → Prop} {G : α → Prop} (h1 : One P t R G) {H : AHeap} {ps : List Dt} {cs : List AV} (hw : WTF P ps (t :: ts)) (hr : RdL H ps cs) :
    ∃ a c ps' cs', cs = c :: cs' ∧ R H a c ∧ G a ∧ WTF P ps' ts ∧ RdL H ps' cs' := by
  cases ps with
  | nil => simp [WTF] at hw
  | cons d ps =>
    simp only [WTF] at hw
    obtain ⟨t', ts', e, hw1, hw2⟩ := hw
    simp only [List.cons.injEq] at e
    obtain ⟨rfl, rfl⟩ := e
    simp only [RdL] at hr
    obtain ⟨c1, c2, rfl, hr1, hr2⟩ := hr
    obtain ⟨_, a, c, rfl, k1, k2⟩ := h1 H d c1 hw1 hr1
    exact ⟨a, c, ps, c2, rfl, k1, k2, hw2, hr2⟩
theorem fld_none {P : Program} {H : AHeap} {ps : List Dt} {cs : List AV} (hw : WTF P ps []) (hr : RdL H ps cs) : cs = [] := by
  cases ps with
  | nil => simpa [RdL] using hr
  | cons d ps => simp [WTF] at hw
theorem agg_of {P : Program} {t : TypeId} {fs : Array Field} {G : List AV → Prop} (h : P.underlying t = some (.struct fs)) (hG : ∀ (H : AHeap) ps cs, WTF P ps (fs.toList.map (·.type)) → RdL H ps cs → G cs) : Agg P t G := by
  intro H d cs hw hr
  cases d with
  | agg ps =>
    simp only [WT, h, Option.some.injEq, TypeDesc.struct.injEq] at hw
    obtain ⟨fs', rfl, hw⟩ := hw
    simp only [Rd] at hr
    exact ⟨⟨ps, rfl⟩, hG H ps cs hw hr⟩
  | int j n => simp [WT, h] at hw
  | bool b => simp [WT, h] at hw
  | str s => simp [WT, h] at hw
  | nils => simp [WT, h] at hw
  | slc es cap => simp [WT, h] at hw
theorem arg_agg {P : Program} {t : TypeId} {G : List AV → Prop} (h1 : Agg P t G) {H : AHeap} {ts : List TypeId} {ds : List Dt} {vs : List AV} (h : ArgsR P H (t :: ts) ds vs) :
    ∃ cs ds' vs', vs = .agg cs :: vs' ∧ G cs ∧ ArgsR P H ts ds' vs' := by
  cases ds with
  | nil => cases vs <;> exact h.elim
  | cons d ds =>
    cases vs with
    | nil => exact h.elim
    | cons v vs =>
      obtain ⟨hw, hr, hm, hrest⟩ := h
      obtain ⟨⟨ps, rfl⟩, hG⟩ := h1 H d _ hw hr
      obtain ⟨cs, rfl⟩ := hm
      exact ⟨cs, ds, vs, rfl, hG, hrest⟩
/-- the same, where memory is looked at -/
def AggH (P : Program) (t : TypeId) (G : AHeap → List AV → Prop) : Prop := ∀ (H : AHeap) (d : Dt) (cs : List AV), WT P d t → Rd H d cs → (∃ ps, d = .agg ps) ∧ G H cs
theorem aggH_of {P : Program} {t : TypeId} {fs : Array Field} {G : AHeap → List AV → Prop} (h : P.underlying t = some (.struct fs)) (hG : ∀ (H : AHeap) ps cs, WTF P ps (fs.toList.map (·.type)) → RdL H ps cs → G H cs) : AggH P t G := by
  intro H d cs hw hr
  obtain ⟨h1, h2⟩ := agg_of (G := fun _ => True) h (fun _ _ _ _ _ => trivial) H d cs hw hr
  obtain ⟨ps, rfl⟩ := h1
  simp only [WT, h, Option.some.injEq, TypeDesc.struct.injEq] at hw
  obtain ⟨fs', rfl, hw⟩ := hw
  simp only [Rd] at hr
  exact ⟨⟨ps, rfl⟩, hG H ps cs hw hr⟩
theorem arg_aggH {P : Program} {t : TypeId} {G : AHeap → List AV → Prop} (h1 : AggH P t G) {H : AHeap} {ts : List TypeId} {ds : List Dt} {vs : List AV} (h : ArgsR P H (t :: ts) ds vs) :
    ∃ cs ds' vs', vs = .agg cs :: vs' ∧ G H cs ∧ ArgsR P H ts ds' vs' := by
  cases ds with
  | nil => cases vs <;> exact h.elim
  | cons d ds =>
    cases vs with
    | nil => exact h.elim
    | cons v vs =>
      obtain ⟨hw, hr, hm, hrest⟩ := h
      obtain ⟨⟨ps, rfl⟩, hG⟩ := h1 H d _ hw hr
      obtain ⟨cs, rfl⟩ := hm
      exact ⟨cs, ds, vs, rfl, hG, hrest⟩
/-- a slice whose elements are of k cells each -/
def IsRows (k : Nat) (H : AHeap) (v : AV) (ls : List (List AV)) : Prop :=
  (v = .nils ∧ ls = []) ∨ ∃ b o cap B, v = .slc b o ls.length cap ∧ H.row b = some B ∧ ∀ (i : Nat) r, ls[i]? = some r → r.length = k ∧ ∀ (j : Nat) x, r[j]? = some x → B.cells[o + i * k + j]? = some x
theorem one_rows {P : Program} {t e : TypeId} {k : Nat} {G : List AV → Prop} (he : Agg P e (fun cs => cs.length = k ∧ G cs)) (h : P.underlying t = some (.slice e)) :
    One P t (fun H ls v => IsRows k H v ls) (fun ls => ls.length ≤ maxLen ∧ ∀ r ∈ ls, r.length = k ∧ G r) := by
  have list : ∀ (H : AHeap) (ds : List Dt) (cs : List AV), WTL P ds e → RdL H ds cs → ∃ ls : List (List AV), ls.length = ds.length ∧ cs.length = ls.length * k ∧ (∀ (i : Nat) r, ls[i]? = some r → ∀ (j : Nat) x, r[j]? = some x → cs[i * k + j]? = some x) ∧ ∀ r ∈ ls, r.length = k ∧ G r := by
    intro H ds
    induction ds with
    | nil => intro cs _ hr; simp only [RdL] at hr; subst hr; exact ⟨[], rfl, by simp, fun i r h => by simp at h, fun r h => by simp at h⟩
    | cons d ds ih =>
      intro cs hw hr
      simp only [WTL] at hw
      simp only [RdL] at hr
      obtain ⟨c1, c2, rfl, h1, h2⟩ := hr
      obtain ⟨_, h3, h4⟩ := he H d c1 hw.1 h1
      obtain ⟨l, h5, h6, h7, h8⟩ := ih c2 hw.2 h2
      refine ⟨c1 :: l, by simp [h5], by simp [h3, h6, Nat.add_mul]; omega, ?_, ?_⟩
      · intro i r hr j x hx
        cases i with
        | zero =>
          simp at hr; subst hr
          have hj := (List.getElem?_eq_some_iff.1 hx).1
          rw [Nat.zero_mul, Nat.zero_add, List.getElem?_append_left hj]; exact hx
        | succ i =>
          simp at hr
          have := h7 i r hr j x hx
          rw [List.getElem?_append_right (by rw [h3, Nat.add_mul]; omega), h3]
          rw [show (i + 1) * k + j - k = i * k + j by rw [Nat.add_mul]; omega]; exact this
      · intro r hr
        rcases List.mem_cons.1 hr with rfl | hr
        · exact ⟨h3, h4⟩
        · exact h8 r hr
  intro H d cs hw hr
  cases d with
  | nils =>
    simp only [Rd] at hr
    exact ⟨(fun ps hh => by cases hh), [], _, hr, .inl ⟨rfl, rfl⟩, by simp, fun x hx => by simp at hx⟩
  | slc es cap =>
    simp only [WT, h, Option.some.injEq, TypeDesc.slice.injEq] at hw
    obtain ⟨e', rfl, h1, h2, h3⟩ := hw
    simp only [Rd] at hr
    obtain ⟨b, B, hc, hb, hlv, hro, hes, hrd⟩ := hr
    obtain ⟨l, h5, h6, h7, h8⟩ := list H es B.cells h3 hrd
    refine ⟨(fun ps hh => by cases hh), l, _, hc, .inr ⟨b, 0, cap, B, by rw [h5], by simp only [AHeap.row, hb, hlv, if_true], fun i r hr => ⟨(h8 r (List.mem_of_getElem? hr)).1, fun j x hx => ?_⟩⟩, by rw [h5]; omega, h8⟩
    rw [Nat.zero_add]; exact h7 i r hr j x hx
  | int k n => simp [WT, h] at hw
  | bool b => simp [WT, h] at hw
  | str s => simp [WT, h] at hw
  | agg ps => simp [WT, h] at hw
section
variable {k : Nat} {H : AHeap} {v : AV} {ls : List (List AV)}
def atK (k : Nat) (v : AV) (i : Int) (j : Nat) : AV := match v with | .slc b o _ _ => .ptr b (o + i.toNat * k + j) | _ => .undef
theorem IsRows.len (h : IsRows k H v ls) : lngV H 1 v = some (.int .i64 ls.length) := by
  rcases h with ⟨rfl, rfl⟩ | ⟨b, o, cap, B, rfl, hB, hc⟩ <;> rfl
theorem IsRows.at (h : IsRows k H v ls) {i : Int} (h0 : 0 ≤ i) (h1 : i < ls.length) (kd : IntKind) : idxSV k v (.int kd i) = some (atK k v i 0) := by
  rcases h with ⟨rfl, rfl⟩ | ⟨b, o, cap, B, rfl, hB, hc⟩
  · simp at h1; omega
  · simp only [idxSV, ROp.run, Opd.ev, inIndex, if_pos (show 0 ≤ i ∧ i < (ls.length : Int) from ⟨h0, h1⟩), atK, Nat.add_zero]
theorem IsRows.fa (h : IsRows k H v ls) (hne : ls ≠ []) {i : Int} (j d : Nat) : fieldAddrV d (atK k v i j) = some (atK k v i (j + d)) := by
  rcases h with ⟨rfl, rfl⟩ | ⟨b, o, cap, B, rfl, hB, hc⟩
  · exact absurd rfl hne
  · simp only [atK, fieldAddrV_ptr, Nat.add_assoc]
theorem IsRows.get (h : IsRows k H v ls) {i : Int} {r : List AV} (hr : ls[i.toNat]? = some r) {j : Nat} {x : AV} (hx : r[j]? = some x) : loadV H none (atK k v i j) = some x := by
  rcases h with ⟨rfl, rfl⟩ | ⟨b, o, cap, B, rfl, hB, hc⟩
  · simp at hr
  · have := (hc _ _ hr).2 j x hx
    simp only [loadV, ROp.run, Opd.ev, atK, hB, this]
end
end Go.Proofs.YtdkpmlhbofgfdaaGreatDoor.AM
