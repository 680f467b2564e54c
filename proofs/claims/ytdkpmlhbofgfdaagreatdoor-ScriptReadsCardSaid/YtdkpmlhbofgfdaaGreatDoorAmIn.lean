/-
  What comes in: arguments that read as data, as read-only blocks of the abstract machine.
-/
import Derived.Test.YtdkpmlhbofgfdaaGreatDoorAmSim
import Derived.DataReads
import Derived.ChangeSlices
set_option linter.unusedSimpArgs false
set_option linter.unusedVariables false
namespace Go.Proofs.YtdkpmlhbofgfdaaGreatDoor.AM
open Go Go.RowKit

/-- Data without pointers. -/
inductive Dt where
  | bool (b : Bool)
  | int (k : IntKind) (n : Int)
  | str (s : List UInt8)
  | nils
  | slc (es : List Dt) (cap : Nat)
  | agg (ps : List Dt)
  deriving Inhabited
mutual
/-- cells that hold a datum -/
def Rd (H : AHeap) : Dt → List AV → Prop
  | .bool b, cs => cs = [.bool b]
  | .int k n, cs => cs = [.int k n]
  | .str s, cs => cs = [.str s]
  | .nils, cs => cs = [.nils]
  | .slc es cap, cs => ∃ b B, cs = [.slc b 0 es.length cap] ∧ H.get b = some (.row B) ∧ B.live = true ∧ B.ro = true ∧ B.es = 0 ∧ RdL H es B.cells
  | .agg ps, cs => RdL H ps cs
def RdL (H : AHeap) : List Dt → List AV → Prop
  | [], cs => cs = []
  | d :: ds, cs => ∃ c1 c2, cs = c1 ++ c2 ∧ Rd H d c1 ∧ RdL H ds c2
end
mutual
/-- a datum of a type -/
def WT (P : Program) : Dt → TypeId → Prop
  | .bool _, t => P.underlying t = some .bool
  | .int k n, t => P.underlying t = some (.int k) ∧ (Lit.int k n).wf = true
  | .str s, t => P.underlying t = some .string ∧ s.length ≤ maxLen
  | .nils, t => ∃ e, P.underlying t = some (.slice e)
  | .slc es cap, t => ∃ e, P.underlying t = some (.slice e) ∧ es.length ≤ cap ∧ cap ≤ maxLen ∧ WTL P es e
  | .agg ps, t => ∃ fs, P.underlying t = some (.struct fs) ∧ WTF P ps (fs.toList.map (·.type))
def WTL (P : Program) : List Dt → TypeId → Prop
  | [], _ => True
  | d :: ds, e => WT P d e ∧ WTL P ds e
def WTF (P : Program) : List Dt → List TypeId → Prop
  | [], ts => ts = []
  | d :: ds, ts => ∃ t ts', ts = t :: ts' ∧ WT P d t ∧ WTF P ds ts'
end
/-- types of such data, their cells one behind the other -/
def goodT (P : Program) : Nat → TypeId → Bool
  | 0, _ => false
  | n + 1, t =>
    match P.underlying t with
    | some .bool | some (.int _) | some .string => P.cellsOf t == 1
    | some (.slice e) => P.cellsOf t == 1 && goodT P n e && decide (0 < P.cellsOf e)
    | some (.struct fs) => fs.toList.all (fun f => goodT P n f.type) && packedT P (n + 1) t
    | _ => false

mutual
theorem Rd.mono {H H' : AHeap} (h : H.sub H') : ∀ (d : Dt) {cs : List AV}, Rd H d cs → Rd H' d cs
  | .bool b, cs, hr => by simpa [Rd] using hr
  | .int k n, cs, hr => by simpa [Rd] using hr
  | .str s, cs, hr => by simpa [Rd] using hr
  | .nils, cs, hr => by simpa [Rd] using hr
  | .slc es cap, cs, hr => by
    simp only [Rd] at hr ⊢
    obtain ⟨b, B, h1, h2, h3, h4, h5, h6⟩ := hr
    exact ⟨b, B, h1, h _ _ h2, h3, h4, h5, RdL.mono h es h6⟩
  | .agg ps, cs, hr => by simp only [Rd] at hr ⊢; exact RdL.mono h ps hr
theorem RdL.mono {H H' : AHeap} (h : H.sub H') : ∀ (ds : List Dt) {cs : List AV}, RdL H ds cs → RdL H' ds cs
  | [], cs, hr => by simpa [RdL] using hr
  | d :: ds, cs, hr => by
    simp only [RdL] at hr ⊢
    obtain ⟨c1, c2, h1, h2, h3⟩ := hr
    exact ⟨c1, c2, h1, Rd.mono h d h2, RdL.mono h ds h3⟩
end

variable {base : Nat} {m : Inj} {H : AHeap} {W : World} {P : Program} {gl : List Nat}
/-- a read-only block finds its place -/
theorem SR.placeRO (h : SR P gl base m H W) {b : Nat} {L : Loc} {B : Blk} (hty : B.ty = 0) (hb : m b = none) (hB : H.get b = some (.row B)) (hro : B.ro = true) (hes : L.es = B.es) (hbl : L.blk < base ∨ B.cells = [])
    (hv : ∀ (i : Nat) (v : AV), B.cells[i]? = some v → ∃ c, W.cell? ⟨L.blk, L.off + i, none⟩ = some c ∧ VR m v c) : SR P gl base (m.upd b L) H W := by
  have hle := Inj.le_upd (L := L) hb
  have hup : ∀ c L', m.upd b L c = some L' → (c = b ∧ L' = L) ∨ (c ≠ b ∧ m c = some L') := fun c L' hc => by
    unfold Inj.upd at hc
    split at hc
    · rename_i e; injection hc with hc; exact .inl ⟨e, hc.symm⟩
    · rename_i e; exact .inr ⟨e, hc⟩
  have same : ∀ B', H.get b = some (.row B') → B' = B := fun B' h' => by rw [hB] at h'; injection h' with h'; injection h' with h'; exact h'.symm
  have hno : ¬ owned H b := by
    rintro (⟨B', h1, _, h3⟩ | ⟨es, h1⟩ | ⟨R, h1, h2⟩)
    · rw [same B' h1, hro] at h3; cases h3
    · rw [hB] at h1; cases h1
    · rw [hB] at h1; injection h1 with h1; subst h1; cases h2
  refine { le := h.le, dom := fun c L' hc => ?_, fresh := h.fresh, es := fun c L' B' hc hB' => ?_, cell := fun c L' B' hc hB' hl' i v hi' => ?_, ro := fun c L' B' hc hB' hl' hr => ?_, rw := fun c L' B' hc hB' hl' hr => ?_,
           mp := fun c L' es hc hB' => ?_, lp := fun c L' R hc hB' hrec => ?_, inj := fun c c' L1 L2 h1 h2 o1 o2 hn => ?_,
           ty := fun c L' B' hc hB' h0 => by
             rcases hup c L' hc with ⟨rfl, rfl⟩ | ⟨_, h1⟩
             · rw [same B' hB'] at h0; exact absurd hty h0
             · exact h.ty c L' B' h1 hB' h0 }
  · rcases hup c L' hc with ⟨rfl, rfl⟩ | ⟨_, h1⟩
    · apply Nat.lt_of_not_le; intro hle'; rw [h.fresh c hle'] at hB; cases hB
    · exact h.dom c L' h1
  · rcases hup c L' hc with ⟨rfl, rfl⟩ | ⟨_, h1⟩
    · rw [same B' hB']; exact hes
    · exact h.es c L' B' h1 hB'
  · rcases hup c L' hc with ⟨rfl, rfl⟩ | ⟨_, h1⟩
    · rw [same B' hB'] at hi'
      obtain ⟨x, h1, h2⟩ := hv i v hi'
      exact ⟨x, h1, h2.mono hle⟩
    · obtain ⟨x, h2, h3⟩ := h.cell c L' B' h1 hB' hl' i v hi'
      exact ⟨x, h2, h3.mono hle⟩
  · rcases hup c L' hc with ⟨rfl, rfl⟩ | ⟨_, h1⟩
    · rw [same B' hB']; exact hbl
    · exact h.ro c L' B' h1 hB' hl' hr
  · rcases hup c L' hc with ⟨rfl, rfl⟩ | ⟨_, h1⟩
    · rw [same B' hB', hro] at hr; cases hr
    · exact h.rw c L' B' h1 hB' hl' hr
  · rcases hup c L' hc with ⟨rfl, rfl⟩ | ⟨_, h1⟩
    · rw [hB] at hB'; cases hB'
    · obtain ⟨g1, arr', cl, g2, g3, g4⟩ := h.mp c L' es h1 hB'
      exact ⟨g1, arr', cl, g2, g3, fun i k v E a b => ⟨((g4 i k v E a b).1).mono hle, ((g4 i k v E a b).2).mono hle⟩⟩
  · rcases hup c L' hc with ⟨rfl, rfl⟩ | ⟨_, h1⟩
    · rw [hB] at hB'; injection hB' with hB'; subst hB'; cases hrec
    · obtain ⟨g1, r, g2, g3⟩ := h.lp c L' R h1 hB' hrec
      exact ⟨g1, r, g2, g3.mono hle⟩
  · rcases hup c L1 h1 with ⟨rfl, rfl⟩ | ⟨hc1, h1'⟩
    · exact absurd o1 hno
    · rcases hup c' L2 h2 with ⟨rfl, rfl⟩ | ⟨hc2, h2'⟩
      · exact absurd o2 hno
      · exact h.inj c c' L1 L2 h1' h2' o1 o2 hn

/-- the memory has grown -/
structure Ext (m : Inj) (H : AHeap) (m' : Inj) (H' : AHeap) : Prop where
  le : m.le m'
  sub : H.sub H'
  next : H.next ≤ H'.next
theorem Ext.refl (m : Inj) (H : AHeap) : Ext m H m H := ⟨Inj.le_refl m, fun _ _ h => h, Nat.le_refl _⟩
theorem Ext.trans {m1 m2 m3 : Inj} {H1 H2 H3 : AHeap} (h : Ext m1 H1 m2 H2) (k : Ext m2 H2 m3 H3) : Ext m1 H1 m3 H3 := ⟨Inj.le_trans h.le k.le, fun b o x => k.sub b o (h.sub b o x), Nat.le_trans h.next k.next⟩

/-- what is to be shown of cells of a type -/
def InGoal (P : Program) (gl : List Nat) (W : World) (t : TypeId) (cs : List Value) : Prop :=
  ∀ (m : Inj) (H : AHeap), SR P gl W.heap.size m H W → ∃ m' H' avs dt, Ext m H m' H' ∧ SR P gl W.heap.size m' H' W ∧ LR m' avs cs ∧ Rd H' dt avs ∧ WT P dt t
theorem in_list {t : TypeId} {k : Nat} : ∀ (css : List (List Value)), (∀ cs ∈ css, InGoal P gl W t cs ∧ cs.length = k) → ∀ (m : Inj) (H : AHeap), SR P gl W.heap.size m H W →
    ∃ m' H' avs ds, Ext m H m' H' ∧ SR P gl W.heap.size m' H' W ∧ LR m' avs css.flatten ∧ RdL H' ds avs ∧ WTL P ds t ∧ ds.length = css.length
  | [], _, m, H, h => ⟨m, H, [], [], Ext.refl m H, h, LR.nil m, rfl, trivial, rfl⟩
  | cs :: css, hg, m, H, h => by
    obtain ⟨m1, H1, a1, d1, e1, s1, l1, r1, w1⟩ := (hg cs (by simp)).1 m H h
    obtain ⟨m2, H2, a2, ds, e2, s2, l2, r2, w2, n2⟩ := in_list css (fun c hc => hg c (by simp [hc])) m1 H1 s1
    refine ⟨m2, H2, a1 ++ a2, d1 :: ds, e1.trans e2, s2, ?_, ⟨a1, a2, rfl, Rd.mono e2.sub d1 r1, r2⟩, ⟨w1, w2⟩, by simp [n2]⟩
    simp only [List.flatten_cons]
    exact (l1.mono e2.le).append l2
theorem in_fields : ∀ (fs : List (TypeId × List Value)), (∀ f ∈ fs, InGoal P gl W f.1 f.2) → ∀ (m : Inj) (H : AHeap), SR P gl W.heap.size m H W →
    ∃ m' H' avs ds, Ext m H m' H' ∧ SR P gl W.heap.size m' H' W ∧ LR m' avs (fs.map (·.2)).flatten ∧ RdL H' ds avs ∧ WTF P ds (fs.map (·.1))
  | [], _, m, H, h => ⟨m, H, [], [], Ext.refl m H, h, LR.nil m, rfl, rfl⟩
  | f :: fs, hg, m, H, h => by
    obtain ⟨m1, H1, a1, d1, e1, s1, l1, r1, w1⟩ := hg f (by simp) m H h
    obtain ⟨m2, H2, a2, ds, e2, s2, l2, r2, w2⟩ := in_fields fs (fun c hc => hg c (by simp [hc])) m1 H1 s1
    refine ⟨m2, H2, a1 ++ a2, d1 :: ds, e1.trans e2, s2, ?_, ⟨a1, a2, rfl, Rd.mono e2.sub d1 r1, r2⟩, ⟨_, _, rfl, w1, w2⟩⟩
    simp only [List.map_cons, List.flatten_cons]
    exact (l1.mono e2.le).append l2
theorem mapM_some {α β : Type} {f : α → Option β} : ∀ {l : List α} {r : List β}, l.mapM f = some r → r.length = l.length ∧ ∀ i (h : i < l.length), ∃ b, f l[i] = some b ∧ r[i]? = some b
  | [], r, h => by simp at h; subst h; exact ⟨rfl, fun i h => by simp at h⟩
  | a :: l, r, h => by
    simp only [List.mapM_cons, Option.bind_eq_bind, Option.bind_eq_some_iff, Option.pure_def, Option.some.injEq] at h
    obtain ⟨b, hb, bs, hbs, rfl⟩ := h
    obtain ⟨h1, h2⟩ := mapM_some hbs
    refine ⟨by simp [h1], fun i hi => ?_⟩
    cases i with
    | zero => exact ⟨b, hb, rfl⟩
    | succ i => obtain ⟨c, h3, h4⟩ := h2 i (by simpa using hi); exact ⟨c, by simpa using h3, by simpa using h4⟩
theorem flatten_get {k : Nat} (hk : 0 < k) : ∀ (css : List (List Value)), (∀ cs ∈ css, cs.length = k) → ∀ (i : Nat) (v : Value), css.flatten[i]? = some v → ∃ c, css[i / k]? = some c ∧ c[i % k]? = some v
  | [], _, i, v, h => by simp at h
  | c :: css, hl, i, v, h => by
    simp only [List.flatten_cons] at h
    have hc := hl c (by simp)
    by_cases hi : i < k
    · rw [List.getElem?_append_left (by omega)] at h
      exact ⟨c, by rw [Nat.div_eq_of_lt hi]; rfl, by rw [Nat.mod_eq_of_lt hi]; exact h⟩
    · rw [List.getElem?_append_right (by omega)] at h
      obtain ⟨c', h1, h2⟩ := flatten_get hk css (fun x hx => hl x (by simp [hx])) _ _ h
      have e1 : i / k = (i - c.length) / k + 1 := by rw [hc, ← Nat.sub_add_cancel (show k ≤ i by omega), Nat.add_div_right _ hk]; simp
      have e2 : i % k = (i - c.length) % k := by rw [hc]; conv => lhs; rw [← Nat.sub_add_cancel (show k ≤ i by omega), Nat.add_mod_right]
      exact ⟨c', by rw [e1]; simpa using h1, by rw [e2]; exact h2⟩

theorem cells_at {a : Addr} {n : Nat} {cs : List Value} (h : W.cells? 0 a n = some cs) : cs.length = n ∧ ∀ i, i < n → W.cell? (a.add i) = cs[i]? := by
  unfold World.cells? at h
  rw [if_pos (Nat.zero_le _)] at h
  obtain ⟨h1, h2⟩ := mapM_some h
  refine ⟨by simpa using h1, fun i hi => ?_⟩
  obtain ⟨b, h3, h4⟩ := h2 i (by simpa using hi)
  rw [h4, ← h3]; simp
theorem add_spot {a : Addr} {i : Nat} {v : Value} (h : W.cell? (a.add i) = some v) (hi : i = 0) : a.spot = none := by
  subst hi
  simp only [Addr.add, if_true] at h
  unfold World.cell? at h
  split at h
  · split at h
    · cases h
    · rename_i hs; simpa using hs
  · cases h
theorem add_eq {a : Addr} (hs : a.spot = none) (i : Nat) : a.add i = ⟨a.block, a.off + i, none⟩ := by
  obtain ⟨b, o, s⟩ := a
  simp only at hs; subst hs
  exact addr_add b o i

theorem trod_in {Hh : Type} {enc : TypeId × Value → Hh} {held : Bool} : ∀ (fuel : Nat) (t : TypeId) (cs : List Value) (x : DataW Hh × List MemPlace), DataW.trod enc P W 0 (fun _ => true) held fuel t cs = some x → ∀ n, goodT P n t = true → InGoal P gl W t cs ∧ cs.length = P.cellsOf t := by
  intro fuel
  induction fuel with
  | zero => intro t cs x h; cases h
  | succ fuel ih =>
    intro t cs x h n hg
    cases n with
    | zero => cases hg
    | succ n =>
    rw [goodT] at hg
    unfold DataW.trod at h
    split at h
    · -- bool
      rename_i b hu
      rw [hu] at hg
      exact ⟨fun m H hs => ⟨m, H, [.bool b], .bool b, Ext.refl m H, hs, LR.cons (.bool b) (LR.nil m), rfl, hu⟩, by simpa using (by simpa using hg : P.cellsOf t = 1).symm⟩
    · rename_i k k' z hu
      rw [hu] at hg
      split at h
      · rename_i hc
        obtain ⟨rfl, hwf⟩ := hc
        exact ⟨fun m H hs => ⟨m, H, [.int k' z], .int k' z, Ext.refl m H, hs, LR.cons (.int k' z) (LR.nil m), rfl, hu, hwf⟩, by simpa using (by simpa using hg : P.cellsOf t = 1).symm⟩
      · cases h
    · rename_i hu; rw [hu] at hg; cases hg
    · rename_i s hu
      rw [hu] at hg
      split at h
      · rename_i hc
        exact ⟨fun m H hs => ⟨m, H, [.str s.data.toList], .str s.data.toList, Ext.refl m H, hs, LR.cons (.str s) (LR.nil m), rfl, hu, by rw [← size_of (s := s) rfl]; exact hc⟩, by simpa using (by simpa using hg : P.cellsOf t = 1).symm⟩
      · cases h
    · rename_i hu; rw [hu] at hg; cases hg
    · rename_i hu; rw [hu] at hg; cases hg
    · rename_i e hu
      rw [hu] at hg
      simp only [Bool.and_eq_true, beq_iff_eq] at hg
      exact ⟨fun m H hs => ⟨m, H, [.nils], .nils, Ext.refl m H, hs, LR.cons .nils (LR.nil m), rfl, e, hu⟩, by simpa using hg.1.1.symm⟩
    · rename_i e a len cap hu
      rw [hu] at hg
      simp only [Bool.and_eq_true, beq_iff_eq, decide_eq_true_eq] at hg
      obtain ⟨⟨hg1, hg2⟩, hg3⟩ := hg
      simp only at h
      split at h
      · rename_i hc
        obtain ⟨_, hlc, hcm⟩ := hc
        rw [Option.bind_eq_some_iff] at h
        obtain ⟨elems, hel, h⟩ := h
        rw [Option.map_eq_some_iff] at h
        obtain ⟨rest, hrest, _⟩ := h
        obtain ⟨hel1, hel2⟩ := mapM_some hel
        simp only [List.length_range] at hel1 hel2
        have hcell : ∀ i, i < len → ∃ ci, W.cells? 0 (a.add (i * P.cellsOf e)) (P.cellsOf e) = some ci ∧ InGoal P gl W e ci ∧ ci.length = P.cellsOf e := by
          intro i hi
          obtain ⟨b, h1, h2⟩ := hel2 i hi
          simp only [List.getElem_range] at h1
          rw [Option.bind_eq_some_iff] at h1
          obtain ⟨ci, h3, h4⟩ := h1
          obtain ⟨h5, h6⟩ := ih e ci b h4 n hg2
          exact ⟨ci, h3, h5, h6⟩
        refine ⟨?_, by simpa using hg1.symm⟩
        intro m H hs
        -- the elements' cells
        obtain ⟨css, hcss1, hcss2⟩ : ∃ css : List (List Value), css.length = len ∧ ∀ i c, css[i]? = some c → W.cells? 0 (a.add (i * P.cellsOf e)) (P.cellsOf e) = some c ∧ InGoal P gl W e c ∧ c.length = P.cellsOf e := by
          refine ⟨(List.range len).map fun i => (W.cells? 0 (a.add (i * P.cellsOf e)) (P.cellsOf e)).getD [], by simp, fun i c hi => ?_⟩
          have hlt : i < len := by have := (List.getElem?_eq_some_iff.1 hi).1; simpa using this
          obtain ⟨ci, h1, h2, h3⟩ := hcell i hlt
          simp [List.getElem?_map, List.getElem?_range hlt, h1] at hi
          subst hi
          exact ⟨h1, h2, h3⟩
        obtain ⟨m1, H1, avs, ds, e1, s1, l1, r1, w1, n1⟩ := in_list css (fun c hc => by
          obtain ⟨i, hi, he⟩ := List.mem_iff_getElem.1 hc
          have := hcss2 i c (by rw [← he]; simp)
          exact this.2) m H hs
        have hb : m1 H1.next = none := by
          cases hm : m1 H1.next with
          | none => rfl
          | some L => exact absurd (s1.dom _ _ hm) (Nat.lt_irrefl _)
        have hsp : 0 < len → a.spot = none := by
          intro hl
          obtain ⟨ci, h1, _, _⟩ := hcell 0 hl
          obtain ⟨g1, g2⟩ := cells_at h1
          have := g2 0 hg3
          rw [Nat.zero_mul] at this
          have ha0 : a.add 0 = a := by simp [Addr.add]
          rw [ha0] at this
          exact add_spot (this.trans (List.getElem?_eq_getElem (by omega))) rfl
        have hflat : ∀ i v, css.flatten[i]? = some v → W.cell? ⟨a.block, a.off + i, none⟩ = some v := by
          intro i v hi
          obtain ⟨c, h1, h2⟩ := flatten_get hg3 css (fun c hc => by
            obtain ⟨j, hj, he⟩ := List.mem_iff_getElem.1 hc
            exact (hcss2 j c (by rw [← he]; simp)).2.2) i v hi
          obtain ⟨h3, _, h5⟩ := hcss2 _ _ h1
          have hlt : i / P.cellsOf e < len := by rw [← hcss1]; exact (List.getElem?_eq_some_iff.1 h1).1
          have hs0 := hsp (Nat.lt_of_le_of_lt (Nat.zero_le _) hlt)
          obtain ⟨g1, g2⟩ := cells_at h3
          have hmod : i % P.cellsOf e < P.cellsOf e := Nat.mod_lt _ hg3
          have := g2 _ hmod
          rw [h2, add_eq hs0, add_eq rfl] at this
          rw [← this]
          simp only [Nat.add_assoc]
          congr 3
          rw [Nat.mul_comm]; exact (Nat.div_add_mod i (P.cellsOf e)).symm
        let B : Blk := { cells := avs, es := 0, ro := true }
        let L : Loc := ⟨a.block, a.off, 0, 0⟩
        have s2 := s1.ext (.row B)
        have hB : (H1.alloc (.row B)).get H1.next = some (.row B) := by rw [AHeap.get_alloc, if_pos rfl]
        have hcap : 0 < cap → a.spot = none := by
          intro hl
          by_cases hl0 : 0 < len
          · exact hsp hl0
          · -- the first spare place was read
            obtain rfl : len = 0 := by omega
            simp only [if_true] at hrest
            obtain ⟨hr1, hr2⟩ := mapM_some hrest
            simp only [List.length_range] at hr1 hr2
            obtain ⟨b, h1, h2⟩ := hr2 0 (by omega)
            simp only [List.getElem_range] at h1
            rw [Option.bind_eq_some_iff] at h1
            obtain ⟨ci, h3, h4⟩ := h1
            obtain ⟨g1, g2⟩ := cells_at h3
            have := g2 0 hg3
            have ha0 : (a.add ((0 + 0) * P.cellsOf e)).add 0 = a := by simp [Addr.add]
            rw [ha0] at this
            have ha1 : a.add 0 = a := by simp [Addr.add]
            rw [← ha1] at this
            exact add_spot (this.trans (List.getElem?_eq_getElem (by omega))) rfl
        have s3 : SR P gl W.heap.size (m1.upd H1.next L) (H1.alloc (.row B)) W := by
          refine s2.placeRO (L := L) rfl hb hB rfl rfl ?_ (fun i v hi => ?_)
          · by_cases hav : avs = []
            · exact .inr hav
            · left
              obtain ⟨v, hv⟩ : ∃ v, avs[0]? = some v := by cases avs with | nil => exact absurd rfl hav | cons v _ => exact ⟨v, rfl⟩
              obtain ⟨c, hc1, _⟩ := l1.get hv
              have := hflat 0 c hc1
              exact World.block_lt_of_cell? W ⟨a.block, a.off + 0, none⟩ this
          · obtain ⟨c, hc1, hc2⟩ := l1.get hi
            exact ⟨c, hflat i c hc1, hc2⟩
        have hsub : H1.sub (H1.alloc (.row B)) := sub_alloc s1.fresh _
        refine ⟨m1.upd H1.next L, H1.alloc (.row B), [.slc H1.next 0 len cap], .slc ds cap, e1.trans ⟨Inj.le_upd hb, hsub, by rw [AHeap.next_alloc]; omega⟩, s3, LR.cons ?_ (LR.nil _), ?_, ?_⟩
        · refine .slc (Inj.upd_same _ _ _) hlc (.inl rfl) (fun hp => ?_)
          have := hcap hp
          obtain ⟨ab, ao, asp⟩ := a
          simp only at this; subst this
          rfl
        · exact ⟨H1.next, B, by rw [n1, hcss1], hB, rfl, rfl, rfl, RdL.mono hsub ds r1⟩
        · exact ⟨e, hu, by rw [n1, hcss1]; exact hlc, hcm, w1⟩
      · cases h
    · -- struct
      rename_i cs X0 cs1 fs hu
      rw [hu] at hg
      simp only [Bool.and_eq_true, List.all_eq_true] at hg
      obtain ⟨hgf, hpk⟩ := hg
      split at h
      · rename_i hlen
        rw [Option.map_eq_some_iff] at h
        obtain ⟨xs, hxs, _⟩ := h
        obtain ⟨hx1, hx2⟩ := mapM_some hxs
        rw [packedT, hu] at hpk
        have hpf := packed_fold P n fs.toList 0 (P.cellsOf t) true (by simpa using hpk)
        have hfld : ∀ f ∈ fs.toList, InGoal P gl W f.type ((cs.drop f.offset).take (P.cellsOf f.type)) := by
          intro f hf
          obtain ⟨i, hi, he⟩ := List.mem_iff_getElem.1 hf
          obtain ⟨b, h1, _⟩ := hx2 i hi
          rw [he] at h1
          exact (ih f.type _ b h1 n (hgf f hf)).1
        refine ⟨fun m H hs => ?_, hlen⟩
        obtain ⟨m', H', avs, ds, e1, s1, l1, r1, w1⟩ := in_fields (P := P) (W := W) (fs.toList.map fun f => (f.type, (cs.drop f.offset).take (P.cellsOf f.type))) (fun p hp => by
          obtain ⟨f, hf, rfl⟩ := List.mem_map.1 hp
          exact hfld f hf) m H hs
        have hflat : ((fs.toList.map fun f => (f.type, (cs.drop f.offset).take (P.cellsOf f.type))).map (·.2)).flatten = cs := by
          have key : ∀ (l : List Field) (o : Nat), packedFrom P n o l = some (P.cellsOf t) → ((l.map fun f => (f.type, (cs.drop f.offset).take (P.cellsOf f.type))).map (·.2)).flatten = cs.drop o := by
            intro l
            induction l with
            | nil => intro o ho; rw [packedFrom] at ho; injection ho with ho; simp only [List.map_nil, List.flatten_nil]; rw [List.drop_eq_nil_of_le (by omega)]
            | cons f l ihl =>
              intro o ho
              rw [packedFrom] at ho
              split at ho
              · rename_i hc
                simp only [List.map_cons, List.flatten_cons]
                rw [ihl _ ho, hc.1, ← List.drop_drop, List.take_append_drop]
              · cases ho
          have := key fs.toList 0 hpf.2
          simpa using this
        rw [hflat] at l1
        refine ⟨m', H', avs, .agg ds, e1, s1, l1, r1, fs, hu, ?_⟩
        simpa [List.map_map, Function.comp_def] using w1
      · cases h
    all_goals first
      | (rename_i hu; rw [hu] at hg; cases hg; done)
      | (cases h; done)
end Go.Proofs.YtdkpmlhbofgfdaaGreatDoor.AM
