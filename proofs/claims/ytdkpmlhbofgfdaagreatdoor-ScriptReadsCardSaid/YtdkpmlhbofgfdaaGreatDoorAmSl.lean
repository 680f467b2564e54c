/-
  Slices that may be cut, those of arguments and own ones; maps of our own; sums of small walks.
-/
import Derived.Test.YtdkpmlhbofgfdaaGreatDoorAmHeap
import Derived.Test.YtdkpmlhbofgfdaaGreatDoorAmArgs2
set_option linter.unusedVariables false
set_option linter.unusedSimpArgs false
namespace Go.Proofs.YtdkpmlhbofgfdaaGreatDoor.AM
open Go
/-- memory that grew -/
structure Gr (H H' : AHeap) : Prop where
  keep : Keep H.next H H'
  next : H.next ≤ H'.next
  fr : ∀ b, H'.next ≤ b → H'.get b = Option.none
def Fr (H : AHeap) : Prop := ∀ b, H.next ≤ b → H.get b = Option.none
theorem Gr.refl {H : AHeap} (h : Fr H) : Gr H H := ⟨Keep.refl _ _, Nat.le_refl _, h⟩
theorem Gr.trans {H H1 H2 : AHeap} (h : Gr H H1) (k : Gr H1 H2) : Gr H H2 := ⟨h.keep.trans (k.keep.le h.next), Nat.le_trans h.next k.next, k.fr⟩
theorem Hp.gr {H H' : AHeap} {l : List Cel} (h : Hp H.next H' l) (k : Keep H.next H H') : Gr H H' := ⟨k, h.bn, h.fr⟩
theorem Gr.get {H H' : AHeap} (g : Gr H H') (hf : Fr H) {b : Nat} {o : AObj} (h : H.get b = some o) : H'.get b = some o := by
  have hb : b < H.next := Nat.lt_of_not_le fun hh => by rw [hf b hh] at h; cases h
  rw [g.keep b hb]; exact h
theorem Gr.tabs {H H' : AHeap} (g : Gr H H') (hf : Fr H) {T : List Tb} (h : hasTabs H T = true) : hasTabs H' T = true := by
  refine List.all_eq_true.2 fun t ht => ?_
  have h1 := List.all_eq_true.1 h t ht
  split at h1
  · rename_i B hB
    rw [g.get hf hB]; exact h1
  · cases h1
/-- a slice that may be cut -/
def IsS {α : Type} (R : AHeap → α → AV → Prop) (H : AHeap) (v : AV) (l : List α) : Prop :=
  (v = .nils ∧ l = []) ∨ ∃ b o cap B, v = .slc b o l.length cap ∧ H.get b = some (.row B) ∧ B.live = true ∧ (B.es = 0 ∨ B.es = 1) ∧ l.length ≤ cap ∧ ∀ i x, l[i]? = some x → ∃ c, B.cells[o + i]? = some c ∧ R H x c
def IsI (H : AHeap) (x : Int) (c : AV) : Prop := c = .int .i64 x
def IsIs (H : AHeap) (x : List Int) (c : AV) : Prop := IsS IsI H c x
section
variable {α : Type} {R : AHeap → α → AV → Prop} {H : AHeap} {v : AV} {l : List α}
theorem IsS.sl (h : IsS R H v l) : IsSl R H v l := by
  rcases h with ⟨h1, h2⟩ | ⟨b, o, cap, B, rfl, hB, hlv, _, _, hc⟩
  · exact .inl ⟨h1, h2⟩
  · exact .inr ⟨b, o, cap, B, rfl, by simp only [AHeap.row, hB, hlv, if_true], hc⟩
theorem IsS.len (h : IsS R H v l) : lngV H 1 v = some (.int .i64 l.length) := h.sl.len
theorem IsS.at (h : IsS R H v l) {i : Int} (h0 : 0 ≤ i) (h1 : i < l.length) (k : IntKind) : idxSV 1 v (.int k i) = some (atOf v i) := h.sl.at h0 h1 k
theorem IsS.get (h : IsS R H v l) {i : Int} {a : α} (ha : l[i.toNat]? = some a) : ∃ c, loadV H none (atOf v i) = some c ∧ R H a c := h.sl.get ha
theorem IsS.grow {H' : AHeap} (h : IsS R H v l) (hR : ∀ x c, R H x c → R H' x c) (hf : Fr H) (g : Gr H H') : IsS R H' v l := by
  rcases h with ⟨h1, h2⟩ | ⟨b, o, cap, B, rfl, hB, hlv, hes, hcap, hc⟩
  · exact .inl ⟨h1, h2⟩
  · refine .inr ⟨b, o, cap, B, rfl, g.get hf hB, hlv, hes, hcap, fun i x hx => ?_⟩
    obtain ⟨c, k1, k2⟩ := hc i x hx
    exact ⟨c, k1, hR _ _ k2⟩
/-- elements from a place on -/
theorem IsS.drop (h : IsS R H v l) {n : Nat} (hn : n ≤ l.length) (k : IntKind) : ∃ w, slSV H 1 v (some (.int k n)) none = some w ∧ IsS R H w (l.drop n) := by
  rcases h with ⟨rfl, rfl⟩ | ⟨b, o, cap, B, rfl, hB, hlv, hes, hcap, hc⟩
  · have : n = 0 := by simpa using hn
    subst this
    exact ⟨.nils, rfl, .inl ⟨rfl, rfl⟩⟩
  · refine ⟨.slc b (o + n) (l.drop n).length (cap - n), ?_, .inr ⟨b, o + n, cap - n, B, rfl, hB, hlv, hes, by simp; omega, fun i x hx => ?_⟩⟩
    · simp only [slSV, ROp.run, Opd.ev, Option.map_some, Option.map_none, bounds, bound, if_pos (show 0 ≤ (n : Int) ∧ (n : Int) ≤ (l.length : Int) by omega), Int.toNat_natCast, hB, if_pos hes, Nat.mul_one, List.length_drop]
    · rw [List.getElem?_drop] at hx
      obtain ⟨c, k1, k2⟩ := hc _ _ hx
      exact ⟨c, by rw [Nat.add_assoc]; exact k1, k2⟩
/-- elements from one place up to another one -/
theorem IsS.cut (h : IsS R H v l) {m n : Nat} (hm : m ≤ n) (hn : n ≤ l.length) (k k' : IntKind) : ∃ w, slSV H 1 v (some (.int k m)) (some (.int k' n)) = some w ∧ IsS R H w ((l.take n).drop m) := by
  rcases h with ⟨rfl, rfl⟩ | ⟨b, o, cap, B, rfl, hB, hlv, hes, hcap, hc⟩
  · have hn0 : n = 0 := by simpa using hn
    subst hn0
    have hm0 : m = 0 := by omega
    subst hm0
    exact ⟨.nils, rfl, .inl ⟨rfl, rfl⟩⟩
  · refine ⟨.slc b (o + m) ((l.take n).drop m).length (cap - m), ?_, .inr ⟨b, o + m, cap - m, B, rfl, hB, hlv, hes, by simp; omega, fun i x hx => ?_⟩⟩
    · simp only [slSV, ROp.run, Opd.ev, Option.map_some, Option.map_none, bounds, bound, if_pos (show 0 ≤ (n : Int) ∧ (n : Int) ≤ (cap : Int) by omega), if_pos (show 0 ≤ (m : Int) ∧ (m : Int) ≤ ((n : Nat) : Int) by omega), Int.toNat_natCast, hB, if_pos hes, Nat.mul_one, List.length_drop, List.length_take, Nat.min_eq_left hn]
    · rw [List.getElem?_drop, List.getElem?_take] at hx
      split at hx
      · obtain ⟨c, k1, k2⟩ := hc _ _ hx
        exact ⟨c, by rw [Nat.add_assoc]; exact k1, k2⟩
      · cases hx
/-- the same, in memory that grew -/
theorem IsS.cutG {H' : AHeap} (h : IsS R H v l) (hf : Fr H) (g : Gr H H') {m n : Nat} (hm : m ≤ n) (hn : n ≤ l.length) (k k' : IntKind) : ∃ w, slSV H' 1 v (some (.int k m)) (some (.int k' n)) = some w ∧ IsS R H w ((l.take n).drop m) := by
  obtain ⟨w, h1, h2⟩ := h.cut hm hn k k'
  refine ⟨w, ?_, h2⟩
  rw [← h1]
  rcases h with ⟨rfl, rfl⟩ | ⟨b, o, cap, B, rfl, hB, _⟩
  · rfl
  · simp only [slSV, ROp.run, Opd.ev, hB, g.get hf hB]
theorem IsS.dropG {H' : AHeap} (h : IsS R H v l) (hf : Fr H) (g : Gr H H') {n : Nat} (hn : n ≤ l.length) (k : IntKind) : ∃ w, slSV H' 1 v (some (.int k n)) none = some w ∧ IsS R H w (l.drop n) := by
  obtain ⟨w, h1, h2⟩ := h.drop hn k
  refine ⟨w, ?_, h2⟩
  rw [← h1]
  rcases h with ⟨rfl, rfl⟩ | ⟨b, o, cap, B, rfl, hB, _⟩
  · rfl
  · simp only [slSV, ROp.run, Opd.ev, hB, g.get hf hB]
/-- up to a place -/
theorem IsS.take (h : IsS R H v l) {n : Nat} (hn : n ≤ l.length) (k : IntKind) : ∃ w, slSV H 1 v none (some (.int k n)) = some w ∧ IsS R H w (l.take n) := by
  rcases h with ⟨rfl, rfl⟩ | ⟨b, o, cap, B, rfl, hB, hlv, hes, hcap, hc⟩
  · have : n = 0 := by simpa using hn
    subst this
    exact ⟨.nils, rfl, .inl ⟨rfl, rfl⟩⟩
  · refine ⟨.slc b o (l.take n).length cap, ?_, .inr ⟨b, o, cap, B, rfl, hB, hlv, hes, by simp; omega, fun i x hx => ?_⟩⟩
    · simp only [slSV, ROp.run, Opd.ev, Option.map_some, Option.map_none, bounds, bound, if_pos (show 0 ≤ (n : Int) ∧ (n : Int) ≤ (cap : Int) by omega), Int.toNat_natCast, hB, if_pos hes, Nat.zero_mul, Nat.add_zero, Nat.sub_zero, List.length_take, Nat.min_eq_left hn]
    · rw [List.getElem?_take] at hx
      split at hx
      · exact hc _ _ hx
      · cases hx
end
theorem IsI.grow {H H' : AHeap} (x : Int) (c : AV) (h : IsI H x c) : IsI H' x c := h
theorem IsIs.grow {H H' : AHeap} (hf : Fr H) (g : Gr H H') (x : List Int) (c : AV) (h : IsIs H x c) : IsIs H' x c := IsS.grow (R := IsI) h (fun _ _ h => h) hf g
theorem IsS.int {H : AHeap} {v : AV} {l : List Int} (h : IsS IsI H v l) {i : Int} {a : Int} (ha : l[i.toNat]? = some a) : loadV H none (atOf v i) = some (.int .i64 a) := by
  obtain ⟨c, h1, h2⟩ := h.get ha
  rw [h1, h2]
/-- an own block as a slice -/
theorem Hp.isS {base : Nat} {H : AHeap} {l : List Cel} {α : Type} {R : AHeap → α → AV → Prop} {b : Nat} {cs : List AV} (h : Hp base H l) (hm : (⟨b, 1, cs⟩ : Cel) ∈ l) {xs : List α} {cap : Nat} (hl : xs.length ≤ cap) (hx : ∀ (i : Nat) (x : α), xs[i]? = some x → ∃ c, cs[i]? = some c ∧ R H x c) : IsS R H (.slc b 0 xs.length cap) xs := by
  obtain ⟨es, ty, h1, h2⟩ := h.has _ hm
  exact .inr ⟨b, 0, cap, ⟨cs, es, false, true, ty⟩, rfl, h1, rfl, h2, hl, fun i x hi => by rw [Nat.zero_add]; exact hx i x hi⟩
theorem one_sliceS {α : Type} {P : Program} {t e : TypeId} {R : AHeap → α → AV → Prop} {G : α → Prop} (he : One P e R G) (h : P.underlying t = some (.slice e)) : One P t (fun H l v => IsS R H v l) (fun l => l.length ≤ maxLen ∧ ∀ x ∈ l, G x) := by
  have list : ∀ (H : AHeap) (ds : List Dt) (cs : List AV), WTL P ds e → RdL H ds cs → ∃ l : List α, l.length = ds.length ∧ (∀ (i : Nat) (x : α), l[i]? = some x → ∃ c, cs[i]? = some c ∧ R H x c) ∧ ∀ x ∈ l, G x := by
    intro H ds
    induction ds with
    | nil => intro cs _ _; exact ⟨[], rfl, fun i x h => by simp at h, fun x h => by simp at h⟩
    | cons d ds ih =>
      intro cs hw hr
      simp only [WTL] at hw
      simp only [RdL] at hr
      obtain ⟨c1, c2, rfl, h1, h2⟩ := hr
      obtain ⟨_, a, c, rfl, h3, h4⟩ := he H d c1 hw.1 h1
      obtain ⟨l, h5, h6, h7⟩ := ih c2 hw.2 h2
      refine ⟨a :: l, by simp [h5], ?_, ?_⟩
      · intro i x hx
        cases i with
        | zero => simp at hx; subst hx; exact ⟨c, by simp, h3⟩
        | succ i => simp at hx; obtain ⟨c', h8, h9⟩ := h6 i x hx; exact ⟨c', by simpa using h8, h9⟩
      · intro x hx
        rcases List.mem_cons.1 hx with rfl | hx
        · exact h4
        · exact h7 x hx
  intro H d cs hw hr
  cases d with
  | nils =>
    simp only [Rd] at hr
    exact ⟨(fun ps hh => by cases hh), [], _, hr, .inl ⟨rfl, rfl⟩, by simp, fun x hx => by simp at hx⟩
  | slc es cap =>
    simp only [WT, h, Option.some.injEq, TypeDesc.slice.injEq] at hw
    obtain ⟨e', rfl, h1, h2, h3⟩ := hw
    simp only [Rd] at hr
    obtain ⟨b, B, hc, hb, hlv, hro, hes, hrd⟩ := hr
    obtain ⟨l, h5, h6, h7⟩ := list H es B.cells h3 hrd
    refine ⟨(fun ps hh => by cases hh), l, _, hc, .inr ⟨b, 0, cap, B, by rw [h5], hb, hlv, .inl hes, by rw [h5]; exact h1, fun i x hx => ?_⟩, by rw [h5]; omega, h7⟩
    obtain ⟨c, h8, h9⟩ := h6 i x hx
    exact ⟨c, by rw [Nat.zero_add]; exact h8, h9⟩
  | int k n => simp [WT, h] at hw
  | bool b => simp [WT, h] at hw
  | str s => simp [WT, h] at hw
  | agg ps => simp [WT, h] at hw
def buildV (z : List AV) (ps : List (Nat × Nat × AV)) : Option AV := match buildIn z ps with | some cs => some (.agg cs) | none => none
theorem run_build (H : AHeap) (e : Env) (z : List AV) (ps : List (Nat × Nat × Opd)) : ROp.run H e (.build z ps) = buildV z (ps.map fun p => (p.1, p.2.1, p.2.2.ev e)) := rfl
theorem over_app : ∀ (vs a b c : List AV), vs.length = b.length → over (a ++ (b ++ c)) a.length vs = a ++ (vs ++ c)
  | [], a, b, c, h => by
    have : b = [] := List.eq_nil_of_length_eq_zero h.symm
    subst this; rfl
  | v :: vs, a, b, c, h => by
    cases b with
    | nil => simp at h
    | cons x b =>
      have h1 := over_app vs (a ++ [v]) b c (by simpa using h)
      have h2 : (a ++ (x :: b ++ c)).set a.length v = a ++ [v] ++ (b ++ c) := by
        rw [List.set_append_right _ _ (Nat.le_refl _)]; simp
      simp only [over]
      rw [h2]
      simp only [List.length_append, List.length_cons, List.length_nil, Nat.zero_add] at h1
      rw [h1]; simp
/-- some cells within a block -/
theorem Hp.storeO {base : Nat} {H : AHeap} {l : List Cel} {b k o : Nat} {cs a x c : List AV} (h : Hp base H (⟨b, k, cs⟩ :: l)) (hcs : cs = a ++ (x ++ c)) (ho : a.length = o) {n : Nat} {new : List AV} (hn : x.length = n) (hl : new.length = n) (h1 : new.all AV.one = true) :
    ∃ H', storeE H n (.ptr b o) (.agg new) = some (.undef, H') ∧ Hp base H' (⟨b, k, a ++ (new ++ c)⟩ :: l) ∧ Keep base H H' ∧ H'.next = H.next := by
  subst hcs ho
  obtain ⟨es, ty, r1, r2⟩ := (h.has ⟨b, k, a ++ (x ++ c)⟩ (List.mem_cons_self ..)).row
  simp only at r1 r2
  have hov := over_app new a x c (by omega)
  refine ⟨H.set b (.row ⟨a ++ (new ++ c), es, false, true, ty⟩), ?_, h.set _ _ r2, h.keep_set _, rfl⟩
  simp only [storeE, EOp.run, Opd.ev, AV.cells, hl, if_true, storeA, r1, hov, h1, and_true, true_and]
  rw [if_pos (by simp; omega)]
theorem Hp.storeN {base : Nat} {H : AHeap} {l : List Cel} {b k : Nat} {cs : List AV} (h : Hp base H (⟨b, k, cs⟩ :: l)) {n : Nat} {new : List AV} (hn : cs.length = n) (hl : new.length = n) (h1 : new.all AV.one = true) :
    ∃ H', storeE H n (.ptr b 0) (.agg new) = some (.undef, H') ∧ Hp base H' (⟨b, k, new⟩ :: l) ∧ Keep base H H' ∧ H'.next = H.next := by
  have := h.storeO (a := []) (x := cs) (c := []) (o := 0) (by simp) rfl hn hl h1
  simpa using this
theorem Hp.loadO {base : Nat} {H : AHeap} {l : List Cel} (h : Hp base H l) {b k o n : Nat} {a x c : List AV} (hx : ⟨b, k, a ++ (x ++ c)⟩ ∈ l) (ho : a.length = o) (hn : x.length = n) : loadV H (some n) (.ptr b o) = some (.agg x) := by
  obtain ⟨B, r, e⟩ := h.rowOf hx
  subst ho hn
  simp only [loadV, ROp.run, Opd.ev, r, e, AM.cut]
  rw [if_pos (by simp)]
  simp
theorem Hp.loadN {base : Nat} {H : AHeap} {l : List Cel} (h : Hp base H l) {b k : Nat} {cs : List AV} (hx : ⟨b, k, cs⟩ ∈ l) {n : Nat} (hn : cs.length = n) : loadV H (some n) (.ptr b 0) = some (.agg cs) :=
  h.loadO (a := []) (c := []) (by simpa using hx) rfl hn
/-- elements behind a slice that ends where its block ends: all in a block of their own -/
theorem Hp.appendK {base : Nat} {H : AHeap} {l : List Cel} {b k o n m bytes : Nat} {pre xs ys : List AV} {w : AV} (h : Hp base H (⟨b, k, pre ++ xs⟩ :: l)) (ho : pre.length = o) (hn : xs.length = n * k) (hk : 0 < k) (hsrc : srcCells H k w = some (m, ys)) (hm : 0 < m) (hy : ys.all AV.one = true) (hb : 0 < bytes) (hs : (n + m) * bytes ≤ 70368744177664) :
    ∃ H', appendE H k bytes (.slc b o n n) w = some (.slc H.next 0 (n + m) (n + m), H') ∧ Hp base H' (⟨H.next, k, xs ++ ys⟩ :: l) ∧ Keep base H H' := by
  obtain ⟨es, ty, h1, h2⟩ := (h.has _ (List.mem_cons_self ..)).row
  simp only at h1 h2
  have hcut : AM.cut (pre ++ xs) o (n * k) = some xs := by
    unfold AM.cut
    rw [if_pos (by simp; omega)]
    simp [← ho, ← hn]
  have hsz : (n + m) * bytes ≤ 70368744177664 ∧ n + m ≤ 70368744177664 := ⟨hs, Nat.le_trans (Nat.le_mul_of_pos_right _ hb) hs⟩
  rcases h2 with rfl | rfl
  · refine ⟨H.alloc (.row ⟨xs ++ ys, k, false, true, 0⟩), ?_, h.drop.alloc _ _ _ (.inr rfl), h.keep_alloc _⟩
    simp only [appendE, EOp.run, Opd.ev, hsrc, appendA, h1, hcut]
    rw [if_neg (by simp [hy]; omega), if_neg (by omega), if_neg (by simpa using hsz)]
    simp
  · have hd := h.kill ⟨pre ++ xs, es, false, false, ty⟩
    refine ⟨(H.set b (.row ⟨pre ++ xs, es, false, false, ty⟩)).alloc (.row ⟨xs ++ ys, es, false, true, 0⟩), ?_, hd.alloc _ _ _ (.inr rfl), (h.keep_set _).trans (hd.keep_alloc _)⟩
    simp only [appendE, EOp.run, Opd.ev, hsrc, appendA, h1, hcut]
    rw [if_neg (by simp [hy]; omega), if_neg (by omega), if_neg (by simpa using hsz), if_neg (by omega)]
    simp
theorem Hp.appendK0 {base : Nat} {H : AHeap} {l : List Cel} {k m bytes : Nat} {ys : List AV} {w : AV} (h : Hp base H l) (hk : 0 < k) (hsrc : srcCells H k w = some (m, ys)) (hm : 0 < m) (hy : ys.all AV.one = true) (hb : 0 < bytes) (hs : m * bytes ≤ 70368744177664) :
    ∃ H', appendE H k bytes .nils w = some (.slc H.next 0 m m, H') ∧ Hp base H' (⟨H.next, k, ys⟩ :: l) ∧ Keep base H H' := by
  have hsz : m * bytes ≤ 70368744177664 ∧ m ≤ 70368744177664 := ⟨hs, Nat.le_trans (Nat.le_mul_of_pos_right _ hb) hs⟩
  refine ⟨H.alloc (.row ⟨ys, k, false, true, 0⟩), ?_, h.alloc _ _ _ (.inr rfl), h.keep_alloc _⟩
  simp only [appendE, EOp.run, Opd.ev, hsrc, appendA]
  rw [if_neg (by simp [hy]; omega), if_neg (by omega), if_pos hsz]
theorem Hp.src {base : Nat} {H : AHeap} {l : List Cel} (h : Hp base H l) {b k k' o m c : Nat} {pre ys post : List AV} (hx : ⟨b, k', pre ++ (ys ++ post)⟩ ∈ l) (ho : pre.length = o) (hm : ys.length = m * k) (h0 : 0 < m) : srcCells H k (.slc b o m c) = some (m, ys) := by
  obtain ⟨B, r, e⟩ := h.rowOf hx
  simp only [srcCells, if_neg (show ¬ m = 0 by omega), r, e]
  have : AM.cut (pre ++ (ys ++ post)) o (m * k) = some ys := by
    unfold AM.cut
    rw [if_pos (by simp; omega)]
    simp [← ho, ← hm]
  rw [this]
/-- what a slice of numbers holds, as a source -/
theorem IsS.src {H : AHeap} {w : AV} {xs : List Int} (h : IsS IsI H w xs) : srcCells H 1 w = some (xs.length, xs.map (.int .i64)) := by
  rcases h with ⟨rfl, rfl⟩ | ⟨b, o, cap, B, rfl, hB, hlv, hes, hcap, hc⟩
  · rfl
  · by_cases h0 : xs.length = 0
    · have : xs = [] := List.eq_nil_of_length_eq_zero h0
      subst this; rfl
    · have hr : H.row b = some B := by simp only [AHeap.row, hB, hlv, if_true]
      have hlen : o + xs.length ≤ B.cells.length := by
        obtain ⟨x, hx⟩ : ∃ x, xs[xs.length - 1]? = some x := ⟨_, List.getElem?_eq_getElem (by omega)⟩
        obtain ⟨c, h1, _⟩ := hc _ _ hx
        have := (List.getElem?_eq_some_iff.1 h1).1
        omega
      have hcut : AM.cut B.cells o (xs.length * 1) = some (xs.map (.int .i64)) := by
        unfold AM.cut
        rw [if_pos (by omega), Nat.mul_one]
        congr 1
        apply List.ext_getElem?
        intro i
        rw [List.getElem?_take, List.getElem?_map]
        by_cases hi : i < xs.length
        · rw [if_pos hi, List.getElem?_drop]
          obtain ⟨x, hx⟩ : ∃ x, xs[i]? = some x := ⟨_, List.getElem?_eq_getElem hi⟩
          obtain ⟨c, h1, h2⟩ := hc _ _ hx
          rw [h1, hx, h2]; rfl
        · rw [if_neg hi, List.getElem?_eq_none (by omega)]; rfl
      simp only [srcCells, if_neg h0, hr, hcut]
theorem store_other {H H' : AHeap} {n b o : Nat} {v u : AV} (h : storeE H n (.ptr b o) v = some (u, H')) {c : Nat} (hc : c ≠ b) : H'.get c = H.get c := by
  have e : storeE H n (.ptr b o) v = if v.cells.length = n then (match storeA H b o v.cells with | some H' => some (.undef, H') | none => none) else none := rfl
  rw [e] at h
  by_cases hl : v.cells.length = n
  · rw [if_pos hl] at h
    cases hs : storeA H b o v.cells with
    | none => rw [hs] at h; cases h
    | some H2 =>
      rw [hs] at h
      simp only [Option.some.injEq, Prod.mk.injEq] at h
      obtain ⟨_, rfl⟩ := h
      unfold storeA at hs
      split at hs
      · split at hs
        · obtain rfl := Option.some.inj hs
          rw [AHeap.get_set, if_neg hc]
        · cases hs
      · cases hs
  · rw [if_neg hl] at h; cases h
/-! ### Maps of our own -/
def mapUpdE (H : AHeap) (kk : Nat) (m k v : AV) : Option (AV × AHeap) := EOp.run noCall H .nil (.mapUpd kk (.c m) (.c k) (.c v))
theorem wp_mapUpd (Q : Prog) (H : AHeap) (e : Env) (K : AV → AHeap → Prop) (kk : Nat) (m k v : Opd) : EOp.wp Q H e K (.mapUpd kk m k v) = bindX (mapUpdE H kk (m.ev e) (k.ev e) (v.ev e)) K := rfl
theorem run_mkMap (e : Env) : LOp.run e .mkMap = some (.map [], .map) := rfl
theorem val_map (b : Nat) : AKind.val b .map = .map b := rfl
def lookupV (H : AHeap) (kk : Nat) (zero : List AV) (zagg : Bool) (x k : AV) (ok : Bool) : Option AV := ROp.run H .nil (.lookup kk zero zagg (.c x) (.c k) ok)
theorem run_lookup (H : AHeap) (e : Env) (kk : Nat) (zero : List AV) (zagg : Bool) (x k : Opd) (ok : Bool) : ROp.run H e (.lookup kk zero zagg x k ok) = lookupV H kk zero zagg (x.ev e) (k.ev e) ok := rfl
theorem Hp.allocM {base : Nat} {H : AHeap} {l : List Cel} (h : Hp base H l) (es : List (AV × AV)) : ∃ H', H.alloc (.map es) = H' ∧ Hp base H' l ∧ Keep base H H' ∧ H'.get H.next = some (.map es) ∧ H'.next = H.next + 1 := by
  refine ⟨_, rfl, ⟨fun x hx => ?_, h.nd, h.lo, Nat.le_succ_of_le h.bn, fun b hb => ?_⟩, h.keep_alloc _, by rw [AHeap.get_alloc, if_pos rfl], rfl⟩
  · obtain ⟨es', ty', h1, h2⟩ := h.has x hx
    exact ⟨es', ty', by rw [AHeap.get_alloc, if_neg (Nat.ne_of_lt (h.lt hx))]; exact h1, h2⟩
  · have hb' : H.next + 1 ≤ b := hb
    rw [AHeap.get_alloc, if_neg (by omega)]
    exact h.fr b (by omega)
theorem Hp.setM {base : Nat} {H : AHeap} {l : List Cel} (h : Hp base H l) {m : Nat} {es0 es : List (AV × AV)} (hm : H.get m = some (.map es0)) (hb : base ≤ m) : Hp base (H.set m (.map es)) l ∧ Keep base H (H.set m (.map es)) ∧ (H.set m (.map es)).get m = some (.map es) := by
  refine ⟨⟨fun x hx => ?_, h.nd, h.lo, h.bn, fun b hb' => ?_⟩, fun b hb' => ?_, by rw [AHeap.get_set, if_pos rfl]⟩
  · obtain ⟨es', ty', h1, h2⟩ := h.has x hx
    refine ⟨es', ty', ?_, h2⟩
    rw [AHeap.get_set, if_neg (fun e => ?_)]
    · exact h1
    · rw [e, hm] at h1; cases h1
  · have hlt : m < H.next := Nat.lt_of_not_le fun hh => by rw [h.fr m hh] at hm; cases hm
    have hb'' : H.next ≤ b := hb'
    rw [AHeap.get_set, if_neg (by omega)]
    exact h.fr b hb''
  · rw [AHeap.get_set, if_neg (by omega)]
theorem Hp.joinG {base : Nat} {H H' : AHeap} {l l' : List Cel} (h : Hp base H l) (g : Gr H H') (h' : Hp H.next H' l') : Hp base H' (l' ++ l) := by
  have h2 := h.keep g.keep g.next g.fr
  refine ⟨fun x hx => ?_, ?_, fun x hx => ?_, h2.bn, h2.fr⟩
  · rcases List.mem_append.1 hx with hx | hx
    · exact h'.has x hx
    · exact h2.has x hx
  · rw [List.map_append, List.nodup_append]
    refine ⟨h'.nd, h.nd, ?_⟩
    intro a ha c hc hac
    obtain ⟨x, hx, rfl⟩ := List.mem_map.1 ha
    obtain ⟨y, hy, rfl⟩ := List.mem_map.1 hc
    have := h'.lo x hx
    have := h.lt hy
    omega
  · rcases List.mem_append.1 hx with hx | hx
    · exact Nat.le_trans h.bn (h'.lo x hx)
    · exact h.lo x hx
end Go.Proofs.YtdkpmlhbofgfdaaGreatDoor.AM
