/-
  Reading and writing cells: what the model does where the abstract machine reads or writes.
-/
import Derived.Test.YtdkpmlhbofgfdaaGreatDoorAmRel
import Derived.Laws.Cells
import Derived.Laws.Append
import Derived.Laws.CopyRow
set_option linter.unusedSimpArgs false
set_option linter.unusedVariables false
namespace Go.Proofs.YtdkpmlhbofgfdaaGreatDoor.AM
open Go Go.RowKit

variable {base : Nat} {m : Inj} {H : AHeap} {W : World} {P : Program} {gl : List Nat}

theorem row_inv {b : Nat} {B : Blk} (h : H.row b = some B) : H.get b = some (.row B) ∧ B.live = true := by
  unfold AHeap.row at h
  split at h
  · rename_i B' hB
    split at h
    · rename_i hl; injection h with h; subst h; exact ⟨hB, hl⟩
    · cases h
  · cases h
theorem addr_add (g o i : Nat) : (⟨g, o, none⟩ : Addr).add i = ⟨g, o + i, none⟩ := by
  unfold Addr.add
  split
  · rename_i h; subst h; rfl
  · rfl
theorem run_load1 (P : Program) {a : Addr} {c : Value} (h : W.cell? a = some c) : (load a).run P W = .ok c W := by simp [h]
theorem loads (P : Program) (h : SR P gl base m H W) {b o n : Nat} {L : Loc} {B : Blk} {cs : List AV} (hb : m b = some L) (hB : H.row b = some B) (hc : cut B.cells o n = some cs) :
    ∃ cs' : List Value, (loadCells ⟨L.blk, L.off + o, none⟩ n).run P W = .ok cs'.toArray W ∧ LR m cs cs' ∧ ∀ i c, cs'[i]? = some c → W.cell? ⟨L.blk, L.off + o + i, none⟩ = some c := by
  obtain ⟨h1, h2, h3⟩ := cut_some hc
  obtain ⟨g1, g2⟩ := row_inv hB
  have hcell : ∀ i, i < n → ∃ v c, cs[i]? = some v ∧ W.cell? ⟨L.blk, L.off + o + i, none⟩ = some c ∧ VR m v c := by
    intro i hi
    have hv : cs[i]? = some cs[i] := by simp
    have hv' : B.cells[o + i]? = some cs[i] := by rw [← h3 i hi]; exact hv
    obtain ⟨c, hc1, hc2⟩ := h.cell b L B hb g1 g2 _ _ hv'
    exact ⟨cs[i], c, hv, by rw [Nat.add_assoc]; exact hc1, hc2⟩
  refine ⟨(List.range n).map fun j => (W.cell? ⟨L.blk, L.off + o + j, none⟩).getD undef, ?_, ⟨by simp [h2], fun i v v' a b => ?_⟩, fun i c hi => ?_⟩
  · rw [run_loadCells W _ n (fun j => (W.cell? ⟨L.blk, L.off + o + j, none⟩).getD undef)]
    intro j hj
    obtain ⟨v, c, _, hc1, _⟩ := hcell j hj
    rw [addr_add, hc1]; rfl
  · have hi : i < n := by rw [← h2]; exact (List.getElem?_eq_some_iff.1 a).1
    obtain ⟨u, c, hu1, hc1, hc2⟩ := hcell i hi
    simp [List.getElem?_map, List.getElem?_range hi, hc1] at b
    rw [hu1] at a; injection a with a
    subst a; subst b; exact hc2
  · have hi' : i < n := by have := (List.getElem?_eq_some_iff.1 hi).1; simpa using this
    obtain ⟨u, c', hu1, hc1, hc2⟩ := hcell i hi'
    simp [List.getElem?_map, List.getElem?_range hi', hc1] at hi
    subst hi; exact hc1

theorem run_stores (P : Program) (g off : Nat) (el : TypeId) (lo hi : Nat) : ∀ (vs : List Value) (i : Nat) (arr : Array Value) (W : World), W.heap[g]? = some (.cells arr el (lo, hi)) →
    (∀ j, j < arr.size → ¬ (lo ≤ j ∧ j < hi)) → off + i + vs.length ≤ arr.size → (∀ v ∈ vs, v.oneCell' = true) →
    ∃ W' arr', (storeCells ⟨g, off, none⟩ vs i).run P W = .ok () W' ∧ Wr W W' g (.cells arr' el (lo, hi)) ∧ arr'.size = arr.size ∧
      ∀ j, arr'[j]? = if off + i ≤ j ∧ j < off + i + vs.length then vs[j - (off + i)]? else arr[j]?
  | [], i, arr, W, hg, _, _, _ => by
    refine ⟨W, arr, rfl, ⟨rfl, rfl, rfl, rfl, fun _ _ => rfl, hg⟩, rfl, fun j => ?_⟩
    rw [if_neg (by simp)]
  | v :: vs, i, arr, W, hg, hf, hl, h1 => by
    simp only [List.length_cons] at hl
    have hcell : W.cell? ⟨g, off + i, none⟩ = some arr[off + i] := by rw [cell_of W g _ arr el _ hg]; simp
    have hfr : W.frozen? ⟨g, off + i, none⟩ = false := by
      have := hf (off + i) (by omega)
      simp only [World.frozen?, hg]
      simp only [Bool.and_eq_false_iff, decide_eq_false_iff_not]
      omega
    have hrun : (store (⟨g, off + i, none⟩ : Addr) v).run P W = .ok () (W.setCell ⟨g, off + i, none⟩ v) := by
      rw [run_store P W _ v .plain (h1 v (by simp)), hcell]; simp [hfr]
    have hg' : (W.setCell ⟨g, off + i, none⟩ v).heap[g]? = some (.cells (arr.setIfInBounds (off + i) v) el (lo, hi)) := by
      simp [World.setCell, Array.getElem?_modify, hg]
    obtain ⟨W', arr', h2, h3, h4, h5⟩ := run_stores P g off el lo hi vs (i + 1) (arr.setIfInBounds (off + i) v) (W.setCell ⟨g, off + i, none⟩ v) hg'
      (by intro j hj; exact hf j (by simpa using hj)) (by simp; omega) (fun u hu => h1 u (by simp [hu]))
    refine ⟨W', arr', ?_, ⟨h3.os, h3.tape, h3.output, by rw [h3.size]; simp, fun k hk => by rw [h3.same k hk]; exact Below.heap_setCell _ _ _ _ (by simpa using hk), h3.at_⟩, by rw [h4]; simp, fun j => ?_⟩
    · rw [storeCells]
      simp only [Sem.run_bind, addr_add, hrun, Result.andThen_ok]
      exact h2
    · rw [h5 j]
      simp only [List.length_cons]
      by_cases hj : j = off + i
      · subst hj
        rw [if_neg (by omega), if_pos (by omega)]
        simp [show off + i < arr.size by omega]
      · by_cases hj2 : off + (i + 1) ≤ j ∧ j < off + (i + 1) + vs.length
        · rw [if_pos hj2, if_pos (by omega), show j - (off + i) = (j - (off + (i + 1))) + 1 by omega, List.getElem?_cons_succ]
        · rw [if_neg hj2, if_neg (by omega), Array.getElem?_setIfInBounds_ne (by omega)]

theorem SR.store (P : Program) (h : SR P gl base m H W) {b o : Nat} {L : Loc} {cs : List AV} {cs' : List Value} {H' : AHeap} (hb : m b = some L) (hs : storeA H b o cs = some H') (hl : LR m cs cs') :
    ∃ W', (storeCells ⟨L.blk, L.off + o, none⟩ cs').run P W = .ok () W' ∧ SR P gl base m H' W' ∧ BK base W W' ∧ H'.next = H.next ∧ ∀ c, c ≠ b → H'.get c = H.get c := by
  unfold storeA at hs
  split at hs
  · rename_i B hB
    split at hs
    · rename_i hcond
      obtain ⟨hro, hlen, hone⟩ := hcond
      injection hs with hs
      obtain ⟨g1, g2⟩ := row_inv hB
      obtain ⟨hbase, arr, el, lo, hi, ha, hroom, hlen2, hfz⟩ := h.rw b L B hb g1 g2 hro
      have hll := hl.1
      obtain ⟨W', arr', h1, h2, h3, h4⟩ := run_stores P L.blk (L.off + o) el lo hi cs' 0 arr W ha hfz.2 (by omega) (fun v hv => by
        obtain ⟨i, hi', e⟩ := List.mem_iff_getElem.1 hv
        have hi2 : i < cs.length := by omega
        have := hl.2 i cs[i] v (by simp [hi2]) (by rw [← e]; simp)
        exact this.one (by simp at hone; exact hone _ (List.getElem_mem hi2)))
      subst hs
      refine ⟨W', h1, h.write hb g1 g2 hro ha h3 h2 _ (over_length _ _ _) (fun i v hv => ?_), h2.bkc hbase ha, rfl, fun c hc => AHeap.get_set_ne _ _ _ _ hc⟩
      rw [over_get cs B.cells o i hlen] at hv
      have hcellB : ∀ v, B.cells[i]? = some v → ∃ c, arr[L.off + i]? = some c ∧ VR m v c := fun v hv => by
        obtain ⟨c, hc1, hc2⟩ := h.cell b L B hb g1 g2 i v hv
        rw [cell_of W L.blk _ arr el _ ha] at hc1
        exact ⟨c, hc1, hc2⟩
      rw [h4]
      split at hv
      · rename_i hin
        rw [if_pos (by omega)]
        obtain ⟨c, hc1, hc2⟩ := hl.get hv
        exact ⟨c, by rw [← hc1]; congr 1; omega, hc2⟩
      · rename_i hin
        rw [if_neg (by omega)]
        exact hcellB v hv
    · cases hs
  · cases hs
end Go.Proofs.YtdkpmlhbofgfdaaGreatDoor.AM
