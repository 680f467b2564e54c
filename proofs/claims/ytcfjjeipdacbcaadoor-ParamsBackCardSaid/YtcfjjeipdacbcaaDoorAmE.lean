/-
  Operations that write: stores, append, copy, clear, maps.
-/
import Derived.Test.YtcfjjeipdacbcaaDoorAmA
import Derived.Laws.AppendOwn
set_option linter.unusedSimpArgs false
set_option linter.unusedVariables false
namespace Go.Proofs.YtcfjjeipdacbcaaDoor.AM
open Go Go.RowKit

variable {base : Nat} {m : Inj} {H : AHeap} {W : World} {P : Program} {gl : List Nat} {e : Env} {ρ : Operand → Value}

/-- What an operation, a region, a call leaves. -/
structure Post (P : Program) (gl : List Nat) (base : Nat) (m : Inj) (H : AHeap) (W : World) (m' : Inj) (H' : AHeap) (W' : World) : Prop where
  le : m.le m'
  sr : SR P gl base m' H' W'
  below : BK base W W'
  next : H.next ≤ H'.next
  rest : ∀ b, b < H.next → m b = none → m' b = none ∧ H'.get b = H.get b
theorem Post.refl (h : SR P gl base m H W) : Post P gl base m H W m H W := ⟨Inj.le_refl _, h, BK.refl _ _, Nat.le_refl _, fun b _ hb => ⟨hb, rfl⟩⟩
theorem Post.trans {m' m'' : Inj} {H' H'' : AHeap} {W' W'' : World} (h : Post P gl base m H W m' H' W') (k : Post P gl base m' H' W' m'' H'' W'') : Post P gl base m H W m'' H'' W'' :=
  ⟨Inj.le_trans h.le k.le, k.sr, h.below.trans k.below, Nat.le_trans h.next k.next, fun b hb hm => by
    obtain ⟨h1, h2⟩ := h.rest b hb hm
    obtain ⟨h3, h4⟩ := k.rest b (Nat.lt_of_lt_of_le hb h.next) h1
    exact ⟨h3, h4.trans h2⟩⟩

/-- a block that no block of the machine lies in is written -/
theorem SR.wrOther (h : SR P gl base m H W) {W' : World} {g : Nat} {o : Obj} (hw : Wr W W' g o) (hg : base ≤ g) (hout : ∀ c L, m c = some L → owned H c → L.blk ≠ g) : SR P gl base m H W' := by
  have hbl : ∀ c L' B', m c = some L' → H.get c = some (.row B') → B'.live = true → B'.cells ≠ [] → L'.blk ≠ g := fun c L' B' hc hB' hl' hne => by
    cases hro : B'.ro with
    | false => exact hout c L' hc (.inl ⟨B', hB', hl', hro⟩)
    | true => have := (h.ro c L' B' hc hB' hl' hro).resolve_right hne; omega
  exact { le := by rw [hw.size]; exact h.le, dom := h.dom, fresh := h.fresh, es := h.es,
          cell := fun c L B hc hB hl i v hv => by rw [cell_block (W := W) (hw.same L.blk (hbl c L B hc hB hl (fun e => by rw [e] at hv; simp at hv)))]; exact h.cell c L B hc hB hl i v hv,
          ro := h.ro, rw := fun c L B hc hB hl hr => by rw [hw.same L.blk (hout c L hc (.inl ⟨B, hB, hl, hr⟩))]; exact h.rw c L B hc hB hl hr,
          mp := fun c L es hc hB => by rw [hw.same L.blk (hout c L hc (.inr (.inl ⟨es, hB⟩)))]; exact h.mp c L es hc hB,
          lp := fun c L R hc hB => by rw [hw.same L.blk (hout c L hc (.inr (.inr ⟨R, hB⟩)))]; exact h.lp c L R hc hB, inj := h.inj }

theorem src_bytes (s : ByteArray) (k : Nat) (hk : k ≤ s.size) : ((s.extract 0 k).data.map fun b => Value.int .u8 (b.toNat : Int)).toList = (s.data.toList.map fun b => Value.int .u8 (b.toNat : Int)).take k := by
  rw [ByteArray.data_extract]
  simp [List.extract_eq_take_drop, List.map_take]
theorem srcCells_sim (h : SR P gl base m H W) {es n : Nat} {x : AV} {cs : List AV} {c : Value} (hx : VR m x c) (hs : srcCells H es x = some (n, cs)) :
    ∃ cs' : List Value, (∀ W2, (Builtin.lenOf c).run P W2 = .ok n W2) ∧ cs'.length = n * es ∧ LR m cs cs' ∧ ∀ k, k ≤ n → ∀ W2 : World, (∀ a, W2.cell? a = W.cell? a) → (Builtin.firstCells es k c).run P W2 = .ok (cs'.take (k * es)).toArray W2 := by
  unfold srcCells at hs
  split at hs
  · injection hs with hs; injection hs with h1 h2; subst h1; subst h2
    cases hx
    exact ⟨[], fun _ => rfl, by simp, LR.nil m, fun k hk W2 _ => by simp [Builtin.firstCells]⟩
  · rename_i l
    split at hs
    · rename_i he
      subst he
      injection hs with hs; injection hs with h1 h2; subst h1; subst h2
      obtain ⟨s, rfl, hsl⟩ := str_inv hx
      have hsz := size_of hsl
      refine ⟨s.data.toList.map fun b => Value.int .u8 (b.toNat : Int), fun _ => by simp [Builtin.lenOf, hsz], by simp [hsl], ?_, fun k hk W2 _ => ?_⟩
      · subst hsl
        refine ⟨by simp [ofBytes], fun i v v' a b => ?_⟩
        simp only [ofBytes, List.getElem?_map, Option.map_eq_some_iff] at a b
        obtain ⟨b1, hb1, rfl⟩ := a
        obtain ⟨b2, hb2, rfl⟩ := b
        rw [hb1] at hb2; injection hb2 with hb2; subst hb2
        exact .int _ _
      · have := src_bytes s k (by omega)
        rw [Nat.mul_one]
        simp [Builtin.firstCells]
        apply Array.ext'
        simp [List.extract_eq_take_drop, List.map_take]
    · cases hs
  · rename_i b o len q
    obtain ⟨L, a, cap', h1, h2, h3, h4, h5⟩ := slc_inv hx
    subst h2
    split at hs
    · rename_i h0
      subst h0
      injection hs with hs; injection hs with h1 h2; subst h1; subst h2
      refine ⟨[], fun _ => rfl, by simp, LR.nil m, fun k hk W2 _ => ?_⟩
      obtain rfl : k = 0 := by omega
      simp [Builtin.firstCells, loadCells, loadCellsFrom]
    · rename_i h0
      split at hs
      · rename_i B hB
        split at hs
        · rename_i cs0 hcs
          injection hs with hs; injection hs with g1 g2; subst g1; subst g2
          obtain ⟨cs', k1, k2, k3⟩ := loads P h h1 hB hcs
          have hcc : 0 < cap' := by rcases h4 with h4 | h4 <;> omega
          have ha := h5 hcc
          have hl : cs'.length = len * es := by rw [← k2.1, (cut_some hcs).2.1]
          refine ⟨cs', fun _ => rfl, hl, k2, fun k hk W2 hW => ?_⟩
          have hke : (cs'.take (k * es)).length = k * es := by
            rw [List.length_take, hl]
            have : k * es ≤ len * es := Nat.mul_le_mul_right _ hk
            omega
          have := run_loadCells_list (P := P) W2 a (cs'.take (k * es)) (fun j v hj => by
            rw [hW, ha, addr_add]
            have hj2 : j < k * es := by have := (List.getElem?_eq_some_iff.1 hj).1; omega
            rw [List.getElem?_take_of_lt hj2] at hj
            exact k3 j v hj)
          rw [hke] at this
          simpa [Builtin.firstCells] using this
        · cases hs
      · cases hs
  · cases hs

theorem below_push2 {W2 : World} (hle : base ≤ W.heap.size) {o : Obj} (hh : W2.heap = W.heap.push o) (h1 : W2.os = W.os) (h2 : W2.tape = W.tape) (h3 : W2.output = W.output) : BK base W W2 := below_push hle hh h1 h2 h3
theorem zeroCells_size (z : Array Value) (n : Nat) : (Builtin.zeroCells z n).size = n * z.size := by simp [Builtin.zeroCells]
/-- the pieces of an append that makes a new array -/
theorem grow_place (h : SR P gl base m H W) {W2 : World} {cs : List AV} {es n cap' : Nat} {arr : Array Value} {el : TypeId} (hh : W2.heap = W.heap.push (.cells arr el (0, 0))) (hes : 0 < es) (hcs : cs.length = n * es)
    (hl : LR m cs (arr.toList.take cs.length)) (hsz : arr.size = cap' * es) (hcap : n ≤ cap') (hos : W2.os = W.os) (htp : W2.tape = W.tape) (hou : W2.output = W.output) :
    ∃ m', Post P gl base m H W m' (H.alloc (.row { cells := cs, es := es })) W2 ∧ VR m' (.slc H.next 0 n n) (.slice (some ⟨W.heap.size, 0, none⟩) n cap') := by
  have hb : m H.next = none := by
    cases hm : m H.next with
    | none => rfl
    | some L => exact absurd (h.dom _ _ hm) (Nat.lt_irrefl _)
  have hx := h.ext (.row { cells := cs, es := es })
  have hB : (H.alloc (.row { cells := cs, es := es })).get H.next = some (.row { cells := cs, es := es }) := by rw [AHeap.get_alloc, if_pos rfl]
  refine ⟨m.upd H.next ⟨W.heap.size, 0, arr.size, es⟩, ⟨Inj.le_upd hb, push_place (B := { cells := cs, es := es }) hx hB hb rfl hl ?_ (fun i _ => by omega) hh, below_push h.le hh hos htp hou, by rw [AHeap.next_alloc]; omega, fun b hlt hm => ?_⟩, ?_⟩
  · simp only [hcs, hsz]; exact Nat.mul_le_mul_right _ hcap
  · refine ⟨?_, by rw [AHeap.get_alloc, if_neg (by omega)]⟩
    unfold Inj.upd; rw [if_neg (by omega)]; exact hm
  · refine .slc (Inj.upd_same _ _ _) (Nat.le_refl _) ?_ (fun _ => by simp)
    by_cases he : n = cap'
    · exact .inl he
    · exact .inr ⟨by omega, hes, by simp [hsz]⟩
end Go.Proofs.YtcfjjeipdacbcaaDoor.AM
