/-
  Operations that write: stores, append, copy, clear, maps.
  append.
  Operations that write, all but calls.
  Operations that write: in one theorem.
-/
import Derived.Test.YtdkpmlhbofgfdaaGreatDoorAmA
import Derived.Laws.AppendOwn
set_option linter.unusedSimpArgs false
set_option linter.unusedVariables false
namespace Go.Proofs.YtdkpmlhbofgfdaaGreatDoor.AM
open Go Go.RowKit

variable {base : Nat} {m : Inj} {H : AHeap} {W : World} {P : Program} {gl : List Nat} {e : Env} {ρ : Operand → Value}

/-- What an operation, a region, a call leaves. -/
structure Post (P : Program) (gl : List Nat) (base : Nat) (m : Inj) (H : AHeap) (W : World) (m' : Inj) (H' : AHeap) (W' : World) : Prop where
  le : m.le m'
  sr : SR P gl base m' H' W'
  below : BK base W W'
  next : H.next ≤ H'.next
  rest : ∀ b, b < H.next → m b = none → m' b = none ∧ H'.get b = H.get b
theorem Post.refl (h : SR P gl base m H W) : Post P gl base m H W m H W := ⟨Inj.le_refl _, h, BK.refl _ _, Nat.le_refl _, fun b _ hb => ⟨hb, rfl⟩⟩
theorem Post.trans {m' m'' : Inj} {H' H'' : AHeap} {W' W'' : World} (h : Post P gl base m H W m' H' W') (k : Post P gl base m' H' W' m'' H'' W'') : Post P gl base m H W m'' H'' W'' :=
  ⟨Inj.le_trans h.le k.le, k.sr, h.below.trans k.below, Nat.le_trans h.next k.next, fun b hb hm => by
    obtain ⟨h1, h2⟩ := h.rest b hb hm
    obtain ⟨h3, h4⟩ := k.rest b (Nat.lt_of_lt_of_le hb h.next) h1
    exact ⟨h3, h4.trans h2⟩⟩

/-- a record is turned -/
theorem SR.writeRec (h : SR P gl base m H W) {b : Nat} {L : Loc} {o o' : AObj} {r' : Obj} (ho : isRec o = true) (ho' : isRec o' = true) (hb : m b = some L) (hB : H.get b = some o) {W' : World} (hw : Wr W W' L.blk r') (hR : RecR P gl m L o' r') :
    SR P gl base m (H.set b o') W' := by
  obtain ⟨hbase, r0, hr0, hR0⟩ := h.lp b L o hb hB ho
  have hg : ∀ c, c ≠ b → (H.set b o').get c = H.get c := fun c hc => AHeap.get_set_ne _ _ _ _ hc
  have hgb : (H.set b o').get b = some o' := AHeap.get_set_same _ _ _
  have hob : owned H b := .inr (.inr ⟨o, hB, ho⟩)
  have how : ∀ c, owned (H.set b o') c → owned H c := fun c hx => by
    by_cases hc : c = b
    · subst hc; exact hob
    · unfold owned at hx; rw [hg c hc] at hx; exact hx
  have hblk : ∀ c L', m c = some L' → c ≠ b → owned H c → L'.blk ≠ L.blk := fun c L' hc hn ho => h.inj c b L' L hc hb ho hob hn
  have hbl : ∀ c L' B', m c = some L' → c ≠ b → H.get c = some (.row B') → B'.live = true → B'.cells ≠ [] → L'.blk ≠ L.blk := fun c L' B' hc hn hB' hl' hne => by
    cases hro : B'.ro with
    | false => exact hblk c L' hc hn (.inl ⟨B', hB', hl', hro⟩)
    | true => have := (h.ro c L' B' hc hB' hl' hro).resolve_right hne; omega
  have hne : ∀ c B', (H.set b o').get c = some (.row B') → c ≠ b := fun c B' hc e => by subst e; rw [hgb] at hc; injection hc with hc; subst hc; cases ho'
  refine { le := by rw [hw.size]; exact h.le, dom := h.dom, fresh := fun c hc => ?_, es := fun c L' B' hc hB' => ?_, cell := fun c L' B' hc hB' hl' i v hi' => ?_, ro := fun c L' B' hc hB' hl' hro => ?_, rw := fun c L' B' hc hB' hl' hro => ?_,
           mp := fun c L' es hc hB' => ?_, lp := fun c L' R2 hc hB' hrec => ?_, inj := fun c c' L1 L2 h1 h2 o1 o2 => h.inj c c' L1 L2 h1 h2 (how c o1) (how c' o2),
           ty := fun c L' B' hc hB' h0 => (h.ty c L' B' hc (by rw [← hg c (hne c B' hB')]; exact hB') h0).wr hw (fun a t f hx => by rw [hr0] at hx; injection hx with hx; subst hx; exact hR0.cells.elim) }
  · rw [hg c (by have := h.dom b L hb; rw [AHeap.next_set] at hc; omega)]; exact h.fresh c hc
  · exact h.es c L' B' hc (by rw [← hg c (hne c B' hB')]; exact hB')
  · have hcb := hne c B' hB'
    rw [hg c hcb] at hB'
    rw [cell_block (W := W) (hw.same L'.blk (hbl c L' B' hc hcb hB' hl' (fun e => by rw [e] at hi'; simp at hi')))]
    exact h.cell c L' B' hc hB' hl' i v hi'
  · exact h.ro c L' B' hc (by rw [← hg c (hne c B' hB')]; exact hB') hl' hro
  · have hcb := hne c B' hB'
    rw [hg c hcb] at hB'
    rw [hw.same L'.blk (hblk c L' hc hcb (.inl ⟨B', hB', hl', hro⟩))]
    exact h.rw c L' B' hc hB' hl' hro
  · have hcb : c ≠ b := fun e => by subst e; rw [hgb] at hB'; injection hB' with hB'; subst hB'; cases ho'
    rw [hg c hcb] at hB'
    rw [hw.same L'.blk (hblk c L' hc hcb (.inr (.inl ⟨es, hB'⟩)))]
    exact h.mp c L' es hc hB'
  · by_cases hcb : c = b
    · subst hcb; rw [hgb] at hB'; injection hB' with hB'; subst hB'; rw [hb] at hc; injection hc with hc; subst hc
      exact ⟨hbase, r', hw.at_, hR⟩
    · rw [hg c hcb] at hB'
      rw [hw.same L'.blk (hblk c L' hc hcb (.inr (.inr ⟨R2, hB', hrec⟩)))]
      exact h.lp c L' R2 hc hB' hrec
/-- a record finds its place -/
theorem SR.placeRec (h : SR P gl base m H W) {b : Nat} {L : Loc} {o : AObj} {r : Obj} (ho : isRec o = true) (hb : m b = none) (hB : H.get b = some o) (hbase : base ≤ L.blk) (ha : W.heap[L.blk]? = some r) (hR : RecR P gl m L o r)
    (hout : ∀ c L', m c = some L' → owned H c → L'.blk ≠ L.blk) : SR P gl base (m.upd b L) H W := by
  have hle := Inj.le_upd (L := L) hb
  have hup : ∀ c L', m.upd b L c = some L' → (c = b ∧ L' = L) ∨ (c ≠ b ∧ m c = some L') := fun c L' hc => by
    unfold Inj.upd at hc
    split at hc
    · rename_i e; injection hc with hc; exact .inl ⟨e, hc.symm⟩
    · rename_i e; exact .inr ⟨e, hc⟩
  have hno : ∀ B', ¬ H.get b = some (.row B') := fun B' h' => by rw [hB] at h'; injection h' with h'; subst h'; cases ho
  refine { le := h.le, dom := fun c L' hc => ?_, fresh := h.fresh, es := fun c L' B' hc hB' => ?_, cell := fun c L' B' hc hB' hl' i v hi' => ?_, ro := fun c L' B' hc hB' hl' hr => ?_, rw := fun c L' B' hc hB' hl' hr => ?_,
           mp := fun c L' es hc hB' => ?_, lp := fun c L' R2 hc hB' hrec => ?_, inj := fun c c' L1 L2 h1 h2 o1 o2 hn => ?_,
           ty := fun c L' B' hc hB' h0 => by
             rcases hup c L' hc with ⟨rfl, rfl⟩ | ⟨_, h1⟩
             · exact absurd hB' (hno B')
             · exact h.ty c L' B' h1 hB' h0 }
  · rcases hup c L' hc with ⟨rfl, rfl⟩ | ⟨_, h1⟩
    · apply Nat.lt_of_not_le; intro hle'; rw [h.fresh c hle'] at hB; cases hB
    · exact h.dom c L' h1
  · rcases hup c L' hc with ⟨rfl, rfl⟩ | ⟨_, h1⟩
    · exact absurd hB' (hno B')
    · exact h.es c L' B' h1 hB'
  · rcases hup c L' hc with ⟨rfl, rfl⟩ | ⟨_, h1⟩
    · exact absurd hB' (hno B')
    · obtain ⟨x, h2, h3⟩ := h.cell c L' B' h1 hB' hl' i v hi'
      exact ⟨x, h2, h3.mono hle⟩
  · rcases hup c L' hc with ⟨rfl, rfl⟩ | ⟨_, h1⟩
    · exact absurd hB' (hno B')
    · exact h.ro c L' B' h1 hB' hl' hr
  · rcases hup c L' hc with ⟨rfl, rfl⟩ | ⟨_, h1⟩
    · exact absurd hB' (hno B')
    · exact h.rw c L' B' h1 hB' hl' hr
  · rcases hup c L' hc with ⟨rfl, rfl⟩ | ⟨_, h1⟩
    · rw [hB] at hB'; injection hB' with hB'; subst hB'; cases ho
    · obtain ⟨g1, arr', cl, g2, g3, g4⟩ := h.mp c L' es h1 hB'
      exact ⟨g1, arr', cl, g2, g3, fun i k v E a b => ⟨((g4 i k v E a b).1).mono hle, ((g4 i k v E a b).2).mono hle⟩⟩
  · rcases hup c L' hc with ⟨rfl, rfl⟩ | ⟨_, h1⟩
    · rw [hB] at hB'; injection hB' with hB'; subst hB'
      exact ⟨hbase, r, ha, hR.mono hle⟩
    · obtain ⟨g1, r2, g2, g3⟩ := h.lp c L' R2 h1 hB' hrec
      exact ⟨g1, r2, g2, g3.mono hle⟩
  · rcases hup c L1 h1 with ⟨rfl, rfl⟩ | ⟨hc1, h1'⟩ <;> rcases hup c' L2 h2 with ⟨rfl, rfl⟩ | ⟨hc2, h2'⟩
    · exact absurd rfl hn
    · exact fun e => hout c' L2 h2' o2 e.symm
    · exact hout c L1 h1' o1
    · exact h.inj c c' L1 L2 h1' h2' o1 o2 hn

/-- a block that no block of the machine lies in is written -/
theorem SR.wrOther (h : SR P gl base m H W) {W' : World} {g : Nat} {o : Obj} (hw : Wr W W' g o) (hg : base ≤ g) (ho : ∀ a t f, W.heap[g]? = some (.cells a t f) → ∃ a' f', o = .cells a' t f' ∧ a'.size = a.size) (hout : ∀ c L, m c = some L → owned H c → L.blk ≠ g) : SR P gl base m H W' := by
  have hbl : ∀ c L' B', m c = some L' → H.get c = some (.row B') → B'.live = true → B'.cells ≠ [] → L'.blk ≠ g := fun c L' B' hc hB' hl' hne => by
    cases hro : B'.ro with
    | false => exact hout c L' hc (.inl ⟨B', hB', hl', hro⟩)
    | true => have := (h.ro c L' B' hc hB' hl' hro).resolve_right hne; omega
  exact { le := by rw [hw.size]; exact h.le, dom := h.dom, fresh := h.fresh, es := h.es,
          cell := fun c L B hc hB hl i v hv => by rw [cell_block (W := W) (hw.same L.blk (hbl c L B hc hB hl (fun e => by rw [e] at hv; simp at hv)))]; exact h.cell c L B hc hB hl i v hv,
          ro := h.ro, rw := fun c L B hc hB hl hr => by rw [hw.same L.blk (hout c L hc (.inl ⟨B, hB, hl, hr⟩))]; exact h.rw c L B hc hB hl hr,
          mp := fun c L es hc hB => by rw [hw.same L.blk (hout c L hc (.inr (.inl ⟨es, hB⟩)))]; exact h.mp c L es hc hB,
          lp := fun c L R hc hB hrec => by rw [hw.same L.blk (hout c L hc (.inr (.inr ⟨R, hB, hrec⟩)))]; exact h.lp c L R hc hB hrec, inj := h.inj, ty := fun c L B hc hB h0 => (h.ty c L B hc hB h0).wr hw ho }

theorem src_bytes (s : ByteArray) (k : Nat) (hk : k ≤ s.size) : ((s.extract 0 k).data.map fun b => Value.int .u8 (b.toNat : Int)).toList = (s.data.toList.map fun b => Value.int .u8 (b.toNat : Int)).take k := by
  rw [ByteArray.data_extract]
  simp [List.extract_eq_take_drop, List.map_take]
theorem srcCells_sim (h : SR P gl base m H W) {es n : Nat} {x : AV} {cs : List AV} {c : Value} (hx : VR m x c) (hs : srcCells H es x = some (n, cs)) :
    ∃ cs' : List Value, (∀ W2, (Builtin.lenOf c).run P W2 = .ok n W2) ∧ cs'.length = n * es ∧ LR m cs cs' ∧ ∀ k, k ≤ n → ∀ W2 : World, (∀ a, W2.cell? a = W.cell? a) → (Builtin.firstCells es k c).run P W2 = .ok (cs'.take (k * es)).toArray W2 := by
  unfold srcCells at hs
  split at hs
  · injection hs with hs; injection hs with h1 h2; subst h1; subst h2
    cases hx
    exact ⟨[], fun _ => rfl, by simp, LR.nil m, fun k hk W2 _ => by simp [Builtin.firstCells]⟩
  · rename_i l
    split at hs
    · rename_i he
      subst he
      injection hs with hs; injection hs with h1 h2; subst h1; subst h2
      obtain ⟨s, rfl, hsl⟩ := str_inv hx
      have hsz := size_of hsl
      refine ⟨s.data.toList.map fun b => Value.int .u8 (b.toNat : Int), fun _ => by simp [Builtin.lenOf, hsz], by simp [hsl], ?_, fun k hk W2 _ => ?_⟩
      · subst hsl
        refine ⟨by simp [ofBytes], fun i v v' a b => ?_⟩
        simp only [ofBytes, List.getElem?_map, Option.map_eq_some_iff] at a b
        obtain ⟨b1, hb1, rfl⟩ := a
        obtain ⟨b2, hb2, rfl⟩ := b
        rw [hb1] at hb2; injection hb2 with hb2; subst hb2
        exact .int _ _
      · have := src_bytes s k (by omega)
        rw [Nat.mul_one]
        simp [Builtin.firstCells]
        apply Array.ext'
        simp [List.extract_eq_take_drop, List.map_take]
    · cases hs
  · rename_i b o len q
    obtain ⟨L, a, cap', h1, h2, h3, h4, h5⟩ := slc_inv hx
    subst h2
    split at hs
    · rename_i h0
      subst h0
      injection hs with hs; injection hs with h1 h2; subst h1; subst h2
      refine ⟨[], fun _ => rfl, by simp, LR.nil m, fun k hk W2 _ => ?_⟩
      obtain rfl : k = 0 := by omega
      simp [Builtin.firstCells, loadCells, loadCellsFrom]
    · rename_i h0
      split at hs
      · rename_i B hB
        split at hs
        · rename_i cs0 hcs
          injection hs with hs; injection hs with g1 g2; subst g1; subst g2
          obtain ⟨cs', k1, k2, k3⟩ := loads P h h1 hB hcs
          have hcc : 0 < cap' := by rcases h4 with h4 | h4 <;> omega
          have ha := h5 hcc
          have hl : cs'.length = len * es := by rw [← k2.1, (cut_some hcs).2.1]
          refine ⟨cs', fun _ => rfl, hl, k2, fun k hk W2 hW => ?_⟩
          have hke : (cs'.take (k * es)).length = k * es := by
            rw [List.length_take, hl]
            have : k * es ≤ len * es := Nat.mul_le_mul_right _ hk
            omega
          have := run_loadCells_list (P := P) W2 a (cs'.take (k * es)) (fun j v hj => by
            rw [hW, ha, addr_add]
            have hj2 : j < k * es := by have := (List.getElem?_eq_some_iff.1 hj).1; omega
            rw [List.getElem?_take_of_lt hj2] at hj
            exact k3 j v hj)
          rw [hke] at this
          simpa [Builtin.firstCells] using this
        · cases hs
      · cases hs
  · cases hs

theorem below_push2 {W2 : World} (hle : base ≤ W.heap.size) {o : Obj} (hh : W2.heap = W.heap.push o) (h1 : W2.os = W.os) (h2 : W2.tape = W.tape) (h3 : W2.output = W.output) : BK base W W2 := below_push hle hh h1 h2 h3
theorem zeroCells_size (z : Array Value) (n : Nat) : (Builtin.zeroCells z n).size = n * z.size := by simp [Builtin.zeroCells]
/-- the pieces of an append that makes a new array -/
theorem grow_place (h : SR P gl base m H W) {W2 : World} {cs : List AV} {es n cap' : Nat} {arr : Array Value} {el : TypeId} (hh : W2.heap = W.heap.push (.cells arr el (0, 0))) (hes : 0 < es) (hcs : cs.length = n * es)
    (hl : LR m cs (arr.toList.take cs.length)) (hsz : arr.size = cap' * es) (hcap : n ≤ cap') (hos : W2.os = W.os) (htp : W2.tape = W.tape) (hou : W2.output = W.output) (t : Nat) (hty : t = 0 ∨ el = t) :
    ∃ m', Post P gl base m H W m' (H.alloc (.row { cells := cs, es := es, ty := t })) W2 ∧ VR m' (.slc H.next 0 n n) (.slice (some ⟨W.heap.size, 0, none⟩) n cap') := by
  have hb : m H.next = none := by
    cases hm : m H.next with
    | none => rfl
    | some L => exact absurd (h.dom _ _ hm) (Nat.lt_irrefl _)
  have hx := h.ext (.row { cells := cs, es := es, ty := t })
  have hB : (H.alloc (.row { cells := cs, es := es, ty := t })).get H.next = some (.row { cells := cs, es := es, ty := t }) := by rw [AHeap.get_alloc, if_pos rfl]
  refine ⟨m.upd H.next ⟨W.heap.size, 0, arr.size, es⟩, ⟨Inj.le_upd hb, push_place (B := { cells := cs, es := es, ty := t }) hx hty hB hb rfl hl ?_ (FzOk.zero _) hh, below_push h.le hh hos htp hou, by rw [AHeap.next_alloc]; omega, fun b hlt hm => ?_⟩, ?_⟩
  · simp only [hcs, hsz]; exact Nat.mul_le_mul_right _ hcap
  · refine ⟨?_, by rw [AHeap.get_alloc, if_neg (by omega)]⟩
    unfold Inj.upd; rw [if_neg (by omega)]; exact hm
  · refine .slc (Inj.upd_same _ _ _) (Nat.le_refl _) ?_ (fun _ => by simp)
    by_cases he : n = cap'
    · exact .inl he
    · exact .inr ⟨by omega, hes, by simp [hsz]⟩
end Go.Proofs.YtdkpmlhbofgfdaaGreatDoor.AM
namespace Go.Proofs.YtdkpmlhbofgfdaaGreatDoor.AM
open Go Go.RowKit

variable {base : Nat} {m : Inj} {H : AHeap} {W : World} {P : Program} {gl : List Nat} {e : Env} {ρ : Operand → Value}

theorem Post.kill {m' : Inj} {H' : AHeap} {W' : World} {b : Nat} {B : Blk} {L : Loc} (hb : m b = some L) (hB : H.get b = some (.row B)) (h : Post P gl base m (H.set b (.row { B with live := false })) W m' H' W') : Post P gl base m H W m' H' W' :=
  ⟨h.le, h.sr, h.below, h.next, fun c hc hm => by
    obtain ⟨h1, h2⟩ := h.rest c hc hm
    exact ⟨h1, by rw [h2, AHeap.get_set_ne]; intro e; subst e; rw [hb] at hm; cases hm⟩⟩
set_option maxHeartbeats 1000000 in
theorem append_sim (h : SR P gl base m H W) {es bytes n : Nat} {s v : AV} {new : List AV} {sc xc : Value} {H' : AHeap} {t0 t1 ty el : TypeId} {ts : Array TypeId} {U1 : TypeDesc} {inf : TypeInfo} {zv : Value} {new' : List Value}
    (ht0 : ts[0]? = some t0) (ht1 : ts[1]? = some t1) (hU : P.underlying t0 = some (.slice el)) (hU1 : P.underlying t1 = some U1) (hnz : ∀ k, U1 ≠ .int k) (hi : P.info? el = some inf) (hsz : inf.size = es) (hby : inf.bytes = bytes) (hzv : inf.zero = some zv) (hzs : zv.cells.size = es)
    (hes : es ≠ 0) (hbn : bytes ≠ 0) (hone : new.all AV.one = true)
    (hs : VR m s sc) (hlen : ∀ W2, (Builtin.lenOf xc).run P W2 = .ok n W2) (hnl : new'.length = n * es) (hnew : LR m new new') (hfc : ∀ W2 : World, (∀ a, W2.cell? a = W.cell? a) → (Builtin.firstCells es n xc).run P W2 = .ok new'.toArray W2)
    {ty0 : Nat} (hty0 : ty0 = 0 ∨ el = ty0) (hr : appendA ty0 H es bytes s n new = some (v, H')) :
    ∃ c W' m', (Builtin.append_ ts ty #[sc, xc]).run P W = .ok c W' ∧ Post P gl base m H W m' H' W' ∧ VR m' v c := by
  have hmatch : (match U1 with | .int _ => true | _ => false) = false := by cases U1 <;> first | rfl | exact absurd rfl (hnz _)
  have hnewlen : new.length = n * es := by rw [hnew.1, hnl]
  -- a new array, whatever was there
  have grow : ∀ (tt : Nat), tt = 0 ∨ el = tt → ∀ (H0 : AHeap) (base0 : Option Addr) (sLen sCap : Nat) (old : List AV) (old' : List Value), SR P gl base m H0 W → sc = .slice base0 sLen sCap → old.length = sLen * es → LR m old old' →
      ((Builtin.firstCells es sLen sc).run P W.drew = .ok old'.toArray W.drew) → sCap < sLen + n → (sLen + n) * bytes ≤ 70368744177664 → sLen + n ≤ 70368744177664 →
      ∃ c W' m', (Builtin.append_ ts ty #[sc, xc]).run P W = .ok c W' ∧ Post P gl base m H0 W m' (H0.alloc (.row { cells := old ++ new, es := es, ty := tt })) W' ∧ VR m' (.slc H0.next 0 (sLen + n) (sLen + n)) c := by
    intro tt htt H0 base0 sLen sCap old old' hsr hsc hol hold hfo hgt hb1 hb2
    generalize hq : (Question.appendCap (sLen + n) sCap el).cut (W.tape W.drawn (.appendCap (sLen + n) sCap el)) = cap'
    have hcap : sLen + n ≤ cap' := by rw [← hq]; simp only [Question.cut]; omega
    have hfit := growslice_fits (need := sLen + n) (old := sCap) (bytes := bytes) hgt (by omega)
    let arr : Array Value := old'.toArray ++ new'.toArray ++ Builtin.zeroCells zv.cells (cap' - (sLen + n))
    have hol' : old'.length = sLen * es := by rw [← hold.1, hol]
    have harr : arr.size = cap' * es := by
      simp only [arr, Array.size_append, List.size_toArray, zeroCells_size, hzs, hol', hnl]
      rw [← Nat.add_mul, ← Nat.add_mul]
      congr 1; omega
    have hcl : (old ++ new).length = (sLen + n) * es := by rw [List.length_append, hol, hnewlen, Nat.add_mul]
    obtain ⟨m', hp, hv⟩ := grow_place (H := H0) (W2 := W.drew.alloc (.cells arr el)) (cs := old ++ new) (es := es) (n := sLen + n) (cap' := cap') (arr := arr) (el := el) hsr rfl (by omega) hcl (by
      have e1 : arr.toList.take (old ++ new).length = old' ++ new' := by
        rw [hcl]
        simp only [arr, Array.toList_append]
        rw [List.take_append_of_le_length (by simp [hol', hnl, Nat.add_mul])]
        rw [List.take_of_length_le (by simp [hol', hnl, Nat.add_mul])]
      rw [e1]
      exact hold.append hnew) harr hcap rfl rfl rfl tt htt
    refine ⟨_, _, m', ?_, hp, hv⟩
    have c1 : ¬ (sLen + n ≤ sCap) := by omega
    have c2 : ¬ (((sLen + n : Nat) : Int) > IntKind.i64.max ∧ (False ∨ inf.bytes = 0)) := by rw [hby]; simp [hbn]
    have c3 : ¬ (Builtin.nextslicecap (sLen + n) sCap * inf.bytes > 2 ^ 48) := by rw [hby]; omega
    subst hsc
    simp only [Builtin.append_, List.getElem?_toArray, ht0, Sem.run_bind, run_underlying hU, Result.andThen_ok, run_sizeOf hi, hsz, Sem.run_pure, ht1, run_underlying hU1, Bool.false_eq_true, if_false, hlen, hmatch,
      List.getElem?_cons_zero, List.getElem?_cons_succ]
    have hti : ∀ W2 : World, (typeInfo el).run P W2 = .ok inf W2 := fun W2 => by simp [typeInfo, hi]
    have hfn := hfc W.drew (fun a => rfl)
    have hz2 : ∀ W2 : World, (zeroValue el).run P W2 = .ok zv W2 := fun W2 => run_zero hi hzv
    simp only [if_neg c1, if_neg c2, if_neg c3, Sem.run_bind, hti, Result.andThen_ok, run_choose, Question.forced, Bool.false_eq_true, if_false, hq, World.drew_eq, run_askRoom, hfo, Bool.not_false, if_true, hfn, hz2, newRow, run_newObj, Sem.run_pure, World.alloc_eq]
    rfl
  unfold appendA at hr
  split at hr
  · -- nil
    cases hs
    split at hr
    · rename_i h0
      subst h0
      injection hr with hr; injection hr with hr1 hr2; subst hr1; subst hr2
      have hn0 : new' = [] := List.length_eq_zero_iff.1 (by simpa using hnl)
      subst hn0
      refine ⟨.slice none 0 0, W, m, ?_, Post.refl h, .nils⟩
      simp only [Builtin.append_, List.getElem?_toArray, ht0, Sem.run_bind, run_underlying hU, Result.andThen_ok, run_sizeOf hi, hsz, Sem.run_pure, ht1, run_underlying hU1, Bool.false_eq_true, if_false, hlen, hmatch,
        List.getElem?_cons_zero, List.getElem?_cons_succ, Nat.le_refl, Nat.add_zero, if_true, Bool.not_false, hfc W (fun _ => rfl)]
    · rename_i h0
      split at hr
      · rename_i hb
        injection hr with hr; injection hr with hr1 hr2; subst hr1; subst hr2
        obtain ⟨c, W', m', h1, h2, h3⟩ := grow ty0 hty0 H none 0 0 [] [] h rfl (by simp) (LR.nil m) (by simp [Builtin.firstCells]) (by omega) (by rw [Nat.zero_add]; exact hb.1) (by omega)
        rw [Nat.zero_add] at h3
        exact ⟨c, W', m', h1, h2, h3⟩
      · cases hr
  · rename_i b o len cap
    obtain ⟨L, a, cap', g1, g2, g3, g4, g5⟩ := slc_inv hs
    subst g2
    split at hr
    · -- it fits
      rename_i hfit
      have hcc : cap ≤ cap' := by rcases g4 with g4 | g4 <;> omega
      split at hr
      · rename_i h0
        subst h0
        injection hr with hr; injection hr with hr1 hr2; subst hr1; subst hr2
        have hn0 : new' = [] := List.length_eq_zero_iff.1 (by simpa using hnl)
        subst hn0
        refine ⟨.slice (some a) len cap', W, m, ?_, Post.refl h, hs⟩
        have c1 : len ≤ cap' := by omega
        simp only [Builtin.append_, List.getElem?_toArray, ht0, Sem.run_bind, run_underlying hU, Result.andThen_ok, run_sizeOf hi, hsz, Sem.run_pure, ht1, run_underlying hU1, Bool.false_eq_true, if_false, hlen, hmatch,
          List.getElem?_cons_zero, List.getElem?_cons_succ, Nat.add_zero, if_pos c1, if_true, Bool.not_false, hfc W (fun _ => rfl)]
        rfl
      · rename_i h0
        split at hr
        · rename_i H2 hst
          injection hr with hr; injection hr with hr1 hr2; subst hr1; subst hr2
          have hpos : 0 < cap' := by omega
          have ha := g5 hpos
          obtain ⟨W', k1, k2, k3, k4, k5⟩ := h.store P g1 hst hnew
          refine ⟨.slice (some a) (len + n) cap', W', m, ?_, ⟨Inj.le_refl _, k2, k3, by omega, fun c hc hm => ⟨hm, k5 c (fun e => by subst e; rw [g1] at hm; cases hm)⟩⟩, .slc g1 hfit g4 g5⟩
          have c1 : len + n ≤ cap' := by omega
          have k1' : (storeCells (a.add (len * es)) new').run P W = .ok () W' := by rw [ha, addr_add, Nat.add_assoc]; exact k1
          simp only [Builtin.append_, List.getElem?_toArray, ht0, Sem.run_bind, run_underlying hU, Result.andThen_ok, run_sizeOf hi, hsz, Sem.run_pure, ht1, run_underlying hU1, Bool.false_eq_true, if_false, hlen, hmatch,
            List.getElem?_cons_zero, List.getElem?_cons_succ, if_pos c1, if_true, Bool.not_false, hfc W (fun _ => rfl), k1']
        · cases hr
    · rename_i hnf
      split at hr
      · cases hr
      · rename_i hbd
        have hbd := Classical.not_not.1 hbd
        split at hr
        · cases hr
        · rename_i B hB
          split at hr
          · cases hr
          · rename_i old hold
            obtain ⟨b1, b2⟩ := row_inv hB
            obtain ⟨old', k1, k2, k3⟩ := loads P h g1 hB hold
            have hol : old.length = len * es := (cut_some hold).2.1
            have hol' : old'.length = len * es := by rw [← k2.1, hol]
            have hfo : (Builtin.firstCells es len (.slice (some a) len cap')).run P W.drew = .ok old'.toArray W.drew := by
              by_cases hl0 : len = 0
              · subst hl0
                have : old' = [] := List.length_eq_zero_iff.1 (by simpa using hol')
                subst this
                simp [Builtin.firstCells, loadCells, loadCellsFrom]
              · have hpos : 0 < cap' := by rcases g4 with g4 | g4 <;> omega
                have ha := g5 hpos
                have := run_loadCells_list (P := P) W.drew a old' (fun j v hj => by rw [ha, addr_add]; exact k3 j v hj)
                rw [hol'] at this
                simpa [Builtin.firstCells] using this
            split at hr
            · -- never grown: a new array
              rename_i he0
              injection hr with hr; injection hr with hr1 hr2; subst hr1; subst hr2
              have hcc : cap = cap' := by
                rcases g4 with g4 | g4
                · exact g4
                · have := h.es b L B g1 b1; omega
              exact grow ty0 hty0 H (some a) len cap' old old' h rfl hol k2 hfo (by omega) hbd.1 hbd.2
            · split at hr
              · rename_i he1
                obtain ⟨he1, hro⟩ := he1
                injection hr with hr; injection hr with hr1 hr2; subst hr1; subst hr2
                have hk := h.kill b1
                have htt : (if o = 0 ∧ B.ty = ty0 then ty0 else 0) = 0 ∨ el = (if o = 0 ∧ B.ty = ty0 then ty0 else 0) := by
                  split
                  · exact hty0
                  · exact .inl rfl
                by_cases hroom : cap' < len + n
                · obtain ⟨c, W', m', h1, h2, h3⟩ := grow (if o = 0 ∧ B.ty = ty0 then ty0 else 0) htt _ (some a) len cap' old old' hk rfl hol k2 hfo hroom hbd.1 hbd.2
                  exact ⟨c, W', m', h1, h2.kill g1 b1, h3⟩
                · -- in place, behind what the machine knew
                  have hcl : cap < cap' ∧ 0 < L.es ∧ o + cap' * L.es ≤ L.room := by
                    rcases g4 with g4 | g4
                    · omega
                    · exact g4
                  obtain ⟨q1, q2, q3⟩ := hcl
                  have hLes := h.es b L B g1 b1
                  rw [hLes, he1] at q3
                  have ha := g5 (by omega)
                  obtain ⟨hbase, arr, elm, lo, hi', harr, hrm, hlen2, hfz⟩ := h.rw b L B g1 b1 b2 hro
                  have hle2 : (len + n) * es ≤ cap' * es := Nat.mul_le_mul_right _ (by omega)
                  rw [Nat.add_mul] at hle2
                  obtain ⟨W', arr', s1, s2, s3, s4⟩ := run_stores P L.blk (L.off + o + len * es) elm lo hi' new' 0 arr W harr hfz.2 (by omega) (fun v hv => by
                    obtain ⟨i, hi'', e⟩ := List.mem_iff_getElem.1 hv
                    have hi2 : i < new.length := by rw [hnewlen]; omega
                    have := hnew.2 i new[i] v (by simp [hi2]) (by rw [← e]; simp)
                    exact this.one (by simp at hone; exact hone _ (List.getElem_mem hi2)))
                  let L2 : Loc := ⟨L.blk, L.off + o, L.room - o, es⟩
                  let H1 := H.set b (.row { B with live := false })
                  let B2 : Blk := { cells := old ++ new, es := es, ty := if o = 0 ∧ B.ty = ty0 then ty0 else 0 }
                  have hm : m H.next = none := by
                    cases hm : m H.next with
                    | none => rfl
                    | some L => exact absurd (h.dom _ _ hm) (Nat.lt_irrefl _)
                  have hout : ∀ c L', m c = some L' → owned H1 c → L'.blk ≠ L.blk := by
                    intro c L' hc ho
                    have hcb : c ≠ b := by
                      intro e; subst e
                      rcases ho with ⟨B', x1, x2, _⟩ | ⟨es', x1⟩ | ⟨R', x1, x3⟩
                      · rw [AHeap.get_set_same] at x1; injection x1 with x1; injection x1 with x1; subst x1; cases x2
                      · rw [AHeap.get_set_same] at x1; cases x1
                      · rw [AHeap.get_set_same] at x1; injection x1 with x1; subst x1; cases x3
                    have ho' : owned H c := by
                      unfold owned at ho; rw [AHeap.get_set_ne _ _ _ _ hcb] at ho; exact ho
                    exact h.inj c b L' L hc g1 ho' (.inl ⟨B, b1, b2, hro⟩) hcb
                  have sr1 : SR P gl base m H1 W' := hk.wrOther s2 hbase (cells_obj harr s3) hout
                  have sr2 : SR P gl base m (H1.alloc (.row B2)) W' := sr1.ext _
                  have hB2 : (H1.alloc (.row B2)).get H.next = some (.row B2) := by rw [AHeap.get_alloc]; exact if_pos rfl
                  have hb2len : B2.cells.length = (len + n) * es := by simp only [B2, List.length_append, hol, hnewlen, Nat.add_mul]
                  have sr3 : SR P gl base (m.upd H.next L2) (H1.alloc (.row B2)) W' := by
                    refine sr2.place (L := L2) (fun h0 => ?ty) hm hB2 rfl rfl hbase (arr := arr') (el := elm) (lo := lo) (hi := hi') s2.at_ (by simp only [L2]; rw [s3]; omega) (by rw [hb2len]; simp only [L2]; rw [Nat.add_mul]; omega) ⟨hfz.1, fun i hi2 => hfz.2 i (by rw [← s3]; exact hi2)⟩ (fun i v hv => ?_) (fun c L' hc ho => ?_)
                    case ty =>
                      simp only [B2] at h0 ⊢
                      split at h0
                      · rename_i hc0
                        rw [if_pos hc0]
                        obtain ⟨t1, a1, f1, t2, t3⟩ := h.ty b L B g1 b1 (by rw [hc0.2]; exact h0)
                        rw [harr] at t2; injection t2 with t2; injection t2 with t4 t5 t6
                        refine ⟨by simp only [L2]; omega, arr', (lo, hi'), by simp only [L2]; rw [← hc0.2, ← t5]; exact s2.at_, ?_⟩
                        have : (old ++ new).length = (len + n) * es := hb2len
                        rw [this, Nat.add_mul]; omega
                      · exact absurd rfl h0
                    · simp only [B2] at hv
                      have hi2 : i < (old ++ new).length := (List.getElem?_eq_some_iff.1 hv).1
                      obtain ⟨cv, z1, z2⟩ := (k2.append hnew).get hv
                      refine ⟨cv, ?_, z2⟩
                      simp only [L2]
                      rw [s4]
                      by_cases hio : i < len * es
                      · rw [if_neg (by omega)]
                        rw [List.getElem?_append_left (by omega)] at z1
                        have := k3 i cv z1
                        rw [cell_of W L.blk _ arr elm _ harr] at this
                        exact this
                      · rw [List.getElem?_append_right (by omega)] at z1
                        have hlt : i - old'.length < new'.length := (List.getElem?_eq_some_iff.1 z1).1
                        rw [if_pos (by omega), ← z1]
                        congr 1; omega
                    · refine hout c L' hc ?_
                      have hcn : c ≠ H.next := by intro e; subst e; rw [hm] at hc; cases hc
                      unfold owned at ho ⊢
                      rw [AHeap.get_alloc, if_neg (show ¬ c = H1.next from hcn)] at ho
                      exact ho
                  refine ⟨.slice (some a) (len + n) cap', W', m.upd H.next L2, ?_, ⟨Inj.le_upd hm, sr3, s2.bkc hbase harr, ?_, fun c hc hmc => ?_⟩, ?_⟩
                  · have c1 : len + n ≤ cap' := by omega
                    have k1' : (storeCells (a.add (len * es)) new').run P W = .ok () W' := by rw [ha, addr_add]; exact s1
                    simp only [Builtin.append_, List.getElem?_toArray, ht0, Sem.run_bind, run_underlying hU, Result.andThen_ok, run_sizeOf hi, hsz, Sem.run_pure, ht1, run_underlying hU1, Bool.false_eq_true, if_false, hlen, hmatch,
                      List.getElem?_cons_zero, List.getElem?_cons_succ, if_pos c1, if_true, Bool.not_false, hfc W (fun _ => rfl), k1']
                  · show H.next ≤ H.next + 1; omega
                  · have hcn : c ≠ H.next := by omega
                    have hcb : c ≠ b := by intro e; subst e; rw [g1] at hmc; cases hmc
                    refine ⟨by unfold Inj.upd; rw [if_neg hcn]; exact hmc, ?_⟩
                    rw [AHeap.get_alloc, if_neg (show ¬ c = (H.set b (.row { B with live := false })).next from hcn), AHeap.get_set_ne _ _ _ _ hcb]
                  · refine .slc (Inj.upd_same _ _ _) (Nat.le_refl _) ?_ (fun _ => by simp only [L2]; rw [ha]; rfl)
                    by_cases hce : len + n = cap'
                    · exact .inl hce
                    · refine .inr ⟨by omega, by simp only [L2]; omega, by simp only [L2]; omega⟩
              · cases hr
  · cases hr
end Go.Proofs.YtdkpmlhbofgfdaaGreatDoor.AM
namespace Go.Proofs.YtdkpmlhbofgfdaaGreatDoor.AM
open Go Go.RowKit

variable {base : Nat} {m : Inj} {H : AHeap} {W : World} {P : Program} {gl : List Nat} {e : Env} {ρ : Operand → Value}

theorem eI {a : AOp} {r : EOp} (h : (pure a : Option AOp) = some (.e r)) : a = .e r := by injection h
/-- what an operation that writes does -/
def EGoal (P : Program) (base : Nat) (m : Inj) (H : AHeap) (W : World) (v : AV) (H' : AHeap) (s : Sem Next) : Prop :=
  ∃ c W' m', (s.run P W = .ok (.value c) W' ∨ (s.run P W = .ok .skip W' ∧ c = undef)) ∧ Post P gl base m H W m' H' W' ∧ VR m' v c

theorem sim_store {t : TypeId} {A X : Operand} {a x : Opd} {n : Nat} {v : AV} {H' : AHeap} {cl : CallH} (h : SR P gl base m H W) (ha : copd gl A = some a) (hx : copd gl X = some x) (hA : OpR gl m e ρ A) (hX : OpR gl m e ρ X) (hn : sizeT P t = some n)
    (hr : (EOp.store n a x).run cl H e = some (v, H')) : ∃ W' m', (Instr.storeAt t (ρ A) (ρ X)).run P W = .ok () W' ∧ Post P gl base m H W m' H' W' ∧ v = .undef := by
  simp only [EOp.run] at hr
  split at hr
  · rename_i b o hae
    split at hr
    · rename_i hl
      split at hr
      · rename_i H2 hst
        injection hr with hr; injection hr with hr1 hr2; subst hr1; subst hr2
        have hav := hA a ha
        rw [hae] at hav
        obtain ⟨L, h1, h2⟩ := ptr_inv hav
        have hxv := hX x hx
        obtain ⟨W', k1, k2, k3, k4, k5⟩ := h.store P h1 hst hxv.cells
        obtain ⟨inf, hin, hsz⟩ := size_inv hn
        refine ⟨W', m, ?_, ⟨Inj.le_refl _, k2, k3, by omega, fun c hc hm => ⟨hm, k5 c (fun e => by subst e; rw [h1] at hm; cases hm)⟩⟩, rfl⟩
        rw [h2]
        have hs : (ρ X).cells.size = inf.size := by rw [hsz, ← hl]; exact (cells_len hxv).symm
        simp only [Instr.storeAt, Instr.sureAddr, Sem.run_bind, Sem.run_pure, Result.andThen_ok, storeVar, run_sizeOf hin, hs, ne_eq, not_true_eq_false, if_false]
        exact k1
      · cases hr
    · cases hr
  · cases hr
def srcLike : AV → Bool
  | .nils | .str _ | .slc _ _ _ _ => true
  | _ => false
theorem first_zero (P : Program) (W : World) (es : Nat) {x : AV} {c : Value} (hx : VR m x c) (hk : srcLike x = true) : (∃ n, (Builtin.lenOf c).run P W = .ok n W) ∧ (Builtin.firstCells es 0 c).run P W = .ok #[] W := by
  cases x <;> simp only [srcLike, reduceCtorEq] at hk
  · obtain ⟨s, rfl, _⟩ := str_inv hx
    exact ⟨⟨s.size, by simp [Builtin.lenOf]⟩, by simp [Builtin.firstCells]⟩
  · cases hx
    exact ⟨⟨0, rfl⟩, rfl⟩
  · obtain ⟨L, a, cap', g1, g2, g3, g4, g5⟩ := slc_inv hx
    rw [g2]
    exact ⟨⟨_, rfl⟩, by simp [Builtin.firstCells, loadCells, loadCellsFrom]⟩
theorem sim_copy {ts : Array TypeId} {t0 ty el : TypeId} {D S : Operand} {d s : Opd} {es : Nat} {v : AV} {H' : AHeap} {cl : CallH} (h : SR P gl base m H W) (hd : copd gl D = some d) (hs : copd gl S = some s) (hD : OpR gl m e ρ D) (hS : OpR gl m e ρ S)
    (ht0 : ts[0]? = some t0) (hU : P.underlying t0 = some (.slice el)) (hn : sizeT P el = some es) (hr : (EOp.copy es d s).run cl H e = some (v, H')) :
    ∃ c W' m', (Builtin.copy_ ts ty #[ρ D, ρ S]).run P W = .ok c W' ∧ Post P gl base m H W m' H' W' ∧ VR m' v c := by
  obtain ⟨inf, hin, hsz⟩ := size_inv hn
  simp only [EOp.run] at hr
  have hdv := hD d hd
  have hsv := hS s hs
  have common : ∀ (bs : Option Addr) (dl dc n : Nat) (cells : List Value), (Builtin.lenOf (ρ S)).run P W = .ok n W → (Builtin.firstCells es (Nat.min n dl) (ρ S)).run P W = .ok cells.toArray W → ∀ W', (match bs with | some a => (storeCells a cells).run P W = .ok () W' | none => W' = W) →
      (Builtin.copy_ ts ty #[.slice bs dl dc, ρ S]).run P W = .ok (goInt (Nat.min n dl : Nat)) W' := by
    intro bs dl dc n cells h1 h2 W' h3
    cases bs with
    | none => simp only at h3; subst h3; simp only [Builtin.copy_, List.getElem?_toArray, ht0, List.getElem?_cons_zero, List.getElem?_cons_succ, Sem.run_bind, run_underlying hU, Result.andThen_ok, h1, run_sizeOf hin, hsz, h2, Sem.run_pure]
    | some a => simp only at h3; simp only [Builtin.copy_, List.getElem?_toArray, ht0, List.getElem?_cons_zero, List.getElem?_cons_succ, Sem.run_bind, run_underlying hU, Result.andThen_ok, h1, run_sizeOf hin, hsz, h2, Sem.run_pure, h3]
  split at hr
  · rename_i hde
    rw [hde] at hdv
    generalize ρ D = dv at hdv
    cases hdv
    have hk : srcLike (s.ev e) = true ∧ v = .int .i64 0 ∧ H' = H := by
      generalize s.ev e = q at hr
      cases q <;> first | (injection hr with hr; injection hr with hr1 hr2; exact ⟨rfl, hr1.symm, hr2.symm⟩) | cases hr
    obtain ⟨hk1, rfl, rfl⟩ := hk
    obtain ⟨⟨n, h1⟩, h2⟩ := first_zero P W es hsv hk1
    refine ⟨goInt (Nat.min n 0 : Nat), W, m, common none 0 0 n [] h1 (by rw [show Nat.min n 0 = 0 from Nat.min_zero n]; exact h2) W rfl, Post.refl h, ?_⟩
    rw [show Nat.min n 0 = 0 from Nat.min_zero n]
    exact .int _ _
  · rename_i b o len cap hde
    rw [hde] at hdv
    obtain ⟨L, a, cap', g1, g2, g3, g4, g5⟩ := slc_inv hdv
    rw [g2]
    split at hr
    · rename_i n cs hsc
      obtain ⟨cs', k1, k2, k3, k4⟩ := srcCells_sim (P := P) h hsv hsc
      have hmin : Nat.min n len = min n len := rfl
      split at hr
      · rename_i h0
        injection hr with hr; injection hr with hr1 hr2; subst hr1; subst hr2
        refine ⟨goInt (Nat.min n len : Nat), W, m, common (some a) len cap' n [] (k1 W) (by have := k4 0 (Nat.zero_le _) W (fun _ => rfl); rw [hmin, h0]; simpa using this) W rfl, Post.refl h, ?_⟩
        rw [hmin, h0]; exact .int _ _
      · rename_i h0
        split at hr
        · rename_i H2 hst
          injection hr with hr; injection hr with hr1 hr2; subst hr1; subst hr2
          obtain ⟨W', q1, q2, q3, q4, q5⟩ := h.store P g1 hst (k3.take (min n len * es))
          have hpos : 0 < cap' := by rcases g4 with g4 | g4 <;> omega
          refine ⟨goInt (Nat.min n len : Nat), W', m, common (some a) len cap' n _ (k1 W) (k4 (min n len) (Nat.min_le_left _ _) W (fun _ => rfl)) W' (by rw [g5 hpos]; exact q1), ⟨Inj.le_refl _, q2, q3, by omega, fun c hc hm => ⟨hm, q5 c (fun e => by subst e; rw [g1] at hm; cases hm)⟩⟩, ?_⟩
          rw [hmin]; exact .int _ _
        · cases hr
    · cases hr
  · cases hr
theorem wr_setObj {r : Nat} {arr arr' : Array MapEntry} {cl cl' : Nat} (h : W.heap[r]? = some (.map arr cl)) :
    ∃ W', (setObj r (.map arr' cl')).run P W = .ok () W' ∧ Wr W W' r (.map arr' cl') := by
  have hlt : r < W.heap.size := (Array.getElem?_eq_some_iff.1 h).1
  refine ⟨{ W with heap := W.heap.setIfInBounds r (.map arr' cl') }, by simp [setObj, Sem.run, h], ⟨rfl, rfl, rfl, by simp, fun k hk => ?_, by simp [hlt]⟩⟩
  exact Array.getElem?_setIfInBounds_ne (by omega)
theorem sim_clear {ts : Array TypeId} {t0 ty : TypeId} {U : TypeDesc} {S : Operand} {s : Opd} {z : List AV} {v : AV} {H' : AHeap} {cl : CallH} (h : SR P gl base m H W) (hs : copd gl S = some s) (hS : OpR gl m e ρ S)
    (ht0 : ts[0]? = some t0) (hU : P.underlying t0 = some U) (hz : (∃ el, U = .slice el ∧ zeroT P el = some z) ∨ z = []) (hr : (EOp.clear z s).run cl H e = some (v, H')) :
    ∃ c W' m', (Builtin.clear_ ts ty #[ρ S]).run P W = .ok c W' ∧ Post P gl base m H W m' H' W' ∧ VR m' v c := by
  simp only [EOp.run] at hr
  have hsv := hS s hs
  split at hr
  · rename_i hse; rw [hse] at hsv; injection hr with hr; injection hr with hr1 hr2; subst hr1; subst hr2
    generalize ρ S = c at hsv; cases hsv
    exact ⟨.tuple #[], W, m, by simp [Builtin.clear_, ht0, run_underlying hU], Post.refl h, VR.undef m⟩
  · rename_i hse; rw [hse] at hsv; injection hr with hr; injection hr with hr1 hr2; subst hr1; subst hr2
    generalize ρ S = c at hsv; cases hsv
    exact ⟨.tuple #[], W, m, by simp [Builtin.clear_, ht0, run_underlying hU], Post.refl h, VR.undef m⟩
  · rename_i b hse
    rw [hse] at hsv
    split at hr
    · rename_i es hes
      injection hr with hr; injection hr with hr1 hr2; subst hr1; subst hr2
      generalize ρ S = c at hsv
      cases hsv with
      | map hb =>
        obtain ⟨hbase, arr, clk, h1, h2, h3⟩ := h.mp _ _ _ hb hes
        obtain ⟨W', k1, k2⟩ := wr_setObj (P := P) (arr' := #[]) (cl' := clk) h1
        refine ⟨.tuple #[], W', m, ?_, ⟨Inj.le_refl _, h.writeMap hb hes k2 [] rfl (fun i k v E a b => by simp at a), k2.bkm hbase h1, Nat.le_refl _, fun c hc hm => ⟨hm, AHeap.get_set_ne _ _ _ _ (fun e => by subst e; rw [hb] at hm; cases hm)⟩⟩, VR.undef m⟩
        have hg : ∀ r, (getObj r).run P W = (match W.heap[r]? with | some (.cells _ _ _) => .halt (.stuck "getObj: a row of cells") W | some o => .ok o W | none => .halt (.stuck "getObj: no such block") W) := by
          intro r; simp only [getObj, Sem.run]; rfl
        cases U <;> simp [Builtin.clear_, ht0, run_underlying hU, hg, h1, k1]
    · cases hr
  · rename_i b o len cap hse
    rw [hse] at hsv
    obtain ⟨L, a, cap', g1, g2, g3, g4, g5⟩ := slc_inv hsv
    rw [g2]
    split at hr
    · rename_i h0
      subst h0
      injection hr with hr; injection hr with hr1 hr2; subst hr1; subst hr2
      exact ⟨.tuple #[], W, m, by simp [Builtin.clear_, ht0, run_underlying hU], Post.refl h, VR.undef m⟩
    · rename_i h0
      split at hr
      · cases hr
      · rename_i hz0
        split at hr
        · rename_i H2 hst
          injection hr with hr; injection hr with hr1 hr2; subst hr1; subst hr2
          rcases hz with ⟨el, rfl, hz⟩ | rfl
          · obtain ⟨i, zv, hi, hzv, hzl⟩ := zero_inv (m := m) hz
            have hlz : z.length = zv.cells.size := by simpa using hzl.1
            have hzz := zeros_lr hzl (len * z.length) (by omega)
            obtain ⟨W', q1, q2, q3, q4, q5⟩ := h.store P g1 hst hzz
            have hpos : 0 < cap' := by rcases g4 with g4 | g4 <;> omega
            refine ⟨.tuple #[], W', m, ?_, ⟨Inj.le_refl _, q2, q3, by omega, fun c hc hm => ⟨hm, q5 c (fun e => by subst e; rw [g1] at hm; cases hm)⟩⟩, VR.undef m⟩
            have e1 : (Builtin.zeroCells zv.cells len).toList = ((Array.range (len * z.length)).map (zv.cells[· % zv.cells.size]!)).toList := by rw [hlz]; rfl
            have q1' : (storeCells a (Builtin.zeroCells zv.cells len).toList).run P W = .ok () W' := by rw [e1, g5 hpos]; exact q1
            simp only [Builtin.clear_, List.getElem?_toArray, ht0, List.getElem?_cons_zero, Sem.run_bind, run_underlying hU, Result.andThen_ok]
            cases len with
            | zero => omega
            | succ l => simp only [Sem.run_bind, run_zero hi hzv, Result.andThen_ok, q1', Sem.run_pure]
          · simp at hz0
        · cases hr
  · cases hr
theorem sameBits_of {D : TypeDesc} {q : AV} {a b : Value} (ha : VR m q a) (hb : VR m q b) (hf : kindFits D q) : Instr.sameBits 10000 a b = true := by
  cases q <;> cases D <;> simp only [kindFits] at hf
  · rw [bool_inv ha, bool_inv hb]; simp [Instr.sameBits]
  · rw [int_inv ha, int_inv hb]; simp [Instr.sameBits]
  · obtain ⟨s, rfl, h1⟩ := str_inv ha
    obtain ⟨s', rfl, h2⟩ := str_inv hb
    have : s = s' := by
      obtain ⟨⟨l⟩⟩ := s
      obtain ⟨⟨l'⟩⟩ := s'
      simp only at h1 h2
      rw [h1, h2]
    subst this
    simp [Instr.sameBits, beq_toListBytes]
theorem sim_mapUpd {t kt el : TypeId} {M K X : Operand} {mm k x : Opd} {kk : Nat} {v : AV} {H' : AHeap} {cl : CallH} (h : SR P gl base m H W) (hU : P.underlying t = some (.map kt el)) (hkk : keyKindT P kt = some kk)
    (hm : copd gl M = some mm) (hk : copd gl K = some k) (hx : copd gl X = some x) (hM : OpR gl m e ρ M) (hK : OpR gl m e ρ K) (hX : OpR gl m e ρ X) (hr : (EOp.mapUpd kk mm k x).run cl H e = some (v, H')) :
    ∃ W' m', (Instr.mapUpdate t (ρ M) (ρ K) (ρ X)).run P W = .ok () W' ∧ Post P gl base m H W m' H' W' ∧ v = .undef := by
  simp only [EOp.run] at hr
  have hmv := hM mm hm
  have hkv := hK k hk
  have hxv := hX x hx
  split at hr
  · rename_i b hme
    rw [hme] at hmv
    split at hr
    · rename_i es hes
      split at hr
      · cases hr
      · rename_i hkind
        have hkind : isKind kk (k.ev e) = true := by simpa using hkind
        obtain ⟨D, hD, hf⟩ := kind_fits hkk hkind
        generalize hρ : ρ M = c at hmv
        cases hmv with
        | map hb =>
          rename_i L
          obtain ⟨hbase, arr, clk, h1, h2, h3⟩ := h.mp _ _ _ hb hes
          have hck : (Instr.checkKey false 10000 kt (ρ K)).run P W = .ok () W := key_ok _ kt hD hf hkv 9999
          have hg : (getObj L.blk).run P W = .ok (.map arr clk) W := by simp [getObj, Sem.run, h1]
          have hfs : ∀ r, findKey (k.ev e) es 0 = some r → _ := fun r hr => find_sim (D := D) hkv hf (es := es) (xs := arr.toList) (i := 0) (r := r) (by simpa using h2) (fun j a b E p q => h3 j a b E p (by simpa using q)) hr
          split at hr
          · cases hr
          · rename_i i w hfk
            injection hr with hr; injection hr with hr1 hr2; subst hr1; subst hr2
            rcases hfs _ hfk with ⟨h5, _⟩ | ⟨j, v', c, h5, _, h6, h7, E, h8, h9⟩
            · cases h5
            · injection h5 with h5; injection h5 with h5 h5'; subst h5; subst h5'
              have hE : arr[i]? = some E := by simpa using h8
              obtain ⟨W', k1, k2⟩ := wr_setObj (P := P) (arr' := arr.modify i fun e => { e with key := ρ K, val := ρ X }) (cl' := clk) h1
              have hsame : Instr.sameBits 10000 E.key (ρ K) = true := sameBits_of h9 hkv hf
              refine ⟨W', m, ?_, ⟨Inj.le_refl _, h.writeMap hb hes k2 (es.set i (k.ev e, x.ev e)) (by simpa using h2) (fun i2 a b E2 p q => ?_), k2.bkm hbase h1, Nat.le_refl _, fun c hc hmc => ⟨hmc, AHeap.get_set_ne _ _ _ _ (fun e => by subst e; rw [hb] at hmc; cases hmc)⟩⟩, rfl⟩
              · have hfk2 := run_findKey (P := P) (W := W) hD h6
                simp only [Instr.mapUpdate, Sem.run_bind, run_underlying hU, Result.andThen_ok, hg, hck, hfk2, Instr.keyThatStays, hE, Option.map_some, Option.getD_some, hsame, if_true, Sem.run_pure, k1]
              · rw [List.getElem?_set] at p
                rw [Array.getElem?_modify] at q
                by_cases hi2 : i = i2
                · subst hi2
                  simp only [if_true] at p q
                  split at p
                  · injection p with p; injection p with p1 p2; subst p1; subst p2
                    rw [hE] at q; injection q with q; subst q
                    exact ⟨hkv, hxv⟩
                  · cases p
                · rw [if_neg hi2] at p q
                  exact h3 i2 a b E2 p q
          · rename_i hfk
            injection hr with hr; injection hr with hr1 hr2; subst hr1; subst hr2
            rcases hfs _ hfk with ⟨_, h6⟩ | ⟨j, v', c, h5, _⟩
            · obtain ⟨W', k1, k2⟩ := wr_setObj (P := P) (arr' := arr.push { key := ρ K, val := ρ X, born := clk }) (cl' := clk + 1) h1
              refine ⟨W', m, ?_, ⟨Inj.le_refl _, h.writeMap hb hes k2 (es ++ [(k.ev e, x.ev e)]) (by simp [h2]) (fun i2 a b E2 p q => ?_), k2.bkm hbase h1, Nat.le_refl _, fun c hc hmc => ⟨hmc, AHeap.get_set_ne _ _ _ _ (fun e => by subst e; rw [hb] at hmc; cases hmc)⟩⟩, rfl⟩
              · have hfk2 := run_findKey (P := P) (W := W) hD h6
                simp only [Instr.mapUpdate, Sem.run_bind, run_underlying hU, Result.andThen_ok, hg, hck, hfk2, k1]
              · rw [Array.getElem?_push] at q
                by_cases hi2 : i2 = arr.size
                · rw [if_pos hi2] at q
                  injection q with q; subst q
                  rw [hi2, ← h2, List.getElem?_append_right (Nat.le_refl _)] at p
                  simp at p
                  obtain ⟨rfl, rfl⟩ := p
                  exact ⟨hkv, hxv⟩
                · rw [if_neg hi2] at q
                  have hlt : i2 < arr.size := (Array.getElem?_eq_some_iff.1 q).1
                  rw [List.getElem?_append_left (by omega)] at p
                  exact h3 i2 a b E2 p q
            · cases h5
    · cases hr
  · cases hr
end Go.Proofs.YtdkpmlhbofgfdaaGreatDoor.AM
namespace Go.Proofs.YtdkpmlhbofgfdaaGreatDoor.AM
open Go Go.RowKit

variable {base : Nat} {m : Inj} {H : AHeap} {W : World} {P : Program} {gl : List Nat} {e : Env} {ρ : Operand → Value}

def EOp.calls : EOp → Bool
  | .call _ _ | .callv _ _ | .fail => true
  | _ => false
theorem sim_mark {src dst el : TypeId} {X : Operand} {x : Opd} {v : AV} {H' : AHeap} {cl : CallH} (h : SR P gl base m H W) (hx : copd gl X = some x) (hX : OpR gl m e ρ X) (hsd : src = dst)
    (hD : P.underlying dst = some (.slice el)) (hE : P.underlying el = some (.int .u8)) (hr : (EOp.mark x).run cl H e = some (v, H')) :
    ∃ c W' m', (Go.convert src dst (ρ X)).run P W = .ok c W' ∧ Post P gl base m H W m' H' W' ∧ VR m' v c := by
  subst hsd
  simp only [EOp.run] at hr
  split at hr
  · rename_i b o len cap hv
    split at hr
    · rename_i B hB
      split at hr
      · cases hr
      · rename_i hrc
        obtain ⟨hro, hcap⟩ := not_or.1 hrc
        injection hr with hr; injection hr with h1 h2; subst h1; subst h2
        have hvr := hX x hx
        rw [hv] at hvr
        obtain ⟨g1, g2⟩ := row_inv hB
        obtain ⟨c0, hc0⟩ : ∃ c0, ρ X = c0 := ⟨_, rfl⟩
        rw [hc0] at hvr ⊢
        cases hvr with
        | slc hm hle hc ha =>
          rename_i cap' a L
          have hro' : B.ro = false := by simpa using hro
          have h0 : 0 < cap' := by rcases hc with rfl | ⟨hc, _⟩ <;> omega
          obtain rfl := ha h0
          obtain ⟨hbase, arr, elm, lo, hi, harr, hrm, hlen, hfz⟩ := h.rw b L B hm g1 g2 hro'
          have hsh : W.shape? L.blk = some (elm, arr.size) := by simp [World.shape?, harr]
          let W' := W.freeze ⟨L.blk, arr.size, none⟩ 1
          obtain ⟨lo', hi', hw, hf⟩ : ∃ lo' hi', Wr W W' L.blk (.cells arr elm (lo', hi')) ∧ FzOk arr.size lo' hi' := by
            refine ⟨if lo == hi then arr.size else min lo arr.size, if lo == hi then arr.size + 1 else max hi (arr.size + 1), ⟨rfl, rfl, rfl, by simp [W', World.freeze], fun k hk => ?_, ?_⟩, ?_⟩
            · simp only [W', World.freeze]
              rw [if_neg (by omega), Array.getElem?_modify, if_neg (fun e => hk e.symm)]
            · simp only [W', World.freeze]
              rw [if_neg (by omega), Array.getElem?_modify, if_pos rfl, harr]
              by_cases e : lo = hi
              · simp [e]
              · simp [e]
            · obtain ⟨f1, f2⟩ := hfz
              by_cases e : lo = hi
              · simp only [e, beq_self_eq_true, if_true]
                exact ⟨by omega, fun i hi => by omega⟩
              · have hb : (lo == hi) = false := by simpa using e
                simp only [hb, Bool.false_eq_true, if_false]
                have hlo : arr.size ≤ lo := Nat.le_of_not_lt fun hlt => f2 lo hlt ⟨Nat.le_refl _, by omega⟩
                exact ⟨by omega, fun i hi => by omega⟩
          refine ⟨_, W', m, ?_, ⟨Inj.le_refl _, h.mark harr hw hf, hw.bkc hbase harr, Nat.le_refl _, fun c _ hc => ⟨hc, rfl⟩⟩, .slc hm hle hc (fun _ => rfl)⟩
          simp [Go.convert, run_underlying hD, run_underlying hE, markStringish, hsh, W']
    · cases hr
  · cases hr
theorem copds_two {xs : List Operand} {x y : Opd} (h : copds gl xs = some [x, y]) : ∃ X Y, xs = [X, Y] ∧ copd gl X = some x ∧ copd gl Y = some y := by
  obtain ⟨X, Xs, rfl, h1, h2⟩ := copds_cons h
  obtain ⟨Y, rfl, h3⟩ := copds_one h2
  exact ⟨X, Y, rfl, h1, h3⟩
set_option maxHeartbeats 1000000 in
theorem esim0 {cl : CallH} (h : SR P gl base m H W) {o : Oper} {x : EOp} {v : AV} {H' : AHeap} (hop : cop0 P gl o.op = some (.e x)) (hX : ∀ X ∈ o.op.operands.toList, OpR gl m e ρ X) (hnc : x.calls = false) (hr : x.run cl H e = some (v, H')) :
    ∃ c W' m', ((execOp ρ o).run P W = .ok (.value c) W' ∨ ((execOp ρ o).run P W = .ok .skip W' ∧ c = undef)) ∧ Post P gl base m H W m' H' W' ∧ VR m' v c := by
  have finV : ∀ (s : Sem Value), (∃ c W' m', s.run P W = .ok c W' ∧ Post P gl base m H W m' H' W' ∧ VR m' v c) →
      ∃ c W' m', ((do pure (Next.value (← s)) : Sem Next).run P W = .ok (.value c) W' ∨ ((do pure (Next.value (← s)) : Sem Next).run P W = .ok .skip W' ∧ c = undef)) ∧ Post P gl base m H W m' H' W' ∧ VR m' v c :=
    fun s ⟨c, W', m', h1, h2⟩ => ⟨c, W', m', .inl (by simp [h1]), h2⟩
  have finU : ∀ (s : Sem Unit), (∃ W' m', s.run P W = .ok () W' ∧ Post P gl base m H W m' H' W' ∧ v = .undef) →
      ∃ c W' m', ((do s; pure Next.skip : Sem Next).run P W = .ok (.value c) W' ∨ ((do s; pure Next.skip : Sem Next).run P W = .ok .skip W' ∧ c = undef)) ∧ Post P gl base m H W m' H' W' ∧ VR m' v c :=
    fun s ⟨W', m', h1, h2, h3⟩ => ⟨undef, W', m', .inr ⟨by simp [h1], rfl⟩, h2, by rw [h3]; exact VR.undef m'⟩
  obtain ⟨dst, op, type, pos, after, guard⟩ := o
  simp only at hop hX
  cases op <;> simp only [cop0, reduceCtorEq] at hop <;> simp only [Op.operands] at hX <;> simp only [execOp]
  case move X => obtain ⟨_, _, hop⟩ := bindE hop; have := eI hop; cases this
  case assign X => obtain ⟨_, _, hop⟩ := bindE hop; have := eI hop; cases this
  case pick => obtain ⟨_, _, hop⟩ := bindE hop; obtain ⟨_, _, hop⟩ := bindE hop; obtain ⟨_, _, hop⟩ := bindE hop; have := eI hop; cases this
  case alloc t => obtain ⟨_, _, hop⟩ := bindE hop; have := eI hop; cases this
  case box t X => obtain ⟨_, _, hop⟩ := bindE hop; have := eI hop; cases this
  case build t ps =>
    obtain ⟨_, _, hop⟩ := bindE hop
    split at hop
    · obtain ⟨_, _, hop⟩ := bindE hop; obtain ⟨_, _, hop⟩ := bindE hop; obtain ⟨_, _, hop⟩ := bindE hop; have := eI hop; cases this
    · obtain ⟨_, _, hop⟩ := bindE hop; obtain ⟨_, _, hop⟩ := bindE hop; obtain ⟨_, _, hop⟩ := bindE hop; have := eI hop; cases this
    · cases hop
  case buildSlice t n ps =>
    obtain ⟨U, hU, hop⟩ := bindE hop
    split at hop
    · obtain ⟨_, _, hop⟩ := bindE hop; obtain ⟨_, _, hop⟩ := bindE hop; obtain ⟨_, _, hop⟩ := bindE hop; have := eI hop; cases this
    · cases hop
  case insert t mm k x0 =>
    obtain ⟨U, hU, hop⟩ := bindE hop
    split at hop
    · obtain ⟨kk', hkk, hop⟩ := bindE hop
      obtain ⟨m', hm', hop⟩ := bindE hop
      obtain ⟨k', hk', hop⟩ := bindE hop
      obtain ⟨x', hx', hop⟩ := bindE hop
      have := eI hop; injection this with this; subst this
      exact finU _ (sim_mapUpd h hU hkk hm' hk' hx' (hX mm (by simp)) (hX k (by simp)) (hX x0 (by simp)) hr)
    · cases hop
  case load t A => obtain ⟨_, _, hop⟩ := bindE hop; obtain ⟨_, _, hop⟩ := bindE hop; have := eI hop; cases this
  case store t A X =>
    obtain ⟨n, hn, hop⟩ := bindE hop
    obtain ⟨a', ha', hop⟩ := bindE hop
    obtain ⟨x', hx', hop⟩ := bindE hop
    have := eI hop; injection this with this; subst this
    exact finU _ (sim_store h ha' hx' (hX A (by simp)) (hX X (by simp)) hn hr)
  case nilCheck X => obtain ⟨_, _, hop⟩ := bindE hop; have := eI hop; cases this
  case binOp op t X Y yt =>
    unfold cbin at hop
    obtain ⟨_, _, hop⟩ := bindE hop; obtain ⟨_, _, hop⟩ := bindE hop
    split at hop
    all_goals try (have := eI hop; cases this; done)
    all_goals
      obtain ⟨_, _, hop⟩ := bindE hop
      split at hop <;> first
        | (have := eI hop; cases this; done)
        | (cases hop; done)
        | (split at hop <;> first | (have := eI hop; cases this; done) | (cases hop; done))
        | (obtain ⟨_, _, hop⟩ := bindE hop; split at hop <;> first | (have := eI hop; cases this; done) | (cases hop; done))
  case unOp op t X => cases op <;> simp only [reduceCtorEq] at hop <;> (obtain ⟨_, _, hop⟩ := bindE hop; have := eI hop; cases this)
  case convert s d X =>
    unfold cconv at hop
    obtain ⟨y, hy, hop⟩ := bindE hop
    obtain ⟨S, hS, hop⟩ := bindE hop
    obtain ⟨D, hD, hop⟩ := bindE hop
    split at hop
    · have := eI hop; cases this
    · have := eI hop; cases this
    · have := eI hop; cases this
    · obtain ⟨_, _, hop⟩ := bindE hop
      split at hop
      · have := eI hop; cases this
      · have := eI hop; cases this
      · cases hop
    · obtain ⟨E, hE, hop⟩ := bindE hop
      by_cases hsd : s = d
      · have hd : decide (s = d) = true := decide_eq_true hsd
        rw [hd] at hop
        cases E <;> first | (cases hop; done) | skip
        rename_i k
        cases k <;> first | (cases hop; done) | skip
        have := eI hop; injection this with this; subst this
        exact finV _ (sim_mark h hy (hX X (by simp)) hsd hD hE hr)
      · have hd : decide (s = d) = false := decide_eq_false hsd
        rw [hd] at hop
        cases E <;> cases hop
    · obtain ⟨_, _, hop⟩ := bindE hop
      split at hop
      · have := eI hop; cases this
      · have := eI hop; cases this
      · cases hop
    · cases hop
  case makeInterface t X =>
    obtain ⟨U, hU, hop⟩ := bindE hop
    split at hop
    · cases hop
    · obtain ⟨_, _, hop⟩ := bindE hop; have := eI hop; cases this
  case makeFunc f as bs => obtain ⟨_, _, hop⟩ := bindE hop; obtain ⟨_, _, hop⟩ := bindE hop; have := eI hop; cases this
  case makeMap t rs => cases rs <;> simp only [reduceCtorEq] at hop; have := eI hop; cases this
  case makeSlice t l c =>
    obtain ⟨U, hU, hop⟩ := bindE hop
    split at hop
    · obtain ⟨_, _, hop⟩ := bindE hop; obtain ⟨_, _, hop⟩ := bindE hop; obtain ⟨_, _, hop⟩ := bindE hop; obtain ⟨_, _, hop⟩ := bindE hop; obtain ⟨_, _, hop⟩ := bindE hop; have := eI hop; cases this
    · cases hop
  case slice t X lo hi mx =>
    cases mx <;> simp only [reduceCtorEq] at hop
    obtain ⟨_, _, hop⟩ := bindE hop; obtain ⟨_, _, hop⟩ := bindE hop; obtain ⟨_, _, hop⟩ := bindE hop; obtain ⟨_, _, hop⟩ := bindE hop
    split at hop <;> first
      | (obtain ⟨_, _, hop⟩ := bindE hop; have := eI hop; cases this; done)
      | (have := eI hop; cases this; done)
      | (cases hop; done)
  case fieldAddr t X f =>
    obtain ⟨U, hU, hop⟩ := bindE hop
    split at hop
    · obtain ⟨_, _, hop⟩ := bindE hop; obtain ⟨_, _, hop⟩ := bindE hop
      split at hop
      · cases hop
      · obtain ⟨_, _, hop⟩ := bindE hop; have := eI hop; cases this
    · cases hop
  case field t X f =>
    obtain ⟨U, hU, hop⟩ := bindE hop
    split at hop
    · obtain ⟨_, _, hop⟩ := bindE hop; obtain ⟨_, _, hop⟩ := bindE hop; obtain ⟨_, _, hop⟩ := bindE hop; have := eI hop; cases this
    · cases hop
  case indexAddr t X I =>
    obtain ⟨U, hU, hop⟩ := bindE hop
    split at hop
    · obtain ⟨_, _, hop⟩ := bindE hop; obtain ⟨_, _, hop⟩ := bindE hop; obtain ⟨_, _, hop⟩ := bindE hop; have := eI hop; cases this
    · obtain ⟨_, _, hop⟩ := bindE hop; obtain ⟨_, _, hop⟩ := bindE hop; obtain ⟨_, _, hop⟩ := bindE hop; have := eI hop; cases this
    · cases hop
  case index t X I =>
    obtain ⟨U, hU, hop⟩ := bindE hop
    split at hop
    · obtain ⟨_, _, hop⟩ := bindE hop; obtain ⟨_, _, hop⟩ := bindE hop; obtain ⟨_, _, hop⟩ := bindE hop; obtain ⟨_, _, hop⟩ := bindE hop; have := eI hop; cases this
    · obtain ⟨_, _, hop⟩ := bindE hop; obtain ⟨_, _, hop⟩ := bindE hop; have := eI hop; cases this
    · cases hop
  case lookup t X K ok =>
    obtain ⟨U, hU, hop⟩ := bindE hop
    split at hop
    · obtain ⟨_, _, hop⟩ := bindE hop; obtain ⟨_, _, hop⟩ := bindE hop; obtain ⟨_, _, hop⟩ := bindE hop; obtain ⟨_, _, hop⟩ := bindE hop; obtain ⟨_, _, hop⟩ := bindE hop; have := eI hop; cases this
    · cases hop
  case mapUpdate t mm k x0 =>
    obtain ⟨U, hU, hop⟩ := bindE hop
    split at hop
    · obtain ⟨kk', hkk, hop⟩ := bindE hop
      obtain ⟨m', hm', hop⟩ := bindE hop
      obtain ⟨k', hk', hop⟩ := bindE hop
      obtain ⟨x', hx', hop⟩ := bindE hop
      have := eI hop; injection this with this; subst this
      exact finU _ (sim_mapUpd h hU hkk hm' hk' hx' (hX mm (by simp)) (hX k (by simp)) (hX x0 (by simp)) hr)
    · cases hop
  case extract X i => obtain ⟨_, _, hop⟩ := bindE hop; have := eI hop; cases this
  case call c =>
    unfold ccall at hop
    obtain ⟨as, has, hop⟩ := bindE hop
    split at hop
    · have := eI hop; injection this with this; subst this; simp [EOp.calls] at hnc
    · obtain ⟨_, _, hop⟩ := bindE hop; have := eI hop; injection this with this; subst this; simp [EOp.calls] at hnc
    · cases hop
    · rename_i bb hb
      obtain ⟨t0, ht0, hop⟩ := bindE hop
      have hXa : ∀ X ∈ c.args.toList, OpR gl m e ρ X := fun X hx => hX X (by simp only [Call.operands, Array.toList_append, List.mem_append]; exact .inr hx)
      rw [builtin_run hb]
      split at hop
      · -- append
        obtain ⟨U, hU, hop⟩ := bindE hop
        split at hop
        · rename_i el
          obtain ⟨t1, ht1, hop⟩ := bindE hop
          obtain ⟨U1, hU1, hop⟩ := bindE hop
          obtain ⟨X, Y, hxy, hX1, hY1⟩ := copds_two has
          have hargs : c.args.map ρ = #[ρ X, ρ Y] := by
            apply Array.ext'; rw [Array.toList_map, hxy]; rfl
          rw [hargs]
          have app : ∀ (sO xO : Opd) (hs0 : copd gl X = some sO) (hx0 : copd gl Y = some xO) (hnz : ∀ k, U1 ≠ .int k) (z : List AV) (k by_ : Nat), zeroT P el = some z → sizeT P el = some k → z.length = k → bytesT P el = some by_ → x = .append k by_ sO xO →
              ∃ c2 W' m', (Builtin.append_ c.argTypes type #[ρ X, ρ Y]).run P W = .ok c2 W' ∧ Post P gl base m H W m' H' W' ∧ VR m' v c2 := by
            intro sO xO hs0 hx0 hnz z k by_ hz hk hzk hby hxe
            subst hxe
            have hxv := hXa X (by rw [hxy]; simp) _ hs0
            have hyv := hXa Y (by rw [hxy]; simp) _ hx0
            obtain ⟨inf, hin, hsz⟩ := size_inv hk
            have hby' : inf.bytes = by_ := by unfold bytesT at hby; rw [hin] at hby; injection hby
            obtain ⟨i2, zv, hi2, hzv, hzl⟩ := zero_inv (m := m) hz
            rw [hin] at hi2; injection hi2 with hi2; subst hi2
            simp only [EOp.run] at hr
            split at hr
            · rename_i n cs hsc
              split at hr
              · cases hr
              · rename_i hcond
                obtain ⟨cs', k1, k2, k3, k4⟩ := srcCells_sim (P := P) h hyv hsc
                have g1 : k ≠ 0 := fun hh => hcond (.inl hh)
                have g2 : by_ ≠ 0 := fun hh => hcond (.inr (.inl hh))
                have g3 : cs.all AV.one = true := by
                  cases hq : cs.all AV.one with
                  | true => rfl
                  | false => exact absurd (.inr (.inr (by simp [hq]))) hcond
                refine append_sim h ht0 ht1 hU hU1 hnz hin hsz hby' hzv ?_ g1 g2 g3 hxv k1 k2 k3 (fun W2 hW2 => ?_) (.inl rfl) hr
                · have := hzl.1; simp at this; omega
                · have := k4 n (Nat.le_refl _) W2 hW2
                  rw [← k2, List.take_length] at this
                  exact this
            · cases hr
          split at hop
          · obtain ⟨z, hz, hop⟩ := bindE hop
            obtain ⟨k, hk, hop⟩ := bindE hop
            split at hop
            · rename_i hzk
              obtain ⟨by_, hby, hop⟩ := bindE hop
              have := eI hop; injection this with this
              exact finV _ (app _ _ hX1 hY1 (by simp) z k by_ hz hk hzk hby this.symm)
            · cases hop
          · obtain ⟨z, hz, hop⟩ := bindE hop
            obtain ⟨k, hk, hop⟩ := bindE hop
            split at hop
            · rename_i hzk
              obtain ⟨by_, hby, hop⟩ := bindE hop
              have := eI hop; injection this with this
              exact finV _ (app _ _ hX1 hY1 (by simp) z k by_ hz hk hzk hby this.symm)
            · cases hop
          · cases hop
        · cases hop
      · obtain ⟨U, hU, hop⟩ := bindE hop
        split at hop
        all_goals first
          | (have := eI hop; cases this; done)
          | (cases hop; done)
          | (obtain ⟨_, _, hop⟩ := bindE hop
             split at hop
             · have := eI hop; cases this
             · cases hop)
      · -- copy
        obtain ⟨U, hU, hop⟩ := bindE hop
        split at hop
        · obtain ⟨es, hes, hop⟩ := bindE hop
          have := eI hop; injection this with this; subst this
          obtain ⟨X, Y, hxy, hX1, hY1⟩ := copds_two has
          have hargs : c.args.map ρ = #[ρ X, ρ Y] := by
            apply Array.ext'; rw [Array.toList_map, hxy]; rfl
          rw [hargs]
          exact finV _ (sim_copy h hX1 hY1 (hXa X (by rw [hxy]; simp)) (hXa Y (by rw [hxy]; simp)) ht0 hU hes hr)
        · cases hop
      · -- clear
        obtain ⟨U, hU, hop⟩ := bindE hop
        obtain ⟨X, hxy, hX1⟩ := copds_one has
        have hargs : c.args.map ρ = #[ρ X] := by
          apply Array.ext'; rw [Array.toList_map, hxy]; rfl
        rw [hargs]
        split at hop
        · obtain ⟨z, hz, hop⟩ := bindE hop
          have := eI hop; injection this with this; subst this
          exact finV _ (sim_clear h hX1 (hXa X (by rw [hxy]; simp)) ht0 hU (.inl ⟨_, rfl, hz⟩) hr)
        · have := eI hop; injection this with this; subst this
          exact finV _ (sim_clear h hX1 (hXa X (by rw [hxy]; simp)) ht0 hU (.inr rfl) hr)
        · cases hop
      · have := eI hop; cases this
      · have := eI hop; cases this
      · cases hop
end Go.Proofs.YtdkpmlhbofgfdaaGreatDoor.AM
