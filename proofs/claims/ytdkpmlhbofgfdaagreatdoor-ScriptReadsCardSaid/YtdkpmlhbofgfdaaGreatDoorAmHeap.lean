/-
  Own blocks, one apart from the other: what stores and appends do to them.
-/
import Derived.Test.YtdkpmlhbofgfdaaGreatDoorAmWp2
set_option linter.unusedVariables false
namespace Go.Proofs.YtdkpmlhbofgfdaaGreatDoor.AM
open Go

/-- a block's cells; its elements are of k cells, if it came of an append -/
structure Cel where
  b : Nat
  k : Nat
  cs : List AV
def HB (H : AHeap) (x : Cel) : Prop := ∃ es ty, H.get x.b = some (.row ⟨x.cs, es, false, true, ty⟩) ∧ (es = 0 ∨ es = x.k)
/-- blocks that are there, each another one, none below a base -/
structure Hp (base : Nat) (H : AHeap) (l : List Cel) : Prop where
  has : ∀ x ∈ l, HB H x
  nd : (l.map (·.b)).Nodup
  lo : ∀ x ∈ l, base ≤ x.b
  bn : base ≤ H.next
  fr : ∀ b, H.next ≤ b → H.get b = none
/-- what lies below a base is as it was -/
def Keep (base : Nat) (H H' : AHeap) : Prop := ∀ b, b < base → H'.get b = H.get b
theorem Keep.refl (base : Nat) (H : AHeap) : Keep base H H := fun _ _ => rfl
theorem Keep.trans {base : Nat} {H H' H'' : AHeap} (h : Keep base H H') (h' : Keep base H' H'') : Keep base H H'' := fun b hb => (h' b hb).trans (h b hb)
theorem Keep.le {base base' : Nat} {H H' : AHeap} (h : Keep base H H') (hb : base' ≤ base) : Keep base' H H' := fun b h1 => h b (by omega)
section
variable {base : Nat} {H : AHeap} {l l' : List Cel} {x y : Cel}
theorem HB.row (h : HB H x) : ∃ es ty, H.row x.b = some ⟨x.cs, es, false, true, ty⟩ ∧ (es = 0 ∨ es = x.k) := by
  obtain ⟨es, ty, h1, h2⟩ := h
  exact ⟨es, ty, by simp only [AHeap.row, h1, if_true], h2⟩
theorem Hp.lt (h : Hp base H l) (hx : x ∈ l) : x.b < H.next := by
  obtain ⟨es, ty, h1, _⟩ := h.has x hx
  refine Nat.lt_of_not_le fun hh => ?_
  rw [h.fr _ hh] at h1
  cases h1
theorem Hp.nil (H : AHeap) (hf : ∀ b, H.next ≤ b → H.get b = none) : Hp H.next H [] := ⟨fun x hx => by simp at hx, List.nodup_nil, fun x hx => by simp at hx, Nat.le_refl _, hf⟩
theorem Hp.perm (h : Hp base H l) (hp : l.Perm l') : Hp base H l' :=
  ⟨fun x hx => h.has x (hp.mem_iff.2 hx), (hp.map _).nodup_iff.1 h.nd, fun x hx => h.lo x (hp.mem_iff.2 hx), h.bn, h.fr⟩
theorem Hp.drop (h : Hp base H (x :: l)) : Hp base H l :=
  ⟨fun y hy => h.has y (by simp [hy]), (List.nodup_cons.1 h.nd).2, fun y hy => h.lo y (by simp [hy]), h.bn, h.fr⟩
theorem Hp.sub (h : Hp base H l) (hs : l'.Sublist l) : Hp base H l' :=
  ⟨fun y hy => h.has y (hs.subset hy), h.nd.sublist (hs.map _), fun y hy => h.lo y (hs.subset hy), h.bn, h.fr⟩
theorem Hp.swap {l : List Cel} {x y : Cel} (h : Hp base H (x :: y :: l)) : Hp base H (y :: x :: l) := h.perm (List.Perm.swap _ _ _)
theorem Hp.rot3 {l : List Cel} {x y z : Cel} (h : Hp base H (x :: y :: z :: l)) : Hp base H (z :: x :: y :: l) := h.perm ((List.Perm.cons _ (List.Perm.swap _ _ _)).trans (List.Perm.swap _ _ _))
theorem Hp.rot4 {l : List Cel} {x y z w : Cel} (h : Hp base H (x :: y :: z :: w :: l)) : Hp base H (w :: x :: y :: z :: l) := h.perm ((List.Perm.cons _ ((List.Perm.cons _ (List.Perm.swap _ _ _)).trans (List.Perm.swap _ _ _))).trans (List.Perm.swap _ _ _))
theorem Hp.end1 {l : List Cel} {x : Cel} (h : Hp base H (x :: l)) : Hp base H (l ++ [x]) := h.perm (List.perm_append_comm (l₁ := [x]) (l₂ := l))
theorem Hp.lower (h : Hp base H l) {base' : Nat} (hb : base' ≤ base) : Hp base' H l := ⟨h.has, h.nd, fun y hy => Nat.le_trans hb (h.lo y hy), Nat.le_trans hb h.bn, h.fr⟩
theorem Hp.ne (h : Hp base H (x :: l)) (hy : y ∈ l) : y.b ≠ x.b := fun he => (List.nodup_cons.1 h.nd).1 (List.mem_map.2 ⟨y, hy, he⟩)
theorem Hp.alloc (h : Hp base H l) (cs : List AV) (es k : Nat) (he : es = 0 ∨ es = k) {ty : Nat} : Hp base (H.alloc (.row ⟨cs, es, false, true, ty⟩)) (⟨H.next, k, cs⟩ :: l) := by
  refine ⟨fun y hy => ?_, ?_, fun y hy => ?_, Nat.le_succ_of_le h.bn, fun b hb => ?_⟩
  · rcases List.mem_cons.1 hy with rfl | hy
    · exact ⟨es, ty, by rw [AHeap.get_alloc, if_pos rfl], he⟩
    · obtain ⟨es', ty', h1, h2⟩ := h.has y hy
      exact ⟨es', ty', by rw [AHeap.get_alloc, if_neg (Nat.ne_of_lt (h.lt hy))]; exact h1, h2⟩
  · simp only [List.map_cons, List.nodup_cons]
    refine ⟨fun hm => ?_, h.nd⟩
    obtain ⟨z, hz, he⟩ := List.mem_map.1 hm
    exact absurd (h.lt hz) (by rw [he]; exact Nat.lt_irrefl _)
  · rcases List.mem_cons.1 hy with rfl | hy
    · exact h.bn
    · exact h.lo y hy
  · have hb' : H.next + 1 ≤ b := hb
    rw [AHeap.get_alloc, if_neg (by omega)]
    exact h.fr b (by omega)
theorem Hp.keep_alloc (h : Hp base H l) (o : AObj) : Keep base H (H.alloc o) := fun b hb => by
  rw [AHeap.get_alloc, if_neg (Nat.ne_of_lt (Nat.lt_of_lt_of_le hb h.bn))]
theorem Hp.make (h : Hp base H l) (cs : List AV) (k : Nat) : ∃ H', H.alloc (.row ⟨cs, 0, false, true, 0⟩) = H' ∧ Hp base H' (⟨H.next, k, cs⟩ :: l) ∧ Keep base H H' :=
  ⟨_, rfl, h.alloc cs 0 k (.inl rfl), h.keep_alloc _⟩
theorem Hp.set (h : Hp base H (x :: l)) (cs : List AV) (es : Nat) (he : es = 0 ∨ es = x.k) {ty : Nat} : Hp base (H.set x.b (.row ⟨cs, es, false, true, ty⟩)) (⟨x.b, x.k, cs⟩ :: l) := by
  refine ⟨fun y hy => ?_, h.nd, fun y hy => ?_, h.bn, fun b hb => ?_⟩
  · rcases List.mem_cons.1 hy with rfl | hy
    · exact ⟨es, ty, by rw [AHeap.get_set, if_pos rfl], he⟩
    · obtain ⟨es', ty', h1, h2⟩ := h.has y (by simp [hy])
      exact ⟨es', ty', by rw [AHeap.get_set, if_neg (h.ne hy)]; exact h1, h2⟩
  · rcases List.mem_cons.1 hy with rfl | hy
    · exact h.lo x (by simp)
    · exact h.lo y (by simp [hy])
  · have := h.lt (x := x) (by simp)
    have hb' : H.next ≤ b := hb
    rw [AHeap.get_set, if_neg (by omega)]
    exact h.fr b hb'
theorem Hp.keep_set (h : Hp base H (x :: l)) (o : AObj) : Keep base H (H.set x.b o) := fun b hb => by
  have := h.lo x (by simp)
  rw [AHeap.get_set, if_neg (by omega)]
theorem Hp.kill (h : Hp base H (x :: l)) (B : Blk) : Hp base (H.set x.b (.row B)) l := by
  refine ⟨fun y hy => ?_, (List.nodup_cons.1 h.nd).2, fun y hy => h.lo y (by simp [hy]), h.bn, fun b hb => ?_⟩
  · obtain ⟨es', ty', h1, h2⟩ := h.has y (by simp [hy])
    exact ⟨es', ty', by rw [AHeap.get_set, if_neg (h.ne hy)]; exact h1, h2⟩
  · have := h.lt (x := x) (by simp)
    have hb' : H.next ≤ b := hb
    rw [AHeap.get_set, if_neg (by omega)]
    exact h.fr b hb'

theorem Hp.keep (h : Hp base H l) {H' : AHeap} (hk : Keep H.next H H') (hn : H.next ≤ H'.next) (hf : ∀ b, H'.next ≤ b → H'.get b = none) : Hp base H' l :=
  ⟨fun x hx => by obtain ⟨es, ty, h1, h2⟩ := h.has x hx; exact ⟨es, ty, by rw [hk _ (h.lt hx)]; exact h1, h2⟩, h.nd, h.lo, Nat.le_trans h.bn hn, hf⟩
theorem Keep.row {n : Nat} {H H' : AHeap} (hk : Keep n H H') {b : Nat} (hb : b < n) : H'.row b = H.row b := by unfold AHeap.row; rw [hk b hb]
/-! ### A code's two parts -/
def fstC : ACode → ACode
  | .seq a _ => a
  | c => c
def sndC : ACode → ACode
  | .seq _ b => b
  | c => c
def isSeq : ACode → Bool
  | .seq _ _ => true
  | _ => false
theorem wp_parts {Q : Prog} {K : PostC} {e : Env} {H : AHeap} (c : ACode) (h : isSeq c = true) : ACode.wp Q c K e H = ACode.wp Q (fstC c) (seqK (ACode.wp Q (sndC c) K) K) e H := by
  cases c <;> first | rfl | cases h
theorem wp_partsF {Q : Prog} {K : PostC} (c : ACode) (h : isSeq c = true) : ACode.wp Q c K = ACode.wp Q (fstC c) (seqK (ACode.wp Q (sndC c) K) K) := by funext e H; exact wp_parts c h
theorem nileq_ptr (b o : Nat) : nileqV' 0 false (.ptr b o) .nilp = some (.bool false) := rfl
theorem nilne_ptr (b o : Nat) : nileqV' 0 true (.ptr b o) .nilp = some (.bool true) := rfl
theorem nileq_nilp : nileqV' 0 false .nilp .nilp = some (.bool true) := rfl
theorem nilne_nilp : nileqV' 0 true .nilp .nilp = some (.bool false) := rfl
theorem nileq_slc (b o n c : Nat) : nileqV' 1 false (.slc b o n c) .nils = some (.bool false) := rfl
theorem nilne_slc (b o n c : Nat) : nileqV' 1 true (.slc b o n c) .nils = some (.bool true) := rfl
theorem nileq_nils : nileqV' 1 false .nils .nils = some (.bool true) := rfl
theorem nilne_nils : nileqV' 1 true .nils .nils = some (.bool false) := rfl
/-! ### What the operations do to them -/
def bindX (r : Option (AV × AHeap)) (k : AV → AHeap → Prop) : Prop := ∃ v H', r = some (v, H') ∧ k v H'
theorem bindX_some (v : AV) (H : AHeap) (k : AV → AHeap → Prop) : bindX (some (v, H)) k = k v H := propext ⟨fun ⟨_, _, h, hk⟩ => by cases h; exact hk, fun h => ⟨v, H, rfl, h⟩⟩
def noCall : CallH := fun _ _ _ => none
def storeE (H : AHeap) (n : Nat) (a v : AV) : Option (AV × AHeap) := EOp.run noCall H .nil (.store n (.c a) (.c v))
def appendE (H : AHeap) (es bytes : Nat) (s x : AV) : Option (AV × AHeap) := EOp.run noCall H .nil (.append es bytes (.c s) (.c x))
theorem wp_store (Q : Prog) (H : AHeap) (e : Env) (K : AV → AHeap → Prop) (n : Nat) (a v : Opd) : EOp.wp Q H e K (.store n a v) = bindX (storeE H n (a.ev e) (v.ev e)) K := rfl
theorem wp_append (Q : Prog) (H : AHeap) (e : Env) (K : AV → AHeap → Prop) (es bytes : Nat) (s x : Opd) : EOp.wp Q H e K (.append es bytes s x) = bindX (appendE H es bytes (s.ev e) (x.ev e)) K := rfl

theorem Hp.load (h : Hp base H l) {b k : Nat} {cs : List AV} (hx : ⟨b, k, cs⟩ ∈ l) {o : Nat} {v : AV} (hv : cs[o]? = some v) : loadV H none (.ptr b o) = some v := by
  obtain ⟨es, ty, h1, h2⟩ := (h.has _ hx).row
  simp only [loadV, ROp.run, Opd.ev, h1, hv]
theorem Hp.rowOf (h : Hp base H l) {b k : Nat} {cs : List AV} (hx : ⟨b, k, cs⟩ ∈ l) : ∃ B, H.row b = some B ∧ B.cells = cs := by
  obtain ⟨es, ty, h1, h2⟩ := (h.has _ hx).row
  exact ⟨_, h1, rfl⟩
def bs1V (v : AV) : Option (AObj × AKind) := if v.cells.length = 1 ∧ v.cells.all AV.one = true then some (.row { cells := v.cells }, .slc 1 1) else none
theorem run_bslice1 (e : Env) (z : AV) (x : Opd) : LOp.run e (.bslice 1 1 [z] [(0, x)]) = bs1V (x.ev e) := by
  simp only [LOp.run, bs1V, List.map_cons, List.map_nil, buildIn, zeros]
  by_cases h1 : (x.ev e).cells.length = 1
  · obtain ⟨c, hc⟩ : ∃ c, (x.ev e).cells = [c] := by
      match hh : (x.ev e).cells, h1 with
      | [c], _ => exact ⟨c, rfl⟩
    simp [hc, over, List.range, List.range.loop]
  · simp [h1]
theorem bs1V_int (k : IntKind) (n : Int) : bs1V (.int k n) = some (.row ⟨[.int k n], 0, false, true, 0⟩, .slc 1 1) := rfl
theorem bs1V_slc (b o len cap : Nat) : bs1V (.slc b o len cap) = some (.row ⟨[.slc b o len cap], 0, false, true, 0⟩, .slc 1 1) := rfl
theorem bs1V_nils : bs1V .nils = some (.row ⟨[.nils], 0, false, true, 0⟩, .slc 1 1) := rfl
theorem run_build0 (H : AHeap) (e : Env) (z : List AV) : ROp.run H e (.build z []) = some (.agg z) := rfl
def boxV (v : AV) : Option (AObj × AKind) := if v.cells.all AV.one then some (.row { cells := v.cells }, .ptr) else none
theorem run_allocL (e : Env) (z : List AV) : LOp.run e (.alloc z) = some (.row ⟨z, 0, false, true, 0⟩, .ptr) := rfl
theorem run_box (e : Env) (x : Opd) : LOp.run e (.box x) = boxV (x.ev e) := rfl
theorem idxStr_at {s : List UInt8} {i : Nat} {b : UInt8} (h : s[i]? = some b) (k : IntKind) : idxStrV (.str s) (.int k i) = some (.int .u8 b.toNat) := by
  have hl : i < s.length := (List.getElem?_eq_some_iff.1 h).1
  simp only [idxStrV, ROp.run, Opd.ev, inIndex, if_pos (show 0 ≤ (i : Int) ∧ (i : Int) < (s.length : Int) by omega), Int.toNat_natCast, h]
theorem val_slc (b n c : Nat) : AKind.val b (.slc n c) = .slc b 0 n c := rfl
theorem val_ptr (b : Nat) : AKind.val b .ptr = .ptr b 0 := rfl
theorem next_alloc (H : AHeap) (o : AObj) : (H.alloc o).next = H.next + 1 := rfl
def slSV (H : AHeap) (es : Nat) (x : AV) (lo hi : Option AV) : Option AV := ROp.run H .nil (.slS es (.c x) (lo.map .c) (hi.map .c))
theorem run_slS (H : AHeap) (e : Env) (es : Nat) (x : Opd) (lo hi : Option Opd) : ROp.run H e (.slS es x lo hi) = slSV H es (x.ev e) (lo.map (·.ev e)) (hi.map (·.ev e)) := by
  cases lo <;> cases hi <;> rfl
theorem Hp.slice (h : Hp base H l) {b n k : Nat} {cs : List AV} (hx : ⟨b, 1, cs⟩ ∈ l) (hk : k ≤ n) : slSV H 1 (.slc b 0 n n) none (some (.int .i64 k)) = some (.slc b 0 k n) := by
  obtain ⟨es, ty, h1, h2⟩ := h.has _ hx
  simp only at h1 h2
  simp only [slSV, ROp.run, Opd.ev, Option.map_some, Option.map_none, bounds, bound, if_pos (show 0 ≤ (k : Int) ∧ (k : Int) ≤ (n : Int) by omega), Int.toNat_natCast, h1, if_pos h2]
  simp
theorem bin_adds (a b : List UInt8) (h : a.length + b.length ≤ 9223372036854775807) : binV .add (.str a) (.str b) = some (.str (a ++ b)) := by
  simp only [binV, strBin, if_pos h]
/-- a store of one cell -/
theorem Hp.store {b k : Nat} {cs : List AV} (h : Hp base H (⟨b, k, cs⟩ :: l)) {o : Nat} {v : AV} (hv : v.one = true) (ho : o < cs.length) :
    ∃ H', storeE H 1 (.ptr b o) v = some (.undef, H') ∧ Hp base H' (⟨b, k, cs.set o v⟩ :: l) ∧ Keep base H H' ∧ H'.next = H.next := by
  obtain ⟨es, ty, h1, h2⟩ := (h.has ⟨b, k, cs⟩ (by simp)).row
  simp only at h1 h2
  have hc : v.cells = [v] := by cases v <;> first | rfl | (simp [AV.one] at hv)
  refine ⟨H.set b (.row ⟨cs.set o v, es, false, true, ty⟩), ?_, h.set _ _ h2, h.keep_set _, rfl⟩
  simp only [storeE, EOp.run, Opd.ev, hc, List.length_cons, List.length_nil, Nat.zero_add, if_true, storeA, h1, List.all_cons, hv, List.all_nil, Bool.and_true, and_true, over]
  simp [Nat.succ_le_of_lt ho]
/-- an append of one cell to a slice that fills its block -/
theorem Hp.append1 {b : Nat} {cs : List AV} (h : Hp base H (⟨b, 1, cs⟩ :: l)) {n bytes : Nat} (hn : cs.length = n) {b2 o2 c2 : Nat} {B2 : Blk} {v : AV} (hb2 : H.row b2 = some B2) (hv : B2.cells[o2]? = some v) (hv1 : v.one = true) (hb : 0 < bytes) (hs : (n + 1) * bytes ≤ 70368744177664) :
    ∃ H', appendE H 1 bytes (.slc b 0 n n) (.slc b2 o2 1 c2) = some (.slc H.next 0 (n + 1) (n + 1), H') ∧ Hp base H' (⟨H.next, 1, cs ++ [v]⟩ :: l) ∧ Keep base H H' := by
  obtain ⟨es, ty, h1, h2⟩ := (h.has ⟨b, 1, cs⟩ (by simp)).row
  simp only at h1 h2
  have hcut2 : cut B2.cells o2 1 = some [v] := by
    have hlt : o2 < B2.cells.length := (List.getElem?_eq_some_iff.1 hv).1
    unfold cut
    rw [if_pos (by omega)]
    congr 1
    rw [List.drop_eq_getElem_cons hlt]
    simp only [List.take_succ_cons, List.take_zero]
    rw [(List.getElem?_eq_some_iff.1 hv).2]
  have hsrc : srcCells H 1 (.slc b2 o2 1 c2) = some (1, [v]) := by
    simp only [srcCells, Nat.one_ne_zero, if_false, hb2, Nat.mul_one, hcut2]
  have hcut : cut cs 0 (n * 1) = some cs := by
    unfold cut
    rw [if_pos (by omega)]
    simp [← hn]
  have hsz : (n + 1) * bytes ≤ 70368744177664 ∧ n + 1 ≤ 70368744177664 := ⟨hs, Nat.le_trans (Nat.le_mul_of_pos_right _ hb) hs⟩
  rcases h2 with rfl | rfl
  · refine ⟨H.alloc (.row ⟨cs ++ [v], 1, false, true, 0⟩), ?_, ?_, h.keep_alloc _⟩
    · simp only [appendE, EOp.run, Opd.ev, hsrc, appendA, h1, hcut]
      rw [if_neg (by simp [hv1]; omega), if_neg (by omega), if_neg (by simpa using hsz)]
      simp
    · exact h.drop.alloc _ _ _ (.inr rfl)
  · refine ⟨(H.set b (.row ⟨cs, 1, false, false, ty⟩)).alloc (.row ⟨cs ++ [v], 1, false, true, 0⟩), ?_, ?_, (h.keep_set _).trans ((h.kill ⟨cs, 1, false, false, ty⟩).keep_alloc _)⟩
    · simp only [appendE, EOp.run, Opd.ev, hsrc, appendA, h1, hcut]
      rw [if_neg (by simp [hv1]; omega), if_neg (by omega), if_neg (by simpa using hsz)]
      simp
    · exact (h.kill ⟨cs, 1, false, false, ty⟩).alloc _ _ _ (.inr rfl)
/-- all cells of a slice, behind an empty one, into a fresh block -/
theorem Hp.clone {N : Nat} (h : Hp base H (⟨N, 1, []⟩ :: l)) {bytes : Nat} {b2 m c2 : Nat} {cs : List AV} {B2 : Blk} (hb2 : H.row b2 = some B2) (hcs : B2.cells = cs) (hm : cs.length = m) (h1 : cs.all AV.one = true) (hm0 : 0 < m) (hb : 0 < bytes) (hs : m * bytes ≤ 70368744177664) :
    ∃ H', appendE H 1 bytes (.slc N 0 0 0) (.slc b2 0 m c2) = some (.slc H.next 0 m m, H') ∧ Hp base H' (⟨H.next, 1, cs⟩ :: l) ∧ Keep base H H' := by
  obtain ⟨es, ty, r1, r2⟩ := (h.has ⟨N, 1, []⟩ (by simp)).row
  simp only at r1 r2
  have hsrc : srcCells H 1 (.slc b2 0 m c2) = some (m, cs) := by
    simp only [srcCells, if_neg (by omega : ¬ m = 0), hb2, Nat.mul_one, hcs]
    have : cut cs 0 m = some cs := by unfold cut; rw [if_pos (by omega)]; simp [← hm]
    rw [this]
  have hcut : cut ([] : List AV) 0 (0 * 1) = some [] := rfl
  have hsz : m * bytes ≤ 70368744177664 ∧ m ≤ 70368744177664 := ⟨hs, Nat.le_trans (Nat.le_mul_of_pos_right _ hb) hs⟩
  rcases r2 with rfl | rfl
  · refine ⟨H.alloc (.row ⟨cs, 1, false, true, 0⟩), ?_, h.drop.alloc _ _ _ (.inr rfl), h.keep_alloc _⟩
    simp only [appendE, EOp.run, Opd.ev, hsrc, appendA, r1, hcut]
    rw [if_neg (by simp [h1]; omega), if_neg (by omega), if_neg (by simpa using hsz)]
    simp
  · refine ⟨(H.set N (.row ⟨[], 1, false, false, ty⟩)).alloc (.row ⟨cs, 1, false, true, 0⟩), ?_, (h.kill ⟨[], 1, false, false, ty⟩).alloc _ _ _ (.inr rfl), (h.keep_set _).trans ((h.kill ⟨[], 1, false, false, ty⟩).keep_alloc _)⟩
    simp only [appendE, EOp.run, Opd.ev, hsrc, appendA, r1, hcut]
    rw [if_neg (by simp [h1]; omega), if_neg (by omega), if_neg (by simpa using hsz)]
    simp
theorem run_bslice0 (e : Env) (es : Nat) : LOp.run e (.bslice es 0 [] []) = some (.row ⟨[], 0, false, true, 0⟩, .slc 0 0) := by
  simp [LOp.run, zeros, buildIn]
/-- an append of one cell to nothing -/
theorem Hp.append0 (h : Hp base H l) {bytes : Nat} {b2 o2 c2 : Nat} {B2 : Blk} {v : AV} (hb2 : H.row b2 = some B2) (hv : B2.cells[o2]? = some v) (hv1 : v.one = true) (hb : 0 < bytes) (hs : bytes ≤ 70368744177664) :
    ∃ H', appendE H 1 bytes .nils (.slc b2 o2 1 c2) = some (.slc H.next 0 1 1, H') ∧ Hp base H' (⟨H.next, 1, [v]⟩ :: l) ∧ Keep base H H' := by
  have hcut2 : cut B2.cells o2 1 = some [v] := by
    have hlt : o2 < B2.cells.length := (List.getElem?_eq_some_iff.1 hv).1
    unfold cut
    rw [if_pos (by omega)]
    congr 1
    rw [List.drop_eq_getElem_cons hlt]
    simp only [List.take_succ_cons, List.take_zero]
    rw [(List.getElem?_eq_some_iff.1 hv).2]
  have hsrc : srcCells H 1 (.slc b2 o2 1 c2) = some (1, [v]) := by
    simp only [srcCells, Nat.one_ne_zero, if_false, hb2, Nat.mul_one, hcut2]
  refine ⟨H.alloc (.row ⟨[v], 1, false, true, 0⟩), ?_, h.alloc _ _ _ (.inr rfl), h.keep_alloc _⟩
  simp only [appendE, EOp.run, Opd.ev, hsrc, appendA]
  rw [if_neg (by simp [hv1]; omega), if_neg (by omega), if_pos (by omega)]
end
set_option linter.defProp false in
/-- the lemmas of a walk, in one -/
def SX0 := (And.intro (And.intro (And.intro (And.intro (And.intro (And.intro @wp_skip (And.intro @wp_ops @wp_seq)) (And.intro @wp_cond (And.intro @wp_block @wp_exit))) (And.intro (And.intro @wp_ret (And.intro @wops_nil @wops_cons)) (And.intro (And.intro @stepX_r @stepX_a) (And.intro @stepX_e @bindO_some)))) (And.intro (And.intro (And.intro @bindA_some (And.intro @nextV_eq @nextA_eq)) (And.intro (And.intro @nextE_eq @seqK_normal) (And.intro @seqK_exit @seqK_ret))) (And.intro (And.intro @blockK_normal (And.intro @blockK_exit @blockK_ret)) (And.intro (And.intro @loopK_normal @loopK_exit) (And.intro @loopK_ret @condK_true))))) (And.intro (And.intro (And.intro (And.intro @condK_false (And.intro @fnK_normal @fnK_ret)) (And.intro (And.intro @bindR_some @want_none) (And.intro @want_some @wantV_true))) (And.intro (And.intro @wantV_false (And.intro @Env.get_put @Env.get_init)) (And.intro (And.intro @run_mv @run_pick) (And.intro @run_nilck @run_bin)))) (And.intro (And.intro (And.intro @run_beq (And.intro @run_nileq @run_seq)) (And.intro (And.intro @run_neg @run_not) (And.intro @run_cvInt @run_cvRune))) (And.intro (And.intro @run_cvStr (And.intro @run_mkIface @run_field)) (And.intro (And.intro @run_fieldAddr @run_idxS) (And.intro @run_idxA @run_idxArr)))))) (And.intro (And.intro (And.intro (And.intro (And.intro @run_idxStr (And.intro @run_extract @run_lng)) (And.intro @run_load (And.intro @run_strOfBytes @run_lenC))) (And.intro (And.intro @run_mkFn (And.intro @run_mnmx @pickV_true)) (And.intro (And.intro @pickV_false @nilckV_ptr) (And.intro @beqV_bool @negV_int)))) (And.intro (And.intro (And.intro @notV_bool (And.intro @cvIntV_int @cvStrV_str)) (And.intro (And.intro @fieldAddrV_ptr @lngV_str) (And.intro @lngV_nils @lngV_slc))) (And.intro (And.intro @bin_add (And.intro @bin_sub @bin_mul)) (And.intro (And.intro @bin_eql @bin_neq) (And.intro @bin_lss @bin_leq))))) (And.intro (And.intro (And.intro (And.intro @bin_gtr (And.intro @bin_geq @mnmxV2max)) (And.intro (And.intro @mnmxV2min @wp_loop) (And.intro @echoOk_nil @wp_call))) (And.intro (And.intro @wp_store (And.intro @wp_append @bindX_some)) (And.intro (And.intro @run_bslice1 @bs1V_int) (And.intro @bs1V_slc @bs1V_nils)))) (And.intro (And.intro (And.intro @val_slc (And.intro @val_ptr @nileq_ptr)) (And.intro (And.intro @nilne_ptr @nileq_nilp) (And.intro @nilne_nilp @nileq_slc))) (And.intro (And.intro @nilne_slc (And.intro @nileq_nils @nilne_nils)) (And.intro (And.intro @run_build0 @run_box) (And.intro @run_bslice0 @run_slS)))))))
set_option linter.defProp false in
/-- more lemmas of a walk, in one -/
def SY := (And.intro (And.intro (And.intro (And.intro @Bool.false_eq_true @Bool.not_false) (And.intro @Bool.not_true @List.getD_cons_succ.{0})) (And.intro (And.intro @List.getD_cons_zero.{0} @List.map_cons.{0,0}) (And.intro @List.map_nil.{0,0} @Nat.add_zero))) (And.intro (And.intro (And.intro @Nat.zero_add @Option.map_none.{0,0}) (And.intro @Option.map_some.{0,0} @Option.some.injEq.{0})) (And.intro (And.intro @and_true @decide_false) (And.intro @decide_true @true_and))))
theorem oR_eq (i d : Nat) (x : ROp) : oR i d x = ⟨i, some d, none, .r x, []⟩ := rfl
theorem oT_eq (i d g : Nat) (x : ROp) : oT i d g x = ⟨i, some d, some (g, true), .r x, []⟩ := rfl
theorem oN_eq (i d g : Nat) (x : ROp) : oN i d g x = ⟨i, some d, some (g, false), .r x, []⟩ := rfl
theorem oM_eq (i d s : Nat) : oM i d s = ⟨i, some d, none, .r (.mv (.t s)), []⟩ := rfl
theorem oK_eq (i d s : Nat) : oK i d s = ⟨i, some d, none, .r (.nilck (.t s)), []⟩ := rfl
theorem oF_eq (i d f s : Nat) : oF i d f s = ⟨i, some d, none, .r (.fieldAddr f (.t s)), []⟩ := rfl
theorem oL_eq (i d s : Nat) : oL i d s = ⟨i, some d, none, .r (.load none (.t s)), []⟩ := rfl
theorem oE_eq (i d : Nat) (x : EOp) : oE i d x = ⟨i, some d, none, .e x, []⟩ := rfl
theorem oI_eq (n : Int) : oI n = .c (.int .i64 n) := rfl
set_option linter.defProp false in
def SZ := (And.intro (And.intro (And.intro (And.intro @Opd.ev.eq_1 @Opd.ev.eq_2) (And.intro @resVal.eq_1 @resVals.eq_1)) (And.intro (And.intro @resVals.eq_2 @ARes.val.eq_1) (And.intro @ARes.val.eq_2 @oR_eq))) (And.intro (And.intro (And.intro @oT_eq @oN_eq) (And.intro @oM_eq @oK_eq)) (And.intro (And.intro @oF_eq @oL_eq) (And.intro @oE_eq @oI_eq))))
set_option linter.defProp false in
/-- all lemmas of a walk, in one -/
def SX := And.intro SX0 (And.intro SY SZ)
set_option linter.defProp false in
/-- what reads a temporary -/
def SG := (And.intro (And.intro @Env.get_put (And.intro @Env.get_init @Option.some.injEq.{0})) (And.intro @List.getD_cons_succ.{0} @List.getD_cons_zero.{0}))
end Go.Proofs.YtdkpmlhbofgfdaaGreatDoor.AM
