/-
  EventsSame, walked on the abstract machine.
-/
import Derived.Test.YteockjhckmlclaaAmArgs2
import Derived.Test.YteockjhckmlclaaAmHeap
import Derived.Test.YteockjhckmlclaaCode
set_option linter.unusedVariables false
set_option linter.unusedSimpArgs false
namespace Go.Proofs.Yteockjhckmlclaa.AM
open Go
structure Gr (H H' : AHeap) : Prop where
  keep : Keep H.next H H'
  next : H.next ≤ H'.next
  fr : ∀ b, H'.next ≤ b → H'.get b = Option.none
def Fr (H : AHeap) : Prop := ∀ b, H.next ≤ b → H.get b = Option.none
theorem Gr.refl {H : AHeap} (h : Fr H) : Gr H H := ⟨Keep.refl _ _, Nat.le_refl _, h⟩
theorem Gr.trans {H H1 H2 : AHeap} (h : Gr H H1) (k : Gr H1 H2) : Gr H H2 := ⟨h.keep.trans (k.keep.le h.next), Nat.le_trans h.next k.next, k.fr⟩
theorem row_lt {H : AHeap} (hf : Fr H) {b : Nat} {B : Blk} (h : H.row b = some B) : b < H.next := Nat.lt_of_not_le fun hh => by
  have := hf b hh
  simp [AHeap.row, this] at h
theorem IsSl.grow {α : Type} {R : AHeap → α → AV → Prop} {H H' : AHeap} {v : AV} {l : List α} (hR : ∀ x c, R H x c → R H' x c) (h : IsSl R H v l) (hf : Fr H) (g : Gr H H') : IsSl R H' v l := by
  rcases h with h | ⟨b, o, cap, B, h1, h2, h3⟩
  · exact .inl h
  · refine .inr ⟨b, o, cap, B, h1, by rw [g.keep.row (row_lt hf h2)]; exact h2, fun i x hx => ?_⟩
    obtain ⟨c, k1, k2⟩ := h3 i x hx
    exact ⟨c, k1, hR _ _ k2⟩
theorem isInts_grow {H H' : AHeap} (hf : Fr H) (g : Gr H H') {v : AV} {L : List (List Int)} (h : IsSl IsInts H v L) : IsSl IsInts H' v L :=
  h.grow (fun x c hx => (show IsSl IsInt H' c x from IsSl.grow (R := IsInt) (H := H) (fun _ _ h => h) hx hf g)) hf g
/-- an event: its cells -/
structure Ev where
  k : Int
  r : Int
  f : Int
  m : List UInt8
  v : AV
  t : List UInt8
  L : List (List Int)
def Ev.cs (a : Ev) : List AV := [.int .i64 a.k, .int .i32 a.r, .int .u8 a.f, .str a.m, a.v, .str a.t]
def Ev.val (a : Ev) : AV := .agg a.cs
def Ev.ok (H : AHeap) (a : Ev) : Prop := IsSl IsInts H a.v a.L
theorem isSl_one {α : Type} {R : AHeap → α → AV → Prop} {H : AHeap} {v : AV} {l : List α} (h : IsSl R H v l) : v.one = true := by
  rcases h with ⟨rfl, _⟩ | ⟨b, o, cap, B, rfl, _⟩ <;> rfl
theorem box_ev {H : AHeap} {a : Ev} (h : a.ok H) : boxV a.val = some (.row ⟨a.cs, 0, false, true⟩, .ptr) := by
  rcases h with ⟨h, _⟩ | ⟨b, o, cap, B, h, _⟩ <;> simp [boxV, Ev.val, Ev.cs, AV.cells, AV.one, h]
/-- an event in a block -/
structure InE (H : AHeap) (p : Nat) (a : Ev) : Prop where
  l0 : loadV H Option.none (.ptr p 0) = some (.int .i64 a.k)
  l1 : loadV H Option.none (.ptr p 1) = some (.int .i32 a.r)
  l2 : loadV H Option.none (.ptr p 2) = some (.int .u8 a.f)
  l3 : loadV H Option.none (.ptr p 3) = some (.str a.m)
  l4 : loadV H Option.none (.ptr p 4) = some a.v
  l5 : loadV H Option.none (.ptr p 5) = some (.str a.t)
  all : loadV H (some 6) (.ptr p 0) = some a.val
theorem inE_of {H : AHeap} {p : Nat} {a : Ev} (hr : H.row p = some ⟨a.cs, 0, false, true⟩) : InE H p a := by
  constructor <;> simp only [loadV, ROp.run, Opd.ev, hr] <;> rfl
theorem boxed {H : AHeap} (hf : Fr H) (a : Ev) : ∃ H1, H.alloc (.row ⟨a.cs, 0, false, true⟩) = H1 ∧ Gr H H1 ∧ InE H1 H.next a ∧ H.next < H1.next := by
  obtain ⟨H1, e, h1, k1⟩ := (Hp.nil H hf).make a.cs 1
  refine ⟨H1, e, ⟨k1, h1.bn, h1.fr⟩, inE_of ?_, ?_⟩
  · rw [← e]; simp only [AHeap.row, AHeap.get_alloc, if_true]
  · rw [← e, AHeap.next_alloc]; exact Nat.lt_succ_self _
theorem InE.grow {H H' : AHeap} {p : Nat} {a : Ev} (k : InE H p a) (hg : Gr H H') (hp : p < H.next) : InE H' p a := by
  have hl : ∀ (sz : Option Nat) (o : Nat), loadV H' sz (.ptr p o) = loadV H sz (.ptr p o) := fun sz o => by
    simp only [loadV, ROp.run, Opd.ev, hg.keep.row hp]
  exact ⟨by rw [hl]; exact k.l0, by rw [hl]; exact k.l1, by rw [hl]; exact k.l2, by rw [hl]; exact k.l3, by rw [hl]; exact k.l4, by rw [hl]; exact k.l5, by rw [hl]; exact k.all⟩
theorem bin_eqls (a b : List UInt8) : binV .eql (.str a) (.str b) = some (.bool (decide (a = b))) := by
  simp only [binV, strBin]
  by_cases h : a = b <;> simp [h]
theorem take_succ_eq {α : Type} {L M : List α} {i : Nat} {x y : α} (hx : L[i]? = some x) (hy : M[i]? = some y) : L.take (i + 1) = M.take (i + 1) ↔ (L.take i = M.take i ∧ x = y) := by
  obtain ⟨h1, h2⟩ := List.getElem?_eq_some_iff.1 hx
  obtain ⟨h3, h4⟩ := List.getElem?_eq_some_iff.1 hy
  rw [List.take_add_one, List.take_add_one, hx, hy]
  simp only [Option.toList_some]
  constructor
  · intro h
    have := List.append_inj' h rfl
    exact ⟨this.1, by simpa using this.2⟩
  · rintro ⟨h, rfl⟩; rw [h]
section
variable {Q : Prog} (ho : ∀ f, (Nat.beq f 11 || Nat.beq f 24) = false → ∀ a, Q.orc f a = Option.none) {H : AHeap}
include ho
set_option maxHeartbeats 2000000 in
theorem equal_spec (q26 : Q.fns 26 = some A26) {a b : AV} {x y : List Int} (ha : IsSl IsInt H a x) (hb : IsSl IsInt H b y) (hx : x.length ≤ 9223372036854775807) :
    FnTo Q 26 [a, b] H (fun r H' => r = .bool (decide (x = y)) ∧ H' = H) := by
  refine fn_wp (ho 26 rfl _) q26 (by simp [A26]) ?_
  have la := ha.len
  have lb := hb.len
  by_cases hl : x.length = y.length
  · have hl' : (x.length : Int) = y.length := by omega
    rw [hl'] at la
    simp only [A26, la, lb, SX, Opd.ev, resVal, resVals, ARes.val, Bool.false_eq_true, Bool.not_false, Bool.not_true, List.getD_cons_succ, List.getD_cons_zero, List.map_cons, List.map_nil, Nat.add_zero, Nat.zero_add, Option.map_none, Option.map_some, Option.some.injEq, and_true, decide_false, decide_true, true_and, reduceCtorEq, Nat.reduceEqDiff, ↓reduceIte, Int.reduceEq, Int.reduceLT, Int.reduceLE, Nat.reduceAdd]
    obtain ⟨I, hI⟩ : ∃ I : Nat → Env → AHeap → Prop, ∀ m e H', I m e H' ↔ (H' = H ∧ ∃ i : Nat, m = y.length - i ∧ i ≤ y.length ∧ x.take i = y.take i ∧ Env.get e 0 = a ∧ Env.get e 1 = b ∧ Env.get e 12 = .int .i64 y.length ∧ Env.get e 13 = .int .i64 i) := ⟨_, fun _ _ _ => Iff.rfl⟩
    refine loop_by I y.length ?_ ?_
    · refine (hI _ _ _).2 ⟨rfl, 0, rfl, by omega, by simp, ?_⟩
      simp only [SX, Opd.ev, resVal, resVals, ARes.val, Bool.false_eq_true, Bool.not_false, Bool.not_true, List.getD_cons_succ, List.getD_cons_zero, List.map_cons, List.map_nil, Nat.add_zero, Nat.zero_add, Option.map_none, Option.map_some, Option.some.injEq, and_true, decide_false, decide_true, true_and, reduceCtorEq, Nat.reduceEqDiff, ↓reduceIte, Int.reduceEq, Int.reduceLT, Int.reduceLE, Nat.reduceAdd]
      rfl
    · intro m e H' hinv
      obtain ⟨rfl, i, rfl, hi, ht, e0, e1, e12, e13⟩ := (hI _ _ _).1 hinv
      by_cases c : (i : Int) < y.length
      · obtain ⟨u, hu⟩ : ∃ u, x[i]? = some u := ⟨_, List.getElem?_eq_getElem (by omega)⟩
        obtain ⟨w, hw⟩ : ∃ w, y[i]? = some w := ⟨_, List.getElem?_eq_getElem (by omega)⟩
        have xa := ha.at (i := i) (by omega) (by omega) .i64
        have xb := hb.at (i := i) (by omega) (by omega) .i64
        have ga := ha.int (i := i) (a := u) (by simpa using hu)
        have gb := hb.int (i := i) (a := w) (by simpa using hw)
        have w1 : IntKind.wrap .i64 ((i : Int) + 1) = ((i + 1 : Nat) : Int) := by rw [wrapI64 (by omega) (by omega)]; rfl
        by_cases c2 : u = w
        · simp only [e0, e1, e12, e13, c, xa, xb, ga, gb, c2, w1, SX, Opd.ev, resVal, resVals, ARes.val, Bool.false_eq_true, Bool.not_false, Bool.not_true, List.getD_cons_succ, List.getD_cons_zero, List.map_cons, List.map_nil, Nat.add_zero, Nat.zero_add, Option.map_none, Option.map_some, Option.some.injEq, and_true, decide_false, decide_true, true_and, reduceCtorEq, Nat.reduceEqDiff, ↓reduceIte, Int.reduceEq, Int.reduceLT, Int.reduceLE, Nat.reduceAdd]
          refine ⟨y.length - (i + 1), by omega, (hI _ _ _).2 ⟨rfl, i + 1, rfl, by omega, (take_succ_eq hu hw).2 ⟨ht, c2⟩, ?_⟩⟩
          simp only [e0, e1, e12, e13, SX, Opd.ev, resVal, resVals, ARes.val, Bool.false_eq_true, Bool.not_false, Bool.not_true, List.getD_cons_succ, List.getD_cons_zero, List.map_cons, List.map_nil, Nat.add_zero, Nat.zero_add, Option.map_none, Option.map_some, Option.some.injEq, and_true, decide_false, decide_true, true_and, reduceCtorEq, Nat.reduceEqDiff, ↓reduceIte, Int.reduceEq, Int.reduceLT, Int.reduceLE, Nat.reduceAdd]
        · simp only [e0, e1, e12, e13, c, xa, xb, ga, gb, c2, w1, SX, Opd.ev, resVal, resVals, ARes.val, Bool.false_eq_true, Bool.not_false, Bool.not_true, List.getD_cons_succ, List.getD_cons_zero, List.map_cons, List.map_nil, Nat.add_zero, Nat.zero_add, Option.map_none, Option.map_some, Option.some.injEq, and_true, decide_false, decide_true, true_and, reduceCtorEq, Nat.reduceEqDiff, ↓reduceIte, Int.reduceEq, Int.reduceLT, Int.reduceLE, Nat.reduceAdd]
          have : ¬ x = y := fun h => by subst h; rw [hu] at hw; injection hw with hw; exact c2 hw
          simp [this]
      · have : x = y := by
          have hi' : i = y.length := by omega
          subst hi'
          rw [List.take_of_length_le (by omega), List.take_of_length_le (by omega)] at ht
          exact ht
        simp only [e0, e1, e12, e13, c, SX, Opd.ev, resVal, resVals, ARes.val, Bool.false_eq_true, Bool.not_false, Bool.not_true, List.getD_cons_succ, List.getD_cons_zero, List.map_cons, List.map_nil, Nat.add_zero, Nat.zero_add, Option.map_none, Option.map_some, Option.some.injEq, and_true, decide_false, decide_true, true_and, reduceCtorEq, Nat.reduceEqDiff, ↓reduceIte, Int.reduceEq, Int.reduceLT, Int.reduceLE, Nat.reduceAdd]
        simp [this]
  · have hl' : ¬ (x.length : Int) = y.length := by omega
    simp only [A26, la, lb, hl', SX, Opd.ev, resVal, resVals, ARes.val, Bool.false_eq_true, Bool.not_false, Bool.not_true, List.getD_cons_succ, List.getD_cons_zero, List.map_cons, List.map_nil, Nat.add_zero, Nat.zero_add, Option.map_none, Option.map_some, Option.some.injEq, and_true, decide_false, decide_true, true_and, reduceCtorEq, Nat.reduceEqDiff, ↓reduceIte, Int.reduceEq, Int.reduceLT, Int.reduceLE, Nat.reduceAdd]
    have : ¬ x = y := fun h => hl (by rw [h])
    simp [this]
set_option maxHeartbeats 2000000 in
theorem eqfunc_spec (q25 : Q.fns 25 = some A25) (q26 : Q.fns 26 = some A26) {a b : AV} {L M : List (List Int)} (ha : IsSl IsInts H a L) (hb : IsSl IsInts H b M) (hx : L.length ≤ 9223372036854775807) (hL : ∀ x ∈ L, x.length ≤ 9223372036854775807) :
    FnTo Q 25 [a, b, .fn (.func 26) [] []] H (fun r H' => r = .bool (decide (L = M)) ∧ H' = H) := by
  refine fn_wp (ho 25 rfl _) q25 (by simp [A25]) ?_
  have la := ha.len
  have lb := hb.len
  by_cases hl : L.length = M.length
  · have hl' : (L.length : Int) = M.length := by omega
    rw [hl'] at la
    simp only [A25, la, lb, SX, Opd.ev, resVal, resVals, ARes.val, Bool.false_eq_true, Bool.not_false, Bool.not_true, List.getD_cons_succ, List.getD_cons_zero, List.map_cons, List.map_nil, Nat.add_zero, Nat.zero_add, Option.map_none, Option.map_some, Option.some.injEq, and_true, decide_false, decide_true, true_and, reduceCtorEq, Nat.reduceEqDiff, ↓reduceIte, Int.reduceEq, Int.reduceLT, Int.reduceLE, Nat.reduceAdd]
    obtain ⟨I, hI⟩ : ∃ I : Nat → Env → AHeap → Prop, ∀ m e H', I m e H' ↔ (H' = H ∧ ∃ i : Nat, m = M.length - i ∧ i ≤ M.length ∧ L.take i = M.take i ∧ Env.get e 15 = a ∧ Env.get e 1 = b ∧ Env.get e 2 = .fn (.func 26) [] [] ∧ Env.get e 16 = .int .i64 M.length ∧ Env.get e 17 = .int .i64 i) := ⟨_, fun _ _ _ => Iff.rfl⟩
    refine loop_by I M.length ?_ ?_
    · refine (hI _ _ _).2 ⟨rfl, 0, rfl, by omega, by simp, ?_⟩
      simp only [SX, Opd.ev, resVal, resVals, ARes.val, Bool.false_eq_true, Bool.not_false, Bool.not_true, List.getD_cons_succ, List.getD_cons_zero, List.map_cons, List.map_nil, Nat.add_zero, Nat.zero_add, Option.map_none, Option.map_some, Option.some.injEq, and_true, decide_false, decide_true, true_and, reduceCtorEq, Nat.reduceEqDiff, ↓reduceIte, Int.reduceEq, Int.reduceLT, Int.reduceLE, Nat.reduceAdd]
      rfl
    · intro m e H' hinv
      obtain ⟨rfl, i, rfl, hi, ht, e15, e1, e2, e16, e17⟩ := (hI _ _ _).1 hinv
      by_cases c : (i : Int) < M.length
      · obtain ⟨u, hu⟩ : ∃ u, L[i]? = some u := ⟨_, List.getElem?_eq_getElem (by omega)⟩
        obtain ⟨w, hw⟩ : ∃ w, M[i]? = some w := ⟨_, List.getElem?_eq_getElem (by omega)⟩
        have xa := ha.at (i := i) (by omega) (by omega) .i64
        have xb := hb.at (i := i) (by omega) (by omega) .i64
        obtain ⟨ca, ga, ia⟩ := ha.get (i := i) (a := u) (by simpa using hu)
        obtain ⟨cb, gb, ib⟩ := hb.get (i := i) (a := w) (by simpa using hw)
        have w1 : IntKind.wrap .i64 ((i : Int) + 1) = ((i + 1 : Nat) : Int) := by rw [wrapI64 (by omega) (by omega)]; rfl
        simp only [e15, e1, e2, e16, e17, c, xa, xb, ga, gb, w1, EOp.wp, List.nil_append, List.append_nil, SX, Opd.ev, resVal, resVals, ARes.val, Bool.false_eq_true, Bool.not_false, Bool.not_true, List.getD_cons_succ, List.getD_cons_zero, List.map_cons, List.map_nil, Nat.add_zero, Nat.zero_add, Option.map_none, Option.map_some, Option.some.injEq, and_true, decide_false, decide_true, true_and, reduceCtorEq, Nat.reduceEqDiff, ↓reduceIte, Int.reduceEq, Int.reduceLT, Int.reduceLE, Nat.reduceAdd]
        refine (equal_spec ho q26 ia ib (hL u (List.mem_of_getElem? hu))).mono ?_
        rintro r H2 ⟨rfl, rfl⟩
        by_cases c2 : u = w
        · simp only [e15, e1, e2, e16, e17, c, c2, w1, nextE_eq, SX, Opd.ev, resVal, resVals, ARes.val, Bool.false_eq_true, Bool.not_false, Bool.not_true, List.getD_cons_succ, List.getD_cons_zero, List.map_cons, List.map_nil, Nat.add_zero, Nat.zero_add, Option.map_none, Option.map_some, Option.some.injEq, and_true, decide_false, decide_true, true_and, reduceCtorEq, Nat.reduceEqDiff, ↓reduceIte, Int.reduceEq, Int.reduceLT, Int.reduceLE, Nat.reduceAdd]
          refine ⟨M.length - (i + 1), by omega, (hI _ _ _).2 ⟨rfl, i + 1, rfl, by omega, (take_succ_eq hu hw).2 ⟨ht, c2⟩, ?_⟩⟩
          simp only [e15, e1, e2, e16, e17, SX, Opd.ev, resVal, resVals, ARes.val, Bool.false_eq_true, Bool.not_false, Bool.not_true, List.getD_cons_succ, List.getD_cons_zero, List.map_cons, List.map_nil, Nat.add_zero, Nat.zero_add, Option.map_none, Option.map_some, Option.some.injEq, and_true, decide_false, decide_true, true_and, reduceCtorEq, Nat.reduceEqDiff, ↓reduceIte, Int.reduceEq, Int.reduceLT, Int.reduceLE, Nat.reduceAdd]
        · simp only [e15, e1, e2, e16, e17, c, c2, w1, nextE_eq, SX, Opd.ev, resVal, resVals, ARes.val, Bool.false_eq_true, Bool.not_false, Bool.not_true, List.getD_cons_succ, List.getD_cons_zero, List.map_cons, List.map_nil, Nat.add_zero, Nat.zero_add, Option.map_none, Option.map_some, Option.some.injEq, and_true, decide_false, decide_true, true_and, reduceCtorEq, Nat.reduceEqDiff, ↓reduceIte, Int.reduceEq, Int.reduceLT, Int.reduceLE, Nat.reduceAdd]
          have : ¬ L = M := fun h => by subst h; rw [hu] at hw; injection hw with hw; exact c2 hw
          simp [this]
      · have : L = M := by
          have hi' : i = M.length := by omega
          subst hi'
          rw [List.take_of_length_le (by omega), List.take_of_length_le (by omega)] at ht
          exact ht
        simp only [e15, e1, e2, e16, e17, c, SX, Opd.ev, resVal, resVals, ARes.val, Bool.false_eq_true, Bool.not_false, Bool.not_true, List.getD_cons_succ, List.getD_cons_zero, List.map_cons, List.map_nil, Nat.add_zero, Nat.zero_add, Option.map_none, Option.map_some, Option.some.injEq, and_true, decide_false, decide_true, true_and, reduceCtorEq, Nat.reduceEqDiff, ↓reduceIte, Int.reduceEq, Int.reduceLT, Int.reduceLE, Nat.reduceAdd]
        simp [this]
  · have hl' : ¬ (L.length : Int) = M.length := by omega
    simp only [A25, la, lb, hl', SX, Opd.ev, resVal, resVals, ARes.val, Bool.false_eq_true, Bool.not_false, Bool.not_true, List.getD_cons_succ, List.getD_cons_zero, List.map_cons, List.map_nil, Nat.add_zero, Nat.zero_add, Option.map_none, Option.map_some, Option.some.injEq, and_true, decide_false, decide_true, true_and, reduceCtorEq, Nat.reduceEqDiff, ↓reduceIte, Int.reduceEq, Int.reduceLT, Int.reduceLE, Nat.reduceAdd]
    have : ¬ L = M := fun h => hl (by rw [h])
    simp [this]
end
def evEq (a b : Ev) : Bool := decide (a.k = b.k ∧ a.r = b.r ∧ a.f = b.f ∧ a.m = b.m ∧ a.t = b.t ∧ a.L = b.L)
section
variable {Q : Prog} (ho : ∀ f, (Nat.beq f 11 || Nat.beq f 24) = false → ∀ a, Q.orc f a = Option.none) (q12 : Q.fns 12 = some A12) (q25 : Q.fns 25 = some A25) (q26 : Q.fns 26 = some A26) {H : AHeap} (hf : Fr H)
include ho q12 q25 q26 hf
set_option maxHeartbeats 4000000 in
theorem same_spec {a b : Ev} (ha : a.ok H) (hb : b.ok H) (hx : a.L.length ≤ 9223372036854775807) (hL : ∀ x ∈ a.L, x.length ≤ 9223372036854775807) :
    FnTo Q 12 [a.val, b.val] H (fun r H' => r = .bool (evEq a b) ∧ Gr H H') := by
  refine fn_wp (ho 12 rfl _) q12 (by simp [A12]) ?_
  obtain ⟨H1, e1, g1, i1, p1⟩ := boxed hf a
  obtain ⟨H2, e2, g2, i2, p2⟩ := boxed g1.fr b
  have j1 := i1.grow g2 p1
  have g := g1.trans g2
  obtain ⟨a0, a1, a2, a3, a4, a5, a6⟩ := j1
  obtain ⟨b0, b1, b2, b3, b4, b5, b6⟩ := i2
  by_cases c1 : a.k = b.k
  · by_cases c2 : a.r = b.r
    · by_cases c3 : a.f = b.f
      · by_cases c4 : a.m = b.m
        · by_cases c5 : a.t = b.t
          · simp only [A12, box_ev ha, box_ev hb, e1, e2, a0, a1, a2, a3, a4, a5, b0, b1, b2, b3, b4, b5, bin_eqls, c1, c2, c3, c4, c5, SX, Opd.ev, resVal, resVals, ARes.val, Bool.false_eq_true, Bool.not_false, Bool.not_true, List.getD_cons_succ, List.getD_cons_zero, List.map_cons, List.map_nil, Nat.add_zero, Nat.zero_add, Option.map_none, Option.map_some, Option.some.injEq, and_true, decide_false, decide_true, true_and, reduceCtorEq, Nat.reduceEqDiff, ↓reduceIte, Int.reduceEq, Int.reduceLT, Int.reduceLE, Nat.reduceAdd]
            refine (eqfunc_spec ho q25 q26 (isInts_grow hf g ha) (isInts_grow hf g hb) hx hL).mono ?_
            rintro r H3 ⟨rfl, rfl⟩
            simp only [SX, Opd.ev, resVal, resVals, ARes.val, Bool.false_eq_true, Bool.not_false, Bool.not_true, List.getD_cons_succ, List.getD_cons_zero, List.map_cons, List.map_nil, Nat.add_zero, Nat.zero_add, Option.map_none, Option.map_some, Option.some.injEq, and_true, decide_false, decide_true, true_and, reduceCtorEq, Nat.reduceEqDiff, ↓reduceIte, Int.reduceEq, Int.reduceLT, Int.reduceLE, Nat.reduceAdd]
            exact ⟨by simp [evEq, c1, c2, c3, c4, c5], g⟩
          · simp only [A12, box_ev ha, box_ev hb, e1, e2, a0, a1, a2, a3, a4, a5, b0, b1, b2, b3, b4, b5, bin_eqls, c1, c2, c3, c4, c5, SX, Opd.ev, resVal, resVals, ARes.val, Bool.false_eq_true, Bool.not_false, Bool.not_true, List.getD_cons_succ, List.getD_cons_zero, List.map_cons, List.map_nil, Nat.add_zero, Nat.zero_add, Option.map_none, Option.map_some, Option.some.injEq, and_true, decide_false, decide_true, true_and, reduceCtorEq, Nat.reduceEqDiff, ↓reduceIte, Int.reduceEq, Int.reduceLT, Int.reduceLE, Nat.reduceAdd]
            exact ⟨by simp [evEq, c5], g⟩
        · simp only [A12, box_ev ha, box_ev hb, e1, e2, a0, a1, a2, a3, a4, a5, b0, b1, b2, b3, b4, b5, bin_eqls, c1, c2, c3, c4, SX, Opd.ev, resVal, resVals, ARes.val, Bool.false_eq_true, Bool.not_false, Bool.not_true, List.getD_cons_succ, List.getD_cons_zero, List.map_cons, List.map_nil, Nat.add_zero, Nat.zero_add, Option.map_none, Option.map_some, Option.some.injEq, and_true, decide_false, decide_true, true_and, reduceCtorEq, Nat.reduceEqDiff, ↓reduceIte, Int.reduceEq, Int.reduceLT, Int.reduceLE, Nat.reduceAdd]
          exact ⟨by simp [evEq, c4], g⟩
      · simp only [A12, box_ev ha, box_ev hb, e1, e2, a0, a1, a2, a3, a4, a5, b0, b1, b2, b3, b4, b5, bin_eqls, c1, c2, c3, SX, Opd.ev, resVal, resVals, ARes.val, Bool.false_eq_true, Bool.not_false, Bool.not_true, List.getD_cons_succ, List.getD_cons_zero, List.map_cons, List.map_nil, Nat.add_zero, Nat.zero_add, Option.map_none, Option.map_some, Option.some.injEq, and_true, decide_false, decide_true, true_and, reduceCtorEq, Nat.reduceEqDiff, ↓reduceIte, Int.reduceEq, Int.reduceLT, Int.reduceLE, Nat.reduceAdd]
        exact ⟨by simp [evEq, c3], g⟩
    · simp only [A12, box_ev ha, box_ev hb, e1, e2, a0, a1, a2, a3, a4, a5, b0, b1, b2, b3, b4, b5, bin_eqls, c1, c2, SX, Opd.ev, resVal, resVals, ARes.val, Bool.false_eq_true, Bool.not_false, Bool.not_true, List.getD_cons_succ, List.getD_cons_zero, List.map_cons, List.map_nil, Nat.add_zero, Nat.zero_add, Option.map_none, Option.map_some, Option.some.injEq, and_true, decide_false, decide_true, true_and, reduceCtorEq, Nat.reduceEqDiff, ↓reduceIte, Int.reduceEq, Int.reduceLT, Int.reduceLE, Nat.reduceAdd]
      exact ⟨by simp [evEq, c2], g⟩
  · simp only [A12, box_ev ha, box_ev hb, e1, e2, a0, a1, a2, a3, a4, a5, b0, b1, b2, b3, b4, b5, bin_eqls, c1, SX, Opd.ev, resVal, resVals, ARes.val, Bool.false_eq_true, Bool.not_false, Bool.not_true, List.getD_cons_succ, List.getD_cons_zero, List.map_cons, List.map_nil, Nat.add_zero, Nat.zero_add, Option.map_none, Option.map_some, Option.some.injEq, and_true, decide_false, decide_true, true_and, reduceCtorEq, Nat.reduceEqDiff, ↓reduceIte, Int.reduceEq, Int.reduceLT, Int.reduceLE, Nat.reduceAdd]
    exact ⟨by simp [evEq, c1], g⟩
end
end Go.Proofs.Yteockjhckmlclaa.AM
