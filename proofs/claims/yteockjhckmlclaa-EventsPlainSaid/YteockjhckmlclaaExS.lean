/-
  The parser of events, walked on the abstract machine (turned to the machine with types).
-/
import Derived.Test.YteockjhckmlclaaCode
import Derived.Test.YteockjhckmlclaaAmBit
set_option linter.unusedVariables false
set_option linter.unusedSimpArgs false
namespace Go.Proofs.Yteockjhckmlclaa.AM
open Go
theorem row_lt {H : AHeap} (hf : Fr H) {b : Nat} {B : Blk} (h : H.row b = some B) : b < H.next := Nat.lt_of_not_le fun hh => by
  have := hf b hh
  simp [AHeap.row, this] at h
theorem IsSl.grow {α : Type} {R : AHeap → α → AV → Prop} {H H' : AHeap} {v : AV} {l : List α} (hR : ∀ x c, R H x c → R H' x c) (h : IsSl R H v l) (hf : Fr H) (g : Gr H H') : IsSl R H' v l := by
  rcases h with h | ⟨b, o, cap, B, h1, h2, h3⟩
  · exact .inl h
  · refine .inr ⟨b, o, cap, B, h1, by rw [g.keep.row (row_lt hf h2)]; exact h2, fun i x hx => ?_⟩
    obtain ⟨c, k1, k2⟩ := h3 i x hx
    exact ⟨c, k1, hR _ _ k2⟩
theorem isInts_grow {H H' : AHeap} (hf : Fr H) (g : Gr H H') {v : AV} {L : List (List Int)} (h : IsSl IsInts H v L) : IsSl IsInts H' v L :=
  h.grow (fun x c hx => (show IsSl IsInt H' c x from IsSl.grow (R := IsInt) (H := H) (fun _ _ h => h) hx hf g)) hf g
/-- an event: its cells -/
structure Ev where
  k : Int
  r : Int
  f : Int
  m : List UInt8
  v : AV
  t : List UInt8
  L : List (List Int)
def Ev.cs (a : Ev) : List AV := [.int .i64 a.k, .int .i32 a.r, .int .u8 a.f, .str a.m, a.v, .str a.t]
def Ev.val (a : Ev) : AV := .agg a.cs
def Ev.ok (H : AHeap) (a : Ev) : Prop := IsSl IsInts H a.v a.L
theorem isSl_one {α : Type} {R : AHeap → α → AV → Prop} {H : AHeap} {v : AV} {l : List α} (h : IsSl R H v l) : v.one = true := by
  rcases h with ⟨rfl, _⟩ | ⟨b, o, cap, B, rfl, _⟩ <;> rfl
theorem box_ev {H : AHeap} {a : Ev} (h : a.ok H) : boxV a.val = some (.row ⟨a.cs, 0, false, true, 0⟩, .ptr) := by
  rcases h with ⟨h, _⟩ | ⟨b, o, cap, B, h, _⟩ <;> simp [boxV, Ev.val, Ev.cs, AV.cells, AV.one, h]
/-- an event in a block -/
structure InE (H : AHeap) (p : Nat) (a : Ev) : Prop where
  l0 : loadV H Option.none (.ptr p 0) = some (.int .i64 a.k)
  l1 : loadV H Option.none (.ptr p 1) = some (.int .i32 a.r)
  l2 : loadV H Option.none (.ptr p 2) = some (.int .u8 a.f)
  l3 : loadV H Option.none (.ptr p 3) = some (.str a.m)
  l4 : loadV H Option.none (.ptr p 4) = some a.v
  l5 : loadV H Option.none (.ptr p 5) = some (.str a.t)
  all : loadV H (some 6) (.ptr p 0) = some a.val
theorem inE_of {H : AHeap} {p : Nat} {a : Ev} (hr : H.row p = some ⟨a.cs, 0, false, true, 0⟩) : InE H p a := by
  constructor <;> simp only [loadV, ROp.run, Opd.ev, hr] <;> rfl
theorem boxed {H : AHeap} (hf : Fr H) (a : Ev) : ∃ H1, H.alloc (.row ⟨a.cs, 0, false, true, 0⟩) = H1 ∧ Gr H H1 ∧ InE H1 H.next a ∧ H.next < H1.next := by
  obtain ⟨H1, e, h1, k1⟩ := (Hp.nil H hf).make a.cs 1
  refine ⟨H1, e, ⟨k1, h1.bn, h1.fr⟩, inE_of ?_, ?_⟩
  · rw [← e]; simp only [AHeap.row, AHeap.get_alloc, if_true]
  · rw [← e, AHeap.next_alloc]; exact Nat.lt_succ_self _
theorem InE.grow {H H' : AHeap} {p : Nat} {a : Ev} (k : InE H p a) (hg : Gr H H') (hp : p < H.next) : InE H' p a := by
  have hl : ∀ (sz : Option Nat) (o : Nat), loadV H' sz (.ptr p o) = loadV H sz (.ptr p o) := fun sz o => by
    simp only [loadV, ROp.run, Opd.ev, hg.keep.row hp]
  exact ⟨by rw [hl]; exact k.l0, by rw [hl]; exact k.l1, by rw [hl]; exact k.l2, by rw [hl]; exact k.l3, by rw [hl]; exact k.l4, by rw [hl]; exact k.l5, by rw [hl]; exact k.all⟩
theorem bin_eqls (a b : List UInt8) : binV .eql (.str a) (.str b) = some (.bool (decide (a = b))) := by
  simp only [binV, strBin]
  by_cases h : a = b <;> simp [h]
theorem take_succ_eq {α : Type} {L M : List α} {i : Nat} {x y : α} (hx : L[i]? = some x) (hy : M[i]? = some y) : L.take (i + 1) = M.take (i + 1) ↔ (L.take i = M.take i ∧ x = y) := by
  obtain ⟨h1, h2⟩ := List.getElem?_eq_some_iff.1 hx
  obtain ⟨h3, h4⟩ := List.getElem?_eq_some_iff.1 hy
  rw [List.take_add_one, List.take_add_one, hx, hy]
  simp only [Option.toList_some]
  constructor
  · intro h
    have := List.append_inj' h rfl
    exact ⟨this.1, by simpa using this.2⟩
  · rintro ⟨h, rfl⟩; rw [h]

end Go.Proofs.Yteockjhckmlclaa.AM
