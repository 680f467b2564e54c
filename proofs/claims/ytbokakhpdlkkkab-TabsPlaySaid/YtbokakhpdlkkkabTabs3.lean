/-
  Ranges over stops: Next, Prev, all; walked on the abstract machine.
-/
import Derived.Test.YtbokakhpdlkkkabTabs2
set_option linter.unusedVariables false
set_option linter.unusedSimpArgs false
namespace Go.Proofs.Ytbokakhpdlkkkab.AM
open Go
def ints (l : List Int) : List AV := l.map (.int .i64)
/-- a list of ints in a block of its own, behind a number -/
def Il (base n0 : Nat) (H : AHeap) (l : List Cel) (v : AV) (x : List Int) : Prop :=
  (x = [] ∧ v = .nils ∧ Hp base H l) ∨ ∃ b, n0 < b ∧ x ≠ [] ∧ v = .slc b 0 x.length x.length ∧ Hp base H (⟨b, 1, ints x⟩ :: l)
theorem Il.hp {base n0 : Nat} {H : AHeap} {l : List Cel} {v : AV} {x : List Int} (h : Il base n0 H l v x) : Hp base H l := by
  rcases h with ⟨_, _, h⟩ | ⟨b, _, _, _, h⟩
  · exact h
  · exact h.drop
theorem Hp.append1F {base : Nat} {H : AHeap} {l : List Cel} {b : Nat} {cs : List AV} (h : Hp base H (⟨b, 1, cs⟩ :: l)) {n bytes : Nat} (hn : cs.length = n) {b2 o2 c2 : Nat} {B2 : Blk} {v : AV} (hb2 : H.row b2 = some B2) (hv : B2.cells[o2]? = some v) (hv1 : v.one = true) (hb : 0 < bytes) (hs : (n + 1) * bytes ≤ 70368744177664) :
    ∃ H', appendE H 1 bytes (.slc b 0 n n) (.slc b2 o2 1 c2) = some (.slc H.next 0 (n + 1) (n + 1), H') ∧ Hp base H' (⟨H.next, 1, cs ++ [v]⟩ :: l) ∧ (∀ c, c < H.next → c ≠ b → H'.get c = H.get c) ∧ H'.next = H.next + 1 := by
  obtain ⟨es, h1, h2⟩ := (h.has ⟨b, 1, cs⟩ (by simp)).row
  simp only at h1 h2
  have hcut2 : cut B2.cells o2 1 = some [v] := by
    have hlt : o2 < B2.cells.length := (List.getElem?_eq_some_iff.1 hv).1
    unfold cut
    rw [if_pos (by omega)]
    congr 1
    rw [List.drop_eq_getElem_cons hlt]
    simp only [List.take_succ_cons, List.take_zero]
    rw [(List.getElem?_eq_some_iff.1 hv).2]
  have hsrc : srcCells H 1 (.slc b2 o2 1 c2) = some (1, [v]) := by
    simp only [srcCells, Nat.one_ne_zero, if_false, hb2, Nat.mul_one, hcut2]
  have hcut : cut cs 0 (n * 1) = some cs := by
    unfold cut
    rw [if_pos (by omega)]
    simp [← hn]
  have hsz : (n + 1) * bytes ≤ 70368744177664 ∧ n + 1 ≤ 70368744177664 := ⟨hs, Nat.le_trans (Nat.le_mul_of_pos_right _ hb) hs⟩
  rcases h2 with rfl | rfl
  · refine ⟨H.alloc (.row ⟨cs ++ [v], 1, false, true⟩), ?_, ?_, fun c hc hne => ?_, rfl⟩
    · simp only [appendE, EOp.run, Opd.ev, hsrc, appendA, h1, hcut]
      rw [if_neg (by simp [hv1]; omega), if_neg (by omega), if_neg (by simpa using hsz)]
      simp
    · exact h.drop.alloc _ _ _ (.inr rfl)
    · rw [AHeap.get_alloc, if_neg (by omega)]
  · refine ⟨(H.set b (.row ⟨cs, 1, false, false⟩)).alloc (.row ⟨cs ++ [v], 1, false, true⟩), ?_, ?_, fun c hc hne => ?_, rfl⟩
    · simp only [appendE, EOp.run, Opd.ev, hsrc, appendA, h1, hcut]
      rw [if_neg (by simp [hv1]; omega), if_neg (by omega), if_neg (by simpa using hsz)]
      simp
    · exact (h.kill ⟨cs, 1, false, false⟩).alloc _ _ _ (.inr rfl)
    · rw [AHeap.get_alloc]
      have : (H.set b (.row ⟨cs, 1, false, false⟩)).next = H.next := rfl
      rw [this, if_neg (by omega), AHeap.get_set, if_neg (by omega)]
theorem Hp.append0F {base : Nat} {H : AHeap} {l : List Cel} (h : Hp base H l) {bytes : Nat} {b2 o2 c2 : Nat} {B2 : Blk} {v : AV} (hb2 : H.row b2 = some B2) (hv : B2.cells[o2]? = some v) (hv1 : v.one = true) (hb : 0 < bytes) (hs : bytes ≤ 70368744177664) :
    ∃ H', appendE H 1 bytes .nils (.slc b2 o2 1 c2) = some (.slc H.next 0 1 1, H') ∧ Hp base H' (⟨H.next, 1, [v]⟩ :: l) ∧ (∀ c, c < H.next → H'.get c = H.get c) ∧ H'.next = H.next + 1 := by
  have hcut2 : cut B2.cells o2 1 = some [v] := by
    have hlt : o2 < B2.cells.length := (List.getElem?_eq_some_iff.1 hv).1
    unfold cut
    rw [if_pos (by omega)]
    congr 1
    rw [List.drop_eq_getElem_cons hlt]
    simp only [List.take_succ_cons, List.take_zero]
    rw [(List.getElem?_eq_some_iff.1 hv).2]
  have hsrc : srcCells H 1 (.slc b2 o2 1 c2) = some (1, [v]) := by
    simp only [srcCells, Nat.one_ne_zero, if_false, hb2, Nat.mul_one, hcut2]
  refine ⟨H.alloc (.row ⟨[v], 1, false, true⟩), ?_, h.alloc _ _ _ (.inr rfl), fun c hc => ?_, rfl⟩
  · simp only [appendE, EOp.run, Opd.ev, hsrc, appendA]
    rw [if_neg (by simp [hv1]; omega), if_neg (by omega), if_pos (by omega)]
  · rw [AHeap.get_alloc, if_neg (by omega)]
/-- one number more -/
theorem Il.push {base n0 : Nat} {H : AHeap} {l : List Cel} {v : AV} {x : List Int} {y : Int} {tb : Nat} (h : Il base n0 H (⟨tb, 1, [.int .i64 y]⟩ :: l) v x) (hn : n0 < H.next) (hs : x.length ≤ 1000000) :
    ∃ w H', appendE H 1 8 v (.slc tb 0 1 1) = some (w, H') ∧ Il base n0 H' (⟨tb, 1, [.int .i64 y]⟩ :: l) w (x ++ [y]) ∧ (∀ c, c < base → H'.get c = H.get c) ∧ (∀ c, c ≤ n0 → H'.get c = H.get c) ∧ H'.next = H.next + 1 := by
  rcases h with ⟨rfl, rfl, h⟩ | ⟨b, hb, hne, rfl, h⟩
  · obtain ⟨B, r4, c4⟩ := h.rowOf (cs := [.int .i64 y]) (List.mem_cons_self ..)
    obtain ⟨H5, s5, h5, k5, n5⟩ := h.append0F (bytes := 8) (o2 := 0) (c2 := 1) (v := .int .i64 y) r4 (by rw [c4]; rfl) rfl (by omega) (by omega)
    refine ⟨_, H5, s5, .inr ⟨H.next, hn, by simp, by simp, ?_⟩, fun c hc => k5 c ?_, fun c hc => k5 c (by omega), n5⟩
    · simpa [ints] using h5
    · have := h.bn; omega
  · obtain ⟨B, r4, c4⟩ := h.rowOf (b := tb) (k := 1) (cs := [.int .i64 y]) (by simp)
    obtain ⟨H5, s5, h5, k5, n5⟩ := h.append1F (bytes := 8) (o2 := 0) (c2 := 1) (v := .int .i64 y) (n := x.length) (by simp [ints]) r4 (by rw [c4]; rfl) rfl (by omega) (by omega)
    have hbase : base ≤ b := h.lo ⟨b, 1, ints x⟩ (by simp)
    refine ⟨_, H5, s5, .inr ⟨H.next, hn, by simp, by simp, ?_⟩, fun c hc => k5 c ?_ (by omega), fun c hc => k5 c (by omega) (by omega), n5⟩
    · simpa [ints] using h5
    · have := h.bn; omega
section
variable {Q : Prog} (tq : TabQ2 Q) {H : AHeap}
include tq
set_option maxHeartbeats 4000000 in
/-- a range over stops -/
theorem range_stops (hf : Fr H) {c p : Nat} {v : AV} {L : List Bool} (hc : loadV H Option.none (.ptr c 0) = some (.ptr p 0)) (hcl : c < H.next) (rs : RdS H p v L) (h1 : 1 ≤ L.length) (h2 : L.length ≤ 1000000)
    {R : ALoop} {K : PostC} {e : Env} (hst : R.st = 0) (hp : R.pend = .normal) (hps : R.ps.length = 1) (I : Nat → List Int → AHeap → Prop) (J : Nat → List Int → AEx → AHeap → Prop)
    (hI : ∀ cb acc H1 R0 R1, H1.get H.next = some (.loop R0) → I cb acc H1 → I cb acc (H1.set H.next (.loop R1)))
    (hJ : ∀ cb acc y H1 R0 R1, H1.get H.next = some (.loop R0) → J cb acc y H1 → J cb acc y (H1.set H.next (.loop R1)))
    (h0 : ∀ H1 cb, Gr (H.alloc (.loop R)) H1 → H.next < cb → cb < H1.next → I cb [] H1)
    (hY : ∀ cb acc x H0 H1, H1.get H.next = some (.loop { R with st := 1 }) → I cb acc H1 → H.next < cb → cb < H1.next → (acc ++ [x]) <+: stops L →
      R.assign.wp Q (seqK (fun e' H' => H' = H0 ∧ R.body.wp Q (fun y _ H2 => H1.next ≤ H2.next ∧ H2.get cb = H1.get cb ∧ H2.get H.next = some (.loop { R with st := 1 }) ∧
        ((y = .normal ∧ I cb (acc ++ [x]) H2) ∨ (y ≠ .normal ∧ J cb (acc ++ [x]) y H2))) e' H1) (fun _ _ _ => False)) (putAll R.ps [.int .i64 x] R.env) H0)
    (hK1 : ∀ cb H1, I cb (stops L) H1 → K .normal e H1)
    (hK2 : ∀ cb acc y H1, acc <+: stops L → J cb acc y H1 → K y e H1) :
    rangeW Q (.fn (.func 44) [] [.ptr c 0]) R K e H := by
  have hfa : Fr (H.alloc (.loop R)) := fun b hb => by
    have hb' : H.next + 1 ≤ b := hb
    rw [AHeap.get_alloc, if_neg (by omega)]; exact hf b (by omega)
  have gra : Gr H (H.alloc (.loop R)) := ⟨fun b hb => by rw [AHeap.get_alloc, if_neg (by omega)], Nat.le_succ _, hfa⟩
  have hrow : (H.alloc (.loop R)).row c = H.row c := by unfold AHeap.row; rw [AHeap.get_alloc, if_neg (by omega)]
  have hg : (H.alloc (.loop R)).get H.next = some (.loop R) := by rw [AHeap.get_alloc, if_pos rfl]
  refine ⟨44, [], [.ptr c 0], rfl, ?_⟩
  refine FnTo.mono (all1_spec (H := H.alloc (.loop R)) tq hfa (c := c) (p := p) (by simp only [loadV, ROp.run, Opd.ev, hrow]; exact hc) (Nat.lt_succ_of_lt hcl) (rs.grow hf gra) h1 h2 (fun cb acc H1 => H1.get H.next = some (.loop R) ∧ I cb acc H1) (fun cb acc H1 => ∃ y, H1.get H.next = some (.loop { R with st := 2, pend := y }) ∧ J cb acc y H1) ?_ ?_) ?_
  · intro H1 cb g1 hcb hcb2
    have hcb' : H.next + 1 ≤ cb := hcb
    have : H1.get H.next = some (.loop R) := by rw [g1.keep _ (Nat.lt_succ_self _)]; exact hg
    exact ⟨this, h0 H1 cb g1 (by omega) hcb2⟩
  · rintro cb acc x H1 ⟨hl, hI1⟩ hcb hcb2 hpre
    have hcb' : H.next + 1 ≤ cb := hcb
    have hne : cb ≠ H.next := by omega
    refine yld_wp hl hst (by rw [hps]; rfl) ?_
    refine ACode.wp_mono ?_ (hY cb acc x H1 (H1.set H.next (.loop { R with st := 1 })) (by rw [AHeap.get_set, if_pos rfl]) (hI _ _ _ _ _ hl hI1) (by omega) hcb2 hpre)
    intro y e1 H1' hh
    cases y with
    | exit i => exact hh
    | ret => exact hh
    | normal =>
      obtain ⟨rfl, hb⟩ := hh
      refine ⟨R, hl, hst, ?_⟩
      refine ACode.wp_mono ?_ hb
      rintro y e2 H2 ⟨n2, c2, l2, hh⟩
      refine ⟨_, l2, ?_⟩
      refine ⟨n2, ?_, ?_⟩
      · rw [AHeap.get_set, if_neg hne, c2, AHeap.get_set, if_neg hne]
      · rcases hh with ⟨rfl, hI2⟩ | ⟨hy, hJ2⟩
        · refine .inl ⟨rfl, ?_, hI _ _ _ _ _ l2 hI2⟩
          rw [AHeap.get_set, if_pos rfl]
          cases R
          simp only at hst hp
          subst hst hp
          rfl
        · refine .inr ⟨by simp [hy], y, ?_, hJ _ _ _ _ _ _ l2 hJ2⟩
          rw [AHeap.get_set, if_pos rfl]
          simp only [if_neg hy]
  · rintro r H' ⟨cb, ⟨hl, hI1⟩ | ⟨acc, hpre, y, hl, hJ1⟩⟩
    · refine ⟨R, hl, by omega, ?_⟩
      rw [hp]
      exact hK1 cb _ (hI _ _ _ _ _ hl hI1)
    · exact ⟨_, hl, by simp, hK2 cb acc y _ hpre (hJ _ _ _ _ _ _ hl hJ1)⟩
end
end Go.Proofs.Ytbokakhpdlkkkab.AM
