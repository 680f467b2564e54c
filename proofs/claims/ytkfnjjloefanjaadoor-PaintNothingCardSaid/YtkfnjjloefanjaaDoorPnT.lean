/-
  A builder within a struct: its two blocks, the struct's other cells behind.
-/
import Derived.Test.YtkfnjjloefanjaaDoorPnB
import Derived.Test.YtkfnjjloefanjaaDoorAmBld
set_option linter.unusedVariables false
set_option linter.unusedSimpArgs false
namespace Go.Proofs.YtkfnjjloefanjaaDoor.AM
open Go
/-- a struct of a type at a block of its own, above a base: a builder, its bytes in a row of a type, and other cells -/
structure TelAt (bt ct base : Nat) (H : AHeap) (b : Nat) (t : List UInt8) (a : List AV) : Prop where
  lo : base ≤ b
  lt : b < H.next
  fr : ∀ c, H.next ≤ c → H.get c = none
  ct0 : ct ≠ 0
  bt0 : bt ≠ 0
  al : a.all AV.one = true
  row : ∃ p v, H.get b = some (.row ⟨p :: v :: a, 0, false, true, bt⟩) ∧ (p = .nilp ∨ p = .ptr b 0) ∧
    ((t = [] ∧ v = .nils) ∨ (t ≠ [] ∧ ∃ g, v = .slc g 0 t.length t.length ∧ base ≤ g ∧ g ≠ b ∧ g < H.next ∧ H.get g = some (.row ⟨ofBytes t, 1, false, true, ct⟩)))
theorem TelAt.new {base : Nat} {H : AHeap} {bt ct : Nat} {a : List AV} (hb : base ≤ H.next) (hf : ∀ c, H.next ≤ c → H.get c = none) (h1 : ct ≠ 0) (h2 : bt ≠ 0) (ha : a.all AV.one = true) : TelAt bt ct base (H.alloc (.row ⟨.nilp :: .nils :: a, 0, false, true, bt⟩)) H.next [] a :=
  ⟨hb, by rw [AHeap.next_alloc]; omega, fun c hc => by rw [AHeap.next_alloc] at hc; rw [AHeap.get_alloc, if_neg (by omega)]; exact hf c (by omega), h1, h2, ha, .nilp, .nils, by rw [AHeap.get_alloc, if_pos rfl], .inl rfl, .inl ⟨rfl, rfl⟩⟩
/-- what a builder's functions leave: every row that is neither its own nor of its bytes' type -/
structure Nx (ct b : Nat) (H H' : AHeap) : Prop where
  le : H.next ≤ H'.next
  kt : ∀ (c : Nat) (B : Blk), c ≠ b → H.get c = some (.row B) → B.ty ≠ ct → H'.get c = some (.row B)
theorem Nx.refl (ct b : Nat) (H : AHeap) : Nx ct b H H := ⟨Nat.le_refl _, fun c B _ h _ => h⟩
theorem Nx.trans {ct b : Nat} {H H1 H2 : AHeap} (h : Nx ct b H H1) (k : Nx ct b H1 H2) : Nx ct b H H2 := ⟨Nat.le_trans h.le k.le, fun c B h1 h2 h3 => k.kt c B h1 (h.kt c B h1 h2 h3) h3⟩
theorem Nx.gr {ct b : Nat} {H H' : AHeap} (hf : Fr H) (g : Gr H H') : Nx ct b H H' := ⟨g.next, fun c B _ h _ => g.get hf h⟩
theorem Nx.set {ct b : Nat} {H : AHeap} (o : AObj) : Nx ct b H (H.set b o) := ⟨Nat.le_refl _, fun c B h1 h2 h3 => by rw [AHeap.get_set, if_neg h1]; exact h2⟩
section
variable {base : Nat} {H : AHeap} {bt ct b : Nat} {t : List UInt8} {a : List AV}
theorem TelAt.gr (h : TelAt bt ct base H b t a) {H' : AHeap} (g : Gr H H') : TelAt bt ct base H' b t a := by
  obtain ⟨p, v, h1, h2, h3⟩ := h.row
  refine ⟨h.lo, Nat.lt_of_lt_of_le h.lt g.next, g.fr, h.ct0, h.bt0, h.al, p, v, by rw [g.keep b h.lt]; exact h1, h2, ?_⟩
  rcases h3 with h3 | ⟨hne, x, e, g1, g2, g3, g4⟩
  · exact .inl h3
  · exact .inr ⟨hne, x, e, g1, g2, Nat.lt_of_lt_of_le g3 g.next, by rw [g.keep x g3]; exact g4⟩
theorem TelAt.alloc (h : TelAt bt ct base H b t a) (o : AObj) : TelAt bt ct base (H.alloc o) b t a :=
  h.gr ⟨fun c hc => by rw [AHeap.get_alloc, if_neg (by omega)], by rw [AHeap.next_alloc]; omega, fun c hc => by rw [AHeap.next_alloc] at hc; rw [AHeap.get_alloc, if_neg (by omega)]; exact h.fr c (by omega)⟩
theorem TelAt.keep_alloc (h : TelAt bt ct base H b t a) (o : AObj) : Keep base H (H.alloc o) := fun c hc => by
  have := h.lo; have := h.lt
  rw [AHeap.get_alloc, if_neg (by omega)]
/-- its address is laid into it -/
theorem TelAt.used (h : TelAt bt ct base H b t a) {p v : AV} (h1 : H.get b = some (.row ⟨p :: v :: a, 0, false, true, bt⟩)) : TelAt bt ct base (H.set b (.row ⟨.ptr b 0 :: v :: a, 0, false, true, bt⟩)) b t a ∧ Keep base H (H.set b (.row ⟨.ptr b 0 :: v :: a, 0, false, true, bt⟩)) := by
  obtain ⟨p', v', h1', h2, h3⟩ := h.row
  rw [h1] at h1'; injection h1' with h1'; injection h1' with h1'; injection h1' with h1' _ _ _ _; injection h1' with e1 e2; injection e2 with e2 _; subst e1; subst e2
  refine ⟨⟨h.lo, h.lt, fun c hc => ?_, h.ct0, h.bt0, h.al, .ptr b 0, v, by rw [AHeap.get_set, if_pos rfl], .inr rfl, ?_⟩, fun c hc => ?_⟩
  · have := h.lt
    rw [AHeap.next_set] at hc
    rw [AHeap.get_set, if_neg (by omega)]; exact h.fr c hc
  · rcases h3 with h3 | ⟨hne, g, e, g1, g2, g3, g4⟩
    · exact .inl h3
    · exact .inr ⟨hne, g, e, g1, g2, g3, by rw [AHeap.get_set, if_neg g2]; exact g4⟩
  · have := h.lo
    rw [AHeap.get_set, if_neg (by omega)]
/-- bytes go behind -/
theorem TelAt.app (h : TelAt bt ct base H b t a) {s : List UInt8} {w0 : AV} (hsrc : srcCells H 1 w0 = some (s.length, ofBytes s)) (hl : t.length + s.length ≤ 70368744177664) :
    ∃ v H2 H3 w, loadV H none (.ptr b 1) = some v ∧ appendTE ct H 1 1 v w0 = some (w, H2) ∧ storeE H2 1 (.ptr b 1) w = some (.undef, H3) ∧ TelAt bt ct base H3 b (t ++ s) a ∧ Keep base H H3 ∧ Nx ct b H H3 := by
  obtain ⟨p, v, h1, h2, h3⟩ := h.row
  have hlo := h.lo
  have hlt := h.lt
  by_cases hs : s = []
  · subst hs
    have vo : v.one = true := by rcases h3 with ⟨_, rfl⟩ | ⟨_, g, rfl, _⟩ <;> rfl
    refine ⟨v, H, _, v, load_raw h1 rfl rfl, ?_, store_raw h1 (by simp) vo, ⟨hlo, hlt, fun c hc => ?_, h.ct0, h.bt0, h.al, p, v, by rw [AHeap.get_set, if_pos rfl]; rfl, h2, ?_⟩, fun c hc => ?_, Nx.set _⟩
    · simp only [appendTE, EOp.run, Opd.ev, hsrc, appendA]
      rcases h3 with ⟨_, rfl⟩ | ⟨_, g, rfl, _⟩ <;> simp [ofBytes]
    · rw [AHeap.next_set] at hc
      rw [AHeap.get_set, if_neg (by omega)]; exact h.fr c hc
    · rw [List.append_nil]
      rcases h3 with h3 | ⟨hne, g, e, g1, g2, g3, g4⟩
      · exact .inl h3
      · exact .inr ⟨hne, g, e, g1, g2, g3, by rw [AHeap.get_set, if_neg g2]; exact g4⟩
    · rw [AHeap.get_set, if_neg (by omega)]
  have hs0 : s.length ≠ 0 := by simpa using hs
  have fin : ∀ (H2 : AHeap) (w : AV) (ww : List UInt8), ww = t ++ s → w = .slc H.next 0 ww.length ww.length → w.one = true → H2.next = H.next + 1 → H2.get b = some (.row ⟨p :: v :: a, 0, false, true, bt⟩) → H2.get H.next = some (.row ⟨ofBytes ww, 1, false, true, ct⟩) → (∀ c, H.next + 1 ≤ c → H2.get c = none) → (∀ c, c < base → H2.get c = H.get c) → Nx ct b H H2 →
      ∃ H3, storeE H2 1 (.ptr b 1) w = some (.undef, H3) ∧ TelAt bt ct base H3 b (t ++ s) a ∧ Keep base H H3 ∧ Nx ct b H H3 := by
    intro H2 w ww hww hw hone hn q1 q2 q3 q4 q5
    subst hww
    refine ⟨_, store_raw q1 (by simp) hone, ⟨hlo, by rw [AHeap.next_set, hn]; omega, fun c hc => ?_, h.ct0, h.bt0, h.al, p, w, by rw [AHeap.get_set, if_pos rfl]; rfl, h2, .inr ⟨by simp [hs], H.next, hw, by omega, by omega, by rw [AHeap.next_set, hn]; omega, by rw [AHeap.get_set, if_neg (by omega)]; exact q2⟩⟩, fun c hc => ?_, q5.trans (Nx.set _)⟩
    · rw [AHeap.next_set, hn] at hc
      rw [AHeap.get_set, if_neg (by omega)]; exact q3 c hc
    · rw [AHeap.get_set, if_neg (by omega)]; exact q4 c hc
  rcases h3 with ⟨rfl, rfl⟩ | ⟨hne, g, rfl, g1, g2, g3, g4⟩
  · obtain ⟨H3, f1, f2⟩ := fin (H.alloc (.row ⟨ofBytes s, 1, false, true, ct⟩)) (.slc H.next 0 s.length s.length) s (by simp) rfl rfl rfl (by rw [AHeap.get_alloc, if_neg (by omega)]; exact h1) (by rw [AHeap.get_alloc, if_pos rfl]) (fun c hc => by rw [AHeap.get_alloc, if_neg (by omega)]; exact h.fr c (by omega)) (fun c hc => by rw [AHeap.get_alloc, if_neg (by omega)]) (Nx.gr h.fr ⟨fun c hc => by rw [AHeap.get_alloc, if_neg (by omega)], by rw [AHeap.next_alloc]; omega, fun c hc => by rw [AHeap.next_alloc] at hc; rw [AHeap.get_alloc, if_neg (by omega)]; exact h.fr c (by omega)⟩)
    refine ⟨.nils, _, H3, _, load_raw h1 rfl rfl, ?_, f1, f2⟩
    simp only [appendTE, EOp.run, Opd.ev, hsrc, appendA]
    rw [if_neg (by simp [ones_bytes]), if_neg hs0, if_pos (by simp at hl; omega)]
  · have hcut : AM.cut (ofBytes t) 0 (t.length * 1) = some (ofBytes t) := cut_all _ (by simp [ofBytes])
    have e : ofBytes t ++ ofBytes s = ofBytes (t ++ s) := by simp [ofBytes]
    obtain ⟨H3, f1, f2⟩ := fin ((H.set g (.row ⟨ofBytes t, 1, false, false, ct⟩)).alloc (.row ⟨ofBytes (t ++ s), 1, false, true, ct⟩)) (.slc H.next 0 (t ++ s).length (t ++ s).length) _ rfl rfl rfl rfl
      (by rw [AHeap.get_alloc, AHeap.next_set, if_neg (by omega), AHeap.get_set, if_neg (fun e => g2 e.symm)]; exact h1) (by rw [AHeap.get_alloc, AHeap.next_set, if_pos rfl])
      (fun c hc => by rw [AHeap.get_alloc, AHeap.next_set, if_neg (by omega), AHeap.get_set, if_neg (by omega)]; exact h.fr c (by omega)) (fun c hc => by rw [AHeap.get_alloc, AHeap.next_set, if_neg (by omega), AHeap.get_set, if_neg (by omega)]) ⟨by rw [AHeap.next_alloc, AHeap.next_set]; omega, fun c B m1 m2 m3 => by
        have hc : c < H.next := Nat.lt_of_not_le fun hh => by rw [h.fr c hh] at m2; cases m2
        have hg : c ≠ g := fun e => by rw [e, g4] at m2; injection m2 with m2; injection m2 with m2; rw [← m2] at m3; exact m3 rfl
        rw [AHeap.get_alloc, AHeap.next_set, if_neg (by omega), AHeap.get_set, if_neg hg]; exact m2⟩
    refine ⟨_, _, H3, _, load_raw h1 rfl rfl, ?_, f1, f2⟩
    simp only [appendTE, EOp.run, Opd.ev, hsrc, appendA, row_get g4 rfl, hcut, e, List.length_append]
    rw [if_neg (by simp [ones_bytes]), if_neg (by omega), if_neg (by omega), if_neg (by omega)]
    simp
/-- what it holds, as a text -/
theorem TelAt.str (h : TelAt bt ct base H b t a) (hl : t.length ≤ 9223372036854775807) : ∃ v x H', loadV H none (.ptr b 1) = some v ∧ sldataV v = some x ∧ lngV H 1 v = some (.int .i64 t.length) ∧ strUnsE ct H x (.int .i64 t.length) = some (.str t, H') ∧ Keep base H H' ∧ H.next ≤ H'.next ∧ ∀ c, H'.next ≤ c → H'.get c = none := by
  obtain ⟨p, v, h1, h2, h3⟩ := h.row
  rcases h3 with ⟨rfl, rfl⟩ | ⟨hne, g, rfl, g1, g2, g3, g4⟩
  · exact ⟨.nils, .nilp, H, load_raw h1 rfl rfl, rfl, rfl, rfl, Keep.refl _ _, Nat.le_refl _, h.fr⟩
  · have h0 : 0 < t.length := List.length_pos_iff.2 hne
    have hcut : AM.cut (ofBytes t) 0 t.length = some (ofBytes t) := cut_all _ (by simp [ofBytes])
    refine ⟨_, .ptr g 0, H.set g (.row ⟨ofBytes t, 1, false, false, ct⟩), load_raw h1 rfl rfl, sldata_slc _ _ _ _ h0, rfl, ?_, fun c hc => by rw [AHeap.get_set, if_neg (by omega)], Nat.le_refl _, fun c hc => ?_⟩
    · simp only [strUnsE, EOp.run, Opd.ev, Int.toNat_natCast, row_get g4 rfl, hcut, bytesOf_of]
      rw [if_neg (by have := h.ct0; simp; omega), if_neg (by simp)]
    · rw [AHeap.next_set] at hc
      rw [AHeap.get_set, if_neg (by omega)]; exact h.fr c hc
theorem TelAt.toUns (h : TelAt bt ct base H b t a) : toUnsV H (.ptr b 0) = some (.ptr b 0) := by
  obtain ⟨p, v, h1, h2, h3⟩ := h.row
  have := h.bt0
  simp [toUnsV, ROp.run, Opd.ev, h1, this]
theorem TelAt.fromUns (h : TelAt bt ct base H b t a) {l : List (Nat × Nat × Nat)} {n : Nat} (hl : (bt, n, 0) ∈ l) (hn : n = a.length + 2) : fromUnsV H l (.ptr b 0) = some (.ptr b 0) := by
  obtain ⟨p, v, h1, h2, h3⟩ := h.row
  have := h.bt0
  subst hn
  simp only [fromUnsV, ROp.run, Opd.ev, h1]
  rw [if_pos ⟨this, hl⟩]
end
end Go.Proofs.YtkfnjjloefanjaaDoor.AM
