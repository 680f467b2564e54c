/-
  Appends of bytes to rows whose type is known; strings.Builder's two blocks.
-/
import Derived.Test.YtdkpmlhbofgfdaaGreatDoorAmSl
set_option linter.unusedVariables false
namespace Go.Proofs.YtdkpmlhbofgfdaaGreatDoor.AM
open Go

def appendTE (ty : Nat) (H : AHeap) (es bytes : Nat) (s x : AV) : Option (AV × AHeap) := EOp.run noCall H .nil (.appendT ty es bytes (.c s) (.c x))
theorem wp_appendT (Q : Prog) (H : AHeap) (e : Env) (K : AV → AHeap → Prop) (ty es bytes : Nat) (s x : Opd) : EOp.wp Q H e K (.appendT ty es bytes s x) = bindX (appendTE ty H es bytes (s.ev e) (x.ev e)) K := rfl
def strUnsE (ty : Nat) (H : AHeap) (x n : AV) : Option (AV × AHeap) := EOp.run noCall H .nil (.strUns ty (.c x) (.c n))
theorem wp_strUns (Q : Prog) (H : AHeap) (e : Env) (K : AV → AHeap → Prop) (ty : Nat) (x n : Opd) : EOp.wp Q H e K (.strUns ty x n) = bindX (strUnsE ty H (x.ev e) (n.ev e)) K := rfl
def toUnsV (H : AHeap) (x : AV) : Option AV := ROp.run H .nil (.toUns (.c x))
theorem run_toUns (H : AHeap) (e : Env) (x : Opd) : ROp.run H e (.toUns x) = toUnsV H (x.ev e) := rfl
def fromUnsV (H : AHeap) (t : List (Nat × Nat × Nat)) (x : AV) : Option AV := ROp.run H .nil (.fromUns t (.c x))
theorem run_fromUns (H : AHeap) (e : Env) (t : List (Nat × Nat × Nat)) (x : Opd) : ROp.run H e (.fromUns t x) = fromUnsV H t (x.ev e) := rfl
def pteqV (g : Bool) (x y : AV) : Option AV := ROp.run ⟨0, .nil⟩ .nil (.pteq g (.c x) (.c y))
theorem run_pteq (H : AHeap) (e : Env) (g : Bool) (x y : Opd) : ROp.run H e (.pteq g x y) = pteqV g (x.ev e) (y.ev e) := rfl
theorem pteq_nil (g : Bool) : pteqV g .nilp .nilp = some (.bool (xor g true)) := rfl
theorem pteq_ptr (g : Bool) (b o : Nat) : pteqV g (.ptr b o) .nilp = some (.bool (xor g false)) := rfl
theorem pteq_same (g : Bool) (b o : Nat) : pteqV g (.ptr b o) (.ptr b o) = some (.bool (xor g true)) := by simp [pteqV, ROp.run, Opd.ev]
def sldataV (x : AV) : Option AV := ROp.run ⟨0, .nil⟩ .nil (.sldata (.c x))
theorem run_sldata (H : AHeap) (e : Env) (x : Opd) : ROp.run H e (.sldata x) = sldataV (x.ev e) := rfl
theorem sldata_nils : sldataV .nils = some .nilp := rfl
theorem sldata_slc (b o n c : Nat) (h : 0 < n) : sldataV (.slc b o n c) = some (.ptr b o) := by simp [sldataV, ROp.run, Opd.ev, h]
theorem run_allocT (e : Env) (t : Nat) (z : List AV) : LOp.run e (.allocT t z) = some (.row ⟨z, 0, false, true, t⟩, .ptr) := rfl

section
variable {base : Nat} {H : AHeap} {l : List Cel}
/-- one cell, within what a slice may hold -/
theorem Hp.appT_in {b k : Nat} {a c : List AV} {y : AV} (h : Hp base H (⟨b, k, a ++ y :: c⟩ :: l)) {n cap : Nat} (ha : a.length = n) (hc : n + 1 ≤ cap) {ty bytes : Nat} (hb : 0 < bytes) {v w : AV} (hv : v.one = true) (hsrc : srcCells H 1 w = some (1, [v])) :
    ∃ H', appendTE ty H 1 bytes (.slc b 0 n cap) w = some (.slc b 0 (n + 1) cap, H') ∧ Hp base H' (⟨b, k, a ++ v :: c⟩ :: l) ∧ Keep base H H' ∧ H'.next = H.next := by
  obtain ⟨es, t, r1, r2⟩ := (h.has _ (List.mem_cons_self ..)).row
  simp only at r1 r2
  have hov : over (a ++ y :: c) n [v] = a ++ v :: c := by
    simp only [over, ← ha]
    rw [List.set_append_right _ _ (Nat.le_refl _)]; simp
  refine ⟨H.set b (.row ⟨a ++ v :: c, es, false, true, t⟩), ?_, h.set _ _ r2, h.keep_set _, rfl⟩
  simp only [appendTE, EOp.run, Opd.ev, hsrc, appendA, storeA, r1]
  rw [if_neg (by simp [hv]; omega), if_pos hc, if_neg (by omega)]
  rw [if_pos (by simp [hv, ← ha]), show 0 + n * 1 = n by omega, hov]
/-- an own list of bytes -/
theorem bytesV_len (t : List UInt8) : (ofBytes t).length = t.length := by simp [ofBytes]
theorem ones_bytes (t : List UInt8) : (ofBytes t).all AV.one = true := by simp [ofBytes, AV.one]
theorem bytesOf_of (t : List UInt8) : bytesOf (ofBytes t) = some t := by
  induction t with
  | nil => rfl
  | cons c t ih =>
    have : ofBytes (c :: t) = .int .u8 c.toNat :: ofBytes t := rfl
    rw [this]
    simp only [bytesOf, ih]
    simp
theorem cut_all (cs : List AV) {n : Nat} (h : cs.length = n) : AM.cut cs 0 n = some cs := by
  unfold AM.cut
  rw [if_pos (by omega), List.drop_zero, List.take_of_length_le (by omega)]
theorem Hp.srcOne (h : Hp base H l) {N k : Nat} {v : AV} (hx : (⟨N, k, [v]⟩ : Cel) ∈ l) (c : Nat) : srcCells H 1 (.slc N 0 1 c) = some (1, [v]) :=
  h.src (k := 1) (pre := []) (post := []) (ys := [v]) hx rfl rfl (by omega)
/-- an own list of bytes that came of appends -/
def OwnB (ty base : Nat) (H : AHeap) (v : AV) (t : List UInt8) (rest : List Cel) : Prop :=
  (t = [] ∧ v = .nils ∧ Hp base H rest) ∨ (t ≠ [] ∧ ∃ b, v = .slc b 0 t.length t.length ∧ Hp base H (⟨b, 1, ofBytes t⟩ :: rest))
theorem OwnB.hp {ty : Nat} {v : AV} {t : List UInt8} (h : OwnB ty base H v t l) : Hp base H l := by
  rcases h with ⟨_, _, h⟩ | ⟨_, b, _, h⟩
  · exact h
  · exact h.drop
theorem appendT0 {ty bytes : Nat} {w v : AV} (hb : 0 < bytes) (hb2 : bytes ≤ 70368744177664) (hv : v.one = true) (hsrc : srcCells H 1 w = some (1, [v])) :
    appendTE ty H 1 bytes .nils w = some (.slc H.next 0 1 1, H.alloc (.row ⟨[v], 1, false, true, ty⟩)) := by
  simp only [appendTE, EOp.run, Opd.ev, hsrc, appendA]
  rw [if_neg (by simp [hv]; omega), if_neg (by omega), if_pos (by omega)]
theorem OwnB.push {ty : Nat} {v : AV} {t : List UInt8} (h : OwnB ty base H v t l) (hl : t.length ≤ 1000000) (x : UInt8) :
    ∃ H1 H2 w, H.alloc (.row ⟨[.int .u8 x.toNat], 0, false, true, 0⟩) = H1 ∧ appendTE ty H1 1 1 v (.slc H.next 0 1 1) = some (w, H2) ∧ OwnB ty base H2 w (t ++ [x]) l ∧ Keep base H H2 := by
  obtain ⟨H1, s1, h1, k1⟩ := h.hp.make [.int .u8 x.toNat] 1
  rcases h with ⟨rfl, rfl, h⟩ | ⟨hne, b, rfl, h⟩
  · refine ⟨H1, _, _, s1, appendT0 (by omega) (by omega) rfl (h1.srcOne (List.mem_cons_self ..) 1), .inr ⟨by simp, H1.next, rfl, ?_⟩, k1.trans (h1.keep_alloc _)⟩
    exact (h1.alloc _ 1 1 (.inr rfl)).swap.drop
  · obtain ⟨H1', s1', h1', k1'⟩ := h.make [.int .u8 x.toNat] 1
    obtain rfl := s1.symm.trans s1'
    have hsrc := h1'.srcOne (List.mem_cons_self ..) 1
    have h2 := Hp.swap h1'
    obtain ⟨es, tt, r1, r2⟩ := (h2.has _ (List.mem_cons_self ..)).row
    simp only at r1 r2
    have hcut : AM.cut (ofBytes t) 0 (t.length * 1) = some (ofBytes t) := cut_all _ (by simp [ofBytes])
    have hlt : ¬ t.length + 1 ≤ t.length := by omega
    have e : ofBytes (t ++ [x]) = ofBytes t ++ [.int .u8 x.toNat] := by simp [ofBytes]
    rcases r2 with rfl | rfl
    · refine ⟨H1, H1.alloc (.row ⟨ofBytes t ++ [.int .u8 x.toNat], 1, false, true, ty⟩), .slc H1.next 0 (t.length + 1) (t.length + 1), s1, ?_, .inr ⟨by simp, H1.next, by simp, ?_⟩, k1.trans (h1.keep_alloc _)⟩
      · simp only [appendTE, EOp.run, Opd.ev, hsrc, appendA, r1, hcut]
        rw [if_neg (by simp [AV.one]), if_neg hlt, if_neg (by simp; omega)]
        simp
      · rw [e]
        have := h2.drop.alloc (ofBytes t ++ [.int .u8 x.toNat]) 1 1 (.inr rfl) (ty := ty)
        exact this.swap.drop
    · have hd := h2.kill ⟨ofBytes t, 1, false, false, tt⟩
      refine ⟨H1, (H1.set b (.row ⟨ofBytes t, 1, false, false, tt⟩)).alloc (.row ⟨ofBytes t ++ [.int .u8 x.toNat], 1, false, true, if tt = ty then ty else 0⟩), .slc H1.next 0 (t.length + 1) (t.length + 1), s1, ?_, .inr ⟨by simp, H1.next, by simp, ?_⟩, k1.trans ((h2.keep_set _).trans (hd.keep_alloc _))⟩
      · simp only [appendTE, EOp.run, Opd.ev, hsrc, appendA, r1, hcut]
        rw [if_neg (by simp [AV.one]), if_neg hlt, if_neg (by simp; omega), if_neg (by omega)]
        simp
      · rw [e]
        have := hd.alloc (ofBytes t ++ [.int .u8 x.toNat]) 1 1 (.inr rfl) (ty := if tt = ty then ty else 0)
        exact this.swap.drop
theorem OwnB.len {ty : Nat} {v : AV} {t : List UInt8} (h : OwnB ty base H v t l) (H2 : AHeap) : lngV H2 1 v = some (.int .i64 t.length) := by
  rcases h with ⟨rfl, rfl, _⟩ | ⟨_, b, rfl, _⟩ <;> rfl
theorem OwnB.str {ty : Nat} {v : AV} {t : List UInt8} (h : OwnB ty base H v t l) : strOfBytesV H v = some (.str t) := by
  rcases h with ⟨rfl, rfl, _⟩ | ⟨_, b, rfl, h⟩
  · rfl
  · obtain ⟨B, r, e⟩ := h.rowOf (List.mem_cons_self ..)
    have hc : AM.cut B.cells 0 t.length = some (ofBytes t) := by rw [e]; exact cut_all _ (by simp [ofBytes])
    simp only [strOfBytesV, ROp.run, Opd.ev, r, hc, bytesOf_of]
/-- a part of an own block, as a text -/
theorem Hp.strA (h : Hp base H l) {b k n cap : Nat} {t : List UInt8} {c : List AV} (hx : (⟨b, k, ofBytes t ++ c⟩ : Cel) ∈ l) (hn : t.length = n) : strOfBytesV H (.slc b 0 n cap) = some (.str t) := by
  obtain ⟨B, r, e⟩ := h.rowOf hx
  have hc : AM.cut B.cells 0 n = some (ofBytes t) := by
    rw [e]; unfold AM.cut
    rw [if_pos (by simp [ofBytes]; omega), List.drop_zero]
    congr 1
    rw [List.take_append_of_le_length (by simp [ofBytes]; omega), List.take_of_length_le (by simp [ofBytes]; omega)]
  simp only [strOfBytesV, ROp.run, Opd.ev, r, hc, bytesOf_of]

/-! ### A builder's two blocks -/
/-- a builder of a type at a block of its own, above a base; its bytes in a row of a type -/
structure BldAt (bt ct base : Nat) (H : AHeap) (b : Nat) (t : List UInt8) : Prop where
  lo : base ≤ b
  lt : b < H.next
  fr : ∀ c, H.next ≤ c → H.get c = none
  ct0 : ct ≠ 0
  bt0 : bt ≠ 0
  row : ∃ p v, H.get b = some (.row ⟨[p, v], 0, false, true, bt⟩) ∧ (p = .nilp ∨ p = .ptr b 0) ∧
    ((t = [] ∧ v = .nils) ∨ (t ≠ [] ∧ ∃ g, v = .slc g 0 t.length t.length ∧ base ≤ g ∧ g ≠ b ∧ g < H.next ∧ H.get g = some (.row ⟨ofBytes t, 1, false, true, ct⟩)))
theorem BldAt.new {bt ct : Nat} (hb : base ≤ H.next) (hf : ∀ c, H.next ≤ c → H.get c = none) (h1 : ct ≠ 0) (h2 : bt ≠ 0) : BldAt bt ct base (H.alloc (.row ⟨[.nilp, .nils], 0, false, true, bt⟩)) H.next [] :=
  ⟨hb, by rw [AHeap.next_alloc]; omega, fun c hc => by rw [AHeap.next_alloc] at hc; rw [AHeap.get_alloc, if_neg (by omega)]; exact hf c (by omega), h1, h2, .nilp, .nils, by rw [AHeap.get_alloc, if_pos rfl], .inl rfl, .inl ⟨rfl, rfl⟩⟩
variable {bt ct b : Nat} {t : List UInt8}
theorem row_get {g : Nat} {B : Blk} (h : H.get g = some (.row B)) (hl : B.live = true) : H.row g = some B := by simp only [AHeap.row, h, hl, if_true]
theorem load_raw {g o : Nat} {B : Blk} (h : H.get g = some (.row B)) (hl : B.live = true) {v : AV} (hv : B.cells[o]? = some v) : loadV H none (.ptr g o) = some v := by
  simp only [loadV, ROp.run, Opd.ev, row_get h hl, hv]
theorem store_raw {g o : Nat} {cs : List AV} {es ty : Nat} (h : H.get g = some (.row ⟨cs, es, false, true, ty⟩)) (ho : o < cs.length) {v : AV} (hv : v.one = true) : storeE H 1 (.ptr g o) v = some (.undef, H.set g (.row ⟨cs.set o v, es, false, true, ty⟩)) := by
  have hc : v.cells = [v] := by cases v <;> first | rfl | (simp [AV.one] at hv)
  simp only [storeE, EOp.run, Opd.ev, hc, List.length_cons, List.length_nil, Nat.zero_add, if_true, storeA, row_get h rfl, List.all_cons, hv, List.all_nil, Bool.and_true, and_true, over]
  simp [Nat.succ_le_of_lt ho]
theorem BldAt.alloc (h : BldAt bt ct base H b t) (o : AObj) : BldAt bt ct base (H.alloc o) b t := by
  obtain ⟨p, v, h1, h2, h3⟩ := h.row
  refine ⟨h.lo, by have := h.lt; rw [AHeap.next_alloc]; omega, fun c hc => by rw [AHeap.next_alloc] at hc; rw [AHeap.get_alloc, if_neg (by omega)]; exact h.fr c (by omega), h.ct0, h.bt0, p, v, by rw [AHeap.get_alloc, if_neg (by have := h.lt; omega)]; exact h1, h2, ?_⟩
  rcases h3 with h3 | ⟨hne, g, e, g1, g2, g3, g4⟩
  · exact .inl h3
  · exact .inr ⟨hne, g, e, g1, g2, by rw [AHeap.next_alloc]; omega, by rw [AHeap.get_alloc, if_neg (by omega)]; exact g4⟩
theorem BldAt.keep_alloc (h : BldAt bt ct base H b t) (o : AObj) : Keep base H (H.alloc o) := fun c hc => by
  have := h.lo; have := h.lt
  rw [AHeap.get_alloc, if_neg (by omega)]
/-- its address is laid into it -/
theorem BldAt.used (h : BldAt bt ct base H b t) {p v : AV} (h1 : H.get b = some (.row ⟨[p, v], 0, false, true, bt⟩)) : BldAt bt ct base (H.set b (.row ⟨[.ptr b 0, v], 0, false, true, bt⟩)) b t ∧ Keep base H (H.set b (.row ⟨[.ptr b 0, v], 0, false, true, bt⟩)) := by
  obtain ⟨p', v', h1', h2, h3⟩ := h.row
  rw [h1] at h1'; injection h1' with h1'; injection h1' with h1'; injection h1' with h1' _ _ _ _; injection h1' with e1 e2; injection e2 with e2 _; subst e1; subst e2
  refine ⟨⟨h.lo, h.lt, fun c hc => ?_, h.ct0, h.bt0, .ptr b 0, v, by rw [AHeap.get_set, if_pos rfl], .inr rfl, ?_⟩, fun c hc => ?_⟩
  · have := h.lt
    rw [AHeap.next_set] at hc
    rw [AHeap.get_set, if_neg (by omega)]; exact h.fr c hc
  · rcases h3 with h3 | ⟨hne, g, e, g1, g2, g3, g4⟩
    · exact .inl h3
    · exact .inr ⟨hne, g, e, g1, g2, g3, by rw [AHeap.get_set, if_neg g2]; exact g4⟩
  · have := h.lo
    rw [AHeap.get_set, if_neg (by omega)]
/-- bytes go behind -/
theorem BldAt.app (h : BldAt bt ct base H b t) {s : List UInt8} (hs : s ≠ []) {w0 : AV} (hsrc : srcCells H 1 w0 = some (s.length, ofBytes s)) (hl : t.length + s.length ≤ 70368744177664) :
    ∃ v H2 H3 w, loadV H none (.ptr b 1) = some v ∧ appendTE ct H 1 1 v w0 = some (w, H2) ∧ storeE H2 1 (.ptr b 1) w = some (.undef, H3) ∧ BldAt bt ct base H3 b (t ++ s) ∧ Keep base H H3 ∧ H.next ≤ H3.next := by
  obtain ⟨p, v, h1, h2, h3⟩ := h.row
  have hlo := h.lo
  have hlt := h.lt
  have hs0 : s.length ≠ 0 := by simpa using hs
  have fin : ∀ (H2 : AHeap) (w : AV) (ww : List UInt8), ww = t ++ s → w = .slc H.next 0 ww.length ww.length → w.one = true → H2.next = H.next + 1 → H2.get b = some (.row ⟨[p, v], 0, false, true, bt⟩) → H2.get H.next = some (.row ⟨ofBytes ww, 1, false, true, ct⟩) → (∀ c, H.next + 1 ≤ c → H2.get c = none) → (∀ c, c < base → H2.get c = H.get c) →
      ∃ H3, storeE H2 1 (.ptr b 1) w = some (.undef, H3) ∧ BldAt bt ct base H3 b (t ++ s) ∧ Keep base H H3 ∧ H.next ≤ H3.next := by
    intro H2 w ww hww hw hone hn q1 q2 q3 q4
    subst hww
    refine ⟨_, store_raw q1 (by simp) hone, ⟨hlo, by rw [AHeap.next_set, hn]; omega, fun c hc => ?_, h.ct0, h.bt0, p, w, by rw [AHeap.get_set, if_pos rfl]; rfl, h2, .inr ⟨by simp [hs], H.next, hw, by omega, by omega, by rw [AHeap.next_set, hn]; omega, by rw [AHeap.get_set, if_neg (by omega)]; exact q2⟩⟩, fun c hc => ?_, by rw [AHeap.next_set, hn]; omega⟩
    · rw [AHeap.next_set, hn] at hc
      rw [AHeap.get_set, if_neg (by omega)]; exact q3 c hc
    · rw [AHeap.get_set, if_neg (by omega)]; exact q4 c hc
  rcases h3 with ⟨rfl, rfl⟩ | ⟨hne, g, rfl, g1, g2, g3, g4⟩
  · obtain ⟨H3, f1, f2⟩ := fin (H.alloc (.row ⟨ofBytes s, 1, false, true, ct⟩)) (.slc H.next 0 s.length s.length) s (by simp) rfl rfl rfl (by rw [AHeap.get_alloc, if_neg (by omega)]; exact h1) (by rw [AHeap.get_alloc, if_pos rfl]) (fun c hc => by rw [AHeap.get_alloc, if_neg (by omega)]; exact h.fr c (by omega)) (fun c hc => by rw [AHeap.get_alloc, if_neg (by omega)])
    refine ⟨.nils, _, H3, _, load_raw h1 rfl rfl, ?_, f1, f2⟩
    simp only [appendTE, EOp.run, Opd.ev, hsrc, appendA]
    rw [if_neg (by simp [ones_bytes]), if_neg hs0, if_pos (by simp at hl; omega)]
  · have hcut : AM.cut (ofBytes t) 0 (t.length * 1) = some (ofBytes t) := cut_all _ (by simp [ofBytes])
    have e : ofBytes t ++ ofBytes s = ofBytes (t ++ s) := by simp [ofBytes]
    obtain ⟨H3, f1, f2⟩ := fin ((H.set g (.row ⟨ofBytes t, 1, false, false, ct⟩)).alloc (.row ⟨ofBytes (t ++ s), 1, false, true, ct⟩)) (.slc H.next 0 (t ++ s).length (t ++ s).length) _ rfl rfl rfl rfl
      (by rw [AHeap.get_alloc, AHeap.next_set, if_neg (by omega), AHeap.get_set, if_neg (fun e => g2 e.symm)]; exact h1) (by rw [AHeap.get_alloc, AHeap.next_set, if_pos rfl])
      (fun c hc => by rw [AHeap.get_alloc, AHeap.next_set, if_neg (by omega), AHeap.get_set, if_neg (by omega)]; exact h.fr c (by omega)) (fun c hc => by rw [AHeap.get_alloc, AHeap.next_set, if_neg (by omega), AHeap.get_set, if_neg (by omega)])
    refine ⟨_, _, H3, _, load_raw h1 rfl rfl, ?_, f1, f2⟩
    simp only [appendTE, EOp.run, Opd.ev, hsrc, appendA, row_get g4 rfl, hcut, e, List.length_append]
    rw [if_neg (by simp [ones_bytes]), if_neg (by omega), if_neg (by omega), if_neg (by omega)]
    simp
theorem BldAt.push (h : BldAt bt ct base H b t) (hl : t.length ≤ 1000000) (x : UInt8) :
    ∃ H1 v H2 H3 w, H.alloc (.row ⟨[.int .u8 x.toNat], 0, false, true, 0⟩) = H1 ∧ loadV H none (.ptr b 1) = some v ∧ appendTE ct H1 1 1 v (.slc H.next 0 1 1) = some (w, H2) ∧ storeE H2 1 (.ptr b 1) w = some (.undef, H3) ∧ BldAt bt ct base H3 b (t ++ [x]) ∧ Keep base H H3 ∧ H.next ≤ H3.next := by
  have h1 := h.alloc (.row ⟨[.int .u8 x.toNat], 0, false, true, 0⟩)
  have hsrc : srcCells (H.alloc (.row ⟨[.int .u8 x.toNat], 0, false, true, 0⟩)) 1 (.slc H.next 0 1 1) = some ([x].length, ofBytes [x]) := by
    simp [srcCells, AHeap.row, AHeap.get_alloc, AM.cut, ofBytes]
  obtain ⟨v, H2, H3, w, q1, q2, q3, q4, q5, q6⟩ := h1.app (s := [x]) (by simp) hsrc (by simp; omega)
  refine ⟨_, v, H2, H3, w, rfl, ?_, q2, q3, q4, (h.keep_alloc _).trans q5, by rw [AHeap.next_alloc] at q6; omega⟩
  obtain ⟨p, v', r1, _⟩ := h.row
  have e1 := load_raw (o := 1) r1 rfl (v := v') rfl
  have hlt := h.lt
  have r2 : (H.alloc (.row ⟨[.int .u8 x.toNat], 0, false, true, 0⟩)).get b = some (.row ⟨[p, v'], 0, false, true, bt⟩) := by rw [AHeap.get_alloc, if_neg (by omega)]; exact r1
  rw [load_raw (o := 1) r2 rfl (v := v') rfl] at q1
  rw [e1, ← q1]
/-- what it holds, as a text -/
theorem BldAt.str (h : BldAt bt ct base H b t) (hl : t.length ≤ 9223372036854775807) : ∃ v x H', loadV H none (.ptr b 1) = some v ∧ sldataV v = some x ∧ lngV H 1 v = some (.int .i64 t.length) ∧ strUnsE ct H x (.int .i64 t.length) = some (.str t, H') ∧ Keep base H H' ∧ H.next ≤ H'.next ∧ ∀ c, H'.next ≤ c → H'.get c = none := by
  obtain ⟨p, v, h1, h2, h3⟩ := h.row
  rcases h3 with ⟨rfl, rfl⟩ | ⟨hne, g, rfl, g1, g2, g3, g4⟩
  · exact ⟨.nils, .nilp, H, load_raw h1 rfl rfl, rfl, rfl, rfl, Keep.refl _ _, Nat.le_refl _, h.fr⟩
  · have h0 : 0 < t.length := List.length_pos_iff.2 hne
    have hcut : AM.cut (ofBytes t) 0 t.length = some (ofBytes t) := cut_all _ (by simp [ofBytes])
    refine ⟨_, .ptr g 0, H.set g (.row ⟨ofBytes t, 1, false, false, ct⟩), load_raw h1 rfl rfl, sldata_slc _ _ _ _ h0, rfl, ?_, fun c hc => by rw [AHeap.get_set, if_neg (by omega)], Nat.le_refl _, fun c hc => ?_⟩
    · simp only [strUnsE, EOp.run, Opd.ev, Int.toNat_natCast, row_get g4 rfl, hcut, bytesOf_of]
      rw [if_neg (by have := h.ct0; simp; omega), if_neg (by simp)]
    · rw [AHeap.next_set] at hc
      rw [AHeap.get_set, if_neg (by omega)]; exact h.fr c hc
theorem BldAt.toUns (h : BldAt bt ct base H b t) : toUnsV H (.ptr b 0) = some (.ptr b 0) := by
  obtain ⟨p, v, h1, h2, h3⟩ := h.row
  have := h.bt0
  simp [toUnsV, ROp.run, Opd.ev, h1, this]
theorem BldAt.fromUns (h : BldAt bt ct base H b t) {l : List (Nat × Nat × Nat)} (hl : (bt, 2, 0) ∈ l) : fromUnsV H l (.ptr b 0) = some (.ptr b 0) := by
  obtain ⟨p, v, h1, h2, h3⟩ := h.row
  have := h.bt0
  simp only [fromUnsV, ROp.run, Opd.ev, h1]
  rw [if_pos ⟨this, hl⟩]
end
end Go.Proofs.YtdkpmlhbofgfdaaGreatDoor.AM
