/-
  The reader, names and forms, words of a line: walked.
-/
import Derived.Test.YtdkpmlhbofgfdaaGreatDoorCode
import Derived.Test.YtdkpmlhbofgfdaaGreatDoorAmBit
import Derived.Test.YtdkpmlhbofgfdaaGreatDoorAmFuel
import Derived.Lib.Join
import Derived.Lib.Bytealg
set_option linter.unusedVariables false
set_option linter.unusedSimpArgs false
namespace Go.Proofs.YtdkpmlhbofgfdaaGreatDoor.AM
open Go
def strsOf : List AV → Option (List (List UInt8))
  | [] => some []
  | .str s :: r => (match strsOf r with | some l => some (s :: l) | none => none)
  | _ :: _ => none
def joinO (args : List AV) (H : AHeap) : Option AV :=
  match args with
  | [.slc b o len cap, .str sep] =>
    (match H.row b with
    | some B =>
      (match cut B.cells o len with
      | some cs =>
        (match strsOf cs with
        | some ls => if 0 < len ∧ len ≤ 100000 ∧ (Lib.join ls sep).length ≤ 100000 then some (.str (Lib.join ls sep)) else none
        | none => none)
      | none => none)
    | none => none)
  | _ => none
/-! ### Memory behind a call that turns one block alone -/
structure Ax (rb : Nat) (H H' : AHeap) : Prop where
  keep : ∀ b, b < H.next → b ≠ rb → H'.get b = H.get b
  next : H.next ≤ H'.next
  fr : Fr H'
theorem Ax.refl {rb : Nat} {H : AHeap} (h : Fr H) : Ax rb H H := ⟨fun _ _ _ => rfl, Nat.le_refl _, h⟩
theorem Ax.trans {rb : Nat} {H H1 H2 : AHeap} (h : Ax rb H H1) (k : Ax rb H1 H2) : Ax rb H H2 :=
  ⟨fun b hb hn => (k.keep b (Nat.lt_of_lt_of_le hb h.next) hn).trans (h.keep b hb hn), Nat.le_trans h.next k.next, k.fr⟩
theorem Gr.ax {H H' : AHeap} (g : Gr H H') (rb : Nat) : Ax rb H H' := ⟨fun b hb _ => g.keep b hb, g.next, g.fr⟩
theorem Ax.keepT {rb : Nat} {H H1 H2 : AHeap} (h : Ax rb H H1) (k : Keep H.next H1 H2) (hn : H.next ≤ H2.next) (hf : Fr H2) : Ax rb H H2 :=
  ⟨fun b hb hr => (k b hb).trans (h.keep b hb hr), hn, hf⟩
theorem Hp.ax {base rb : Nat} {H H' : AHeap} {l : List Cel} (h : Hp base H l) (hr : rb < base) (a : Ax rb H H') : Hp base H' l :=
  ⟨fun x hx => by
      obtain ⟨es, ty, h1, h2⟩ := h.has x hx
      have := h.lo x hx
      exact ⟨es, ty, by rw [a.keep _ (h.lt hx) (by omega)]; exact h1, h2⟩, h.nd, h.lo, Nat.le_trans h.bn a.next, a.fr⟩
/-! ### What is not a row stays, whatever is stored -/
def isRow : AObj → Bool
  | .row _ => true
  | _ => false
def NR (H H' : AHeap) : Prop := ∀ c o, H.get c = some o → isRow o = false → H'.get c = some o
theorem NR.refl (H : AHeap) : NR H H := fun _ _ h _ => h
theorem NR.trans {H H1 H2 : AHeap} (h : NR H H1) (k : NR H1 H2) : NR H H2 := fun c o a b => k c o (h c o a b) b
theorem nr_set {H : AHeap} {b : Nat} {B B' : Blk} (h : H.row b = some B) : NR H (H.set b (.row B')) := by
  intro c o ho hi
  rw [AHeap.get_set]
  by_cases hc : c = b
  · subst hc
    unfold AHeap.row at h
    rw [ho] at h
    cases o <;> first | (simp [isRow] at hi; done) | (simp at h)
  · rw [if_neg hc]; exact ho
theorem nr_alloc {H : AHeap} (hf : Fr H) (o' : AObj) : NR H (H.alloc o') := by
  intro c o ho hi
  have : c < H.next := Nat.lt_of_not_le fun hh => by rw [hf c hh] at ho; cases ho
  rw [AHeap.get_alloc, if_neg (by omega)]; exact ho
theorem Gr.nr {H H' : AHeap} (g : Gr H H') (hf : Fr H) : NR H H' := fun c o ho _ => g.get hf ho
theorem storeA_nr {H H' : AHeap} {b o : Nat} {cs : List AV} (h : storeA H b o cs = some H') : NR H H' := by
  unfold storeA at h
  split at h
  · rename_i B hB
    split at h
    · obtain rfl := Option.some.inj h
      exact nr_set hB
    · cases h
  · cases h
theorem storeE_nr {H H' : AHeap} {n b o : Nat} {v u : AV} (h : storeE H n (.ptr b o) v = some (u, H')) : NR H H' := by
  have e : storeE H n (.ptr b o) v = if v.cells.length = n then (match storeA H b o v.cells with | some H' => some (.undef, H') | none => none) else none := rfl
  rw [e] at h
  by_cases hl : v.cells.length = n
  · rw [if_pos hl] at h
    cases hs : storeA H b o v.cells with
    | none => rw [hs] at h; cases h
    | some H2 =>
      rw [hs] at h
      simp only [Option.some.injEq, Prod.mk.injEq] at h
      obtain ⟨_, rfl⟩ := h
      exact storeA_nr hs
  · rw [if_neg hl] at h; cases h
theorem appendA_nr {H H' : AHeap} (hf : Fr H) {ty es bytes n : Nat} {s u : AV} {new : List AV} (h : appendA ty H es bytes s n new = some (u, H')) : NR H H' := by
  unfold appendA at h
  split at h
  · split at h
    · simp only [Option.some.injEq, Prod.mk.injEq] at h; obtain ⟨_, rfl⟩ := h; exact NR.refl _
    · split at h
      · simp only [Option.some.injEq, Prod.mk.injEq] at h; obtain ⟨_, rfl⟩ := h; exact nr_alloc hf _
      · cases h
  · split at h
    · split at h
      · simp only [Option.some.injEq, Prod.mk.injEq] at h; obtain ⟨_, rfl⟩ := h; exact NR.refl _
      · split at h
        · rename_i H2 hs
          simp only [Option.some.injEq, Prod.mk.injEq] at h
          obtain ⟨_, rfl⟩ := h
          exact storeA_nr hs
        · cases h
    · split at h
      · cases h
      · split at h
        · cases h
        · rename_i B hB
          split at h
          · cases h
          · split at h
            · simp only [Option.some.injEq, Prod.mk.injEq] at h; obtain ⟨_, rfl⟩ := h; exact nr_alloc hf _
            · split at h
              · simp only [Option.some.injEq, Prod.mk.injEq] at h
                obtain ⟨_, rfl⟩ := h
                refine (nr_set (B' := { B with live := false }) hB).trans (nr_alloc (fun c hc => ?_) _)
                rw [AHeap.get_set]
                have hlt : (‹Nat› : Nat) = ‹Nat› := rfl
                by_cases hcb : H.get c = none
                · split
                  · rename_i he
                    subst he
                    unfold AHeap.row at hB; rw [hcb] at hB; cases hB
                  · exact hcb
                · exact absurd (hf c hc) hcb
              · cases h
  · cases h
theorem appendE_nr {H H' : AHeap} (hf : Fr H) {es bytes : Nat} {s x u : AV} (h : appendE H es bytes s x = some (u, H')) : NR H H' := by
  simp only [appendE, EOp.run, Opd.ev] at h
  split at h
  · split at h
    · cases h
    · exact appendA_nr hf h
  · cases h
/-! ### Rows that grow, one by one -/
def Grow (k base : Nat) (H : AHeap) (v : AV) (cs : List AV) (n : Nat) (rest : List Cel) : Prop :=
  cs.length = n * k ∧ ((n = 0 ∧ v = .nils ∧ Hp base H rest) ∨ (0 < n ∧ ∃ b, v = .slc b 0 n n ∧ Hp base H (⟨b, k, cs⟩ :: rest)))
section
variable {k base n : Nat} {H : AHeap} {v : AV} {cs : List AV} {rest : List Cel}
theorem Grow.nil (k : Nat) (h : Hp base H rest) : Grow k base H .nils [] 0 rest := ⟨by simp, .inl ⟨rfl, rfl, h⟩⟩
theorem Grow.hp (h : Grow k base H v cs n rest) : Hp base H rest := by
  rcases h with ⟨_, ⟨_, _, h⟩ | ⟨_, b, _, h⟩⟩
  · exact h
  · exact h.drop
theorem Grow.one (h : Grow k base H v cs n rest) : v.one = true := by
  rcases h with ⟨_, ⟨_, rfl, _⟩ | ⟨_, b, rfl, _⟩⟩ <;> rfl
theorem Grow.len (h : Grow k base H v cs n rest) (H2 : AHeap) : lngV H2 1 v = some (.int .i64 n) := by
  rcases h with ⟨_, ⟨rfl, rfl, _⟩ | ⟨_, b, rfl, _⟩⟩ <;> rfl
theorem Grow.map {base' : Nat} {H' : AHeap} {rest' : List Cel} (h : Grow k base H v cs n rest) (hm : ∀ l, Hp base H (l ++ rest) → Hp base' H' (l ++ rest')) : Grow k base' H' v cs n rest' := by
  rcases h with ⟨h0, ⟨h1, h2, h⟩ | ⟨h1, b, h2, h⟩⟩
  · exact ⟨h0, .inl ⟨h1, h2, hm [] h⟩⟩
  · exact ⟨h0, .inr ⟨h1, b, h2, hm [_] h⟩⟩
theorem Grow.ax {rb : Nat} {H' : AHeap} (h : Grow k base H v cs n rest) (hr : rb < base) (a : Ax rb H H') : Grow k base H' v cs n rest := h.map fun l hl => hl.ax hr a
theorem Grow.gr {H' : AHeap} (h : Grow k base H v cs n rest) (g : Gr H H') : Grow k base H' v cs n rest := h.map fun l hl => hl.keep g.keep g.next g.fr
theorem Grow.lower {base' : Nat} (h : Grow k base H v cs n rest) (hb : base' ≤ base) : Grow k base' H v cs n rest := h.map fun l hl => hl.lower hb
theorem Hp.insert1 {l : List Cel} {x y : Cel} (h : Hp base H (x :: y :: l)) : Hp base H (y :: x :: l) := h.swap
/-- one more row: it is laid in a block of its own, then put behind -/
theorem Grow.push (h : Grow k base H v cs n rest) {r : List AV} (hr : r.length = k) (h1 : r.all AV.one = true) (hk : 0 < k) {bytes : Nat} (hb : 0 < bytes) (hs : (n + 1) * bytes ≤ 70368744177664) :
    ∃ H1 H2 v2, H.alloc (.row ⟨r, 0, false, true, 0⟩) = H1 ∧ appendE H1 k bytes v (.slc H.next 0 1 1) = some (v2, H2) ∧ Grow k base H2 v2 (cs ++ r) (n + 1) rest ∧ Keep base H H2 ∧ NR H H2 ∧ H.next ≤ H2.next := by
  obtain ⟨hl, h⟩ := h
  have hl2 : (cs ++ r).length = (n + 1) * k := by simp [hl, hr, Nat.add_mul]
  rcases h with ⟨rfl, rfl, h⟩ | ⟨hn, b, rfl, h⟩
  · obtain ⟨H1, s1, g1, k1⟩ := h.make r k
    have hsrc := g1.src (k := k) (m := 1) (b := H.next) (k' := k) (o := 0) (c := 1) (pre := []) (post := []) (ys := r) (by simp) rfl (by omega) (by omega)
    obtain ⟨H2, s2, g2, k2⟩ := g1.appendK0 hk hsrc (by omega) h1 hb (by simpa using hs)
    have hc : cs = [] := List.eq_nil_of_length_eq_zero (by simpa using hl)
    subst hc
    have n1 : H1.next = H.next + 1 := by rw [← s1]; rfl
    refine ⟨H1, H2, _, s1, s2, ⟨hl2, .inr ⟨by omega, H1.next, by simp, ?_⟩⟩, k1.trans k2, ?_, ?_⟩
    · have := g2.swap.drop
      simpa using this
    · rw [← s1] at s2
      exact (nr_alloc h.fr _).trans (appendE_nr (by rw [s1]; exact g1.fr) s2)
    · have := g2.lt (List.mem_cons_self ..); simp only at this; omega
  · obtain ⟨H1, s1, g1, k1⟩ := h.make r k
    have hsrc := g1.src (k := k) (m := 1) (b := H.next) (k' := k) (o := 0) (c := 1) (pre := []) (post := []) (ys := r) (by simp) rfl (by omega) (by omega)
    have g1' := g1.swap
    obtain ⟨H2, s2, g2, k2⟩ := Hp.appendK (o := 0) (pre := []) (xs := cs) (n := n) (m := 1) (bytes := bytes) (by simpa using g1') rfl hl hk hsrc (by omega) h1 hb hs
    have n1 : H1.next = H.next + 1 := by rw [← s1]; rfl
    refine ⟨H1, H2, _, s1, s2, ⟨hl2, .inr ⟨by omega, H1.next, rfl, ?_⟩⟩, k1.trans k2, ?_, ?_⟩
    · exact g2.swap.drop
    · rw [← s1] at s2
      exact (nr_alloc h.fr _).trans (appendE_nr (by rw [s1]; exact g1.fr) s2)
    · have := g2.lt (List.mem_cons_self ..); simp only at this; omega
end
/-! ### Bytes that are read -/
def hd (s : List UInt8) : Nat := match s with | [] => 0 | c :: _ => c.toNat
def Bys (H : AHeap) (rb : Nat) (v : AV) (s : List UInt8) : Prop :=
  (v = .nils ∧ s = []) ∨ ∃ b o cap B, v = .slc b o s.length cap ∧ b < rb ∧ H.get b = some (.row B) ∧ B.live = true ∧ (B.es = 0 ∨ B.es = 1) ∧ s.length ≤ cap ∧ ∀ i x, s[i]? = some x → B.cells[o + i]? = some (.int .u8 x.toNat)
structure Rdr (rb : Nat) (H : AHeap) (s : List UInt8) : Prop where
  pos : 0 < rb
  lt : rb < H.next
  ex : ∃ es ty v, H.get rb = some (.row ⟨[v], es, false, true, ty⟩) ∧ Bys H rb v s
theorem hd_lt (s : List UInt8) : hd s < 256 := by
  cases s with
  | nil => decide
  | cons c t => exact UInt8.toNat_lt c
section
variable {rb : Nat} {H : AHeap} {s : List UInt8} {v : AV}
theorem Bys.len (h : Bys H rb v s) (H2 : AHeap) : lngV H2 1 v = some (.int .i64 s.length) := by
  rcases h with ⟨rfl, rfl⟩ | ⟨b, o, cap, B, rfl, _⟩ <;> rfl
theorem Bys.one (h : Bys H rb v s) : v.one = true := by
  rcases h with ⟨rfl, rfl⟩ | ⟨b, o, cap, B, rfl, _⟩ <;> rfl
theorem Bys.ax {H' : AHeap} (h : Bys H rb v s) (hl : rb < H.next) (a : Ax rb H H') : Bys H' rb v s := by
  rcases h with h | ⟨b, o, cap, B, h1, h2, h4, h5⟩
  · exact .inl h
  · exact .inr ⟨b, o, cap, B, h1, h2, by rw [a.keep b (by omega) (by omega)]; exact h4, h5⟩
theorem Rdr.load (h : Rdr rb H s) : ∃ v, loadV H none (.ptr rb 0) = some v ∧ Bys H rb v s := by
  obtain ⟨es, ty, v, h1, h2⟩ := h.ex
  exact ⟨v, by simp only [loadV, ROp.run, Opd.ev, AHeap.row, h1, if_true]; rfl, h2⟩
theorem Rdr.store (h : Rdr rb H s) (hf : Fr H) {w : AV} {t : List UInt8} (hw : Bys H rb w t) : ∃ H', storeE H 1 (.ptr rb 0) w = some (.undef, H') ∧ Ax rb H H' ∧ Rdr rb H' t ∧ H'.next = H.next := by
  obtain ⟨es, ty, v, h1, h2⟩ := h.ex
  have hc : w.cells = [w] := by
    rcases hw with ⟨rfl, _⟩ | ⟨b, o, cap, B, rfl, _⟩ <;> rfl
  have a : Ax rb H (H.set rb (.row ⟨[w], es, false, true, ty⟩)) := ⟨fun b hb hn => by rw [AHeap.get_set, if_neg hn], Nat.le_refl _, fun b hb => by
    have := h.lt
    have hb' : H.next ≤ b := hb
    rw [AHeap.get_set, if_neg (by omega)]; exact hf b hb'⟩
  refine ⟨H.set rb (.row ⟨[w], es, false, true, ty⟩), ?_, a, ⟨h.pos, h.lt, es, ty, w, by rw [AHeap.get_set, if_pos rfl], hw.ax h.lt a⟩, rfl⟩
  have hrow : H.row rb = some ⟨[v], es, false, true, ty⟩ := by simp only [AHeap.row, h1, if_true]
  have h1' := hw.one
  simp only [storeE, EOp.run, Opd.ev, hc, List.length_cons, List.length_nil, Nat.zero_add, if_true, storeA, hrow, over]
  simp [h1']
theorem Bys.hd {c : UInt8} {t : List UInt8} (h : Bys H rb v (c :: t)) : ∃ p, idxSV 1 v (.int .i64 0) = some p ∧ loadV H none p = some (.int .u8 c.toNat) ∧ ∃ w, slSV H 1 v (some (.int .i64 1)) none = some w ∧ Bys H rb w t := by
  rcases h with ⟨_, h⟩ | ⟨b, o, cap, B, rfl, h2, h4, h5, h6, h7, h8⟩
  · cases h
  · have hr : H.row b = some B := by simp only [AHeap.row, h4, h5, if_true]
    have hc := h8 0 c rfl
    refine ⟨.ptr b (o + 0 * 1), ?_, ?_, .slc b (o + 1) t.length (cap - 1), ?_, .inr ⟨b, o + 1, cap - 1, B, rfl, h2, h4, h5, h6, by simp at h7; omega, fun i x hx => ?_⟩⟩
    · simp only [idxSV, ROp.run, Opd.ev, inIndex, List.length_cons]
      rw [if_pos (by omega)]; rfl
    · simp only [loadV, ROp.run, Opd.ev, hr, Nat.zero_mul]; rw [hc]
    · simp only [slSV, ROp.run, Opd.ev, Option.map_some, Option.map_none, bounds, bound, List.length_cons]
      rw [if_pos (by omega)]
      simp only [h4]
      rw [if_pos h6]
      simp
    · rw [Nat.add_assoc, Nat.add_comm 1 i]; exact h8 (i + 1) x hx
end
/-- what lies above a base may be written over -/
theorem Rdr.keep {rb base : Nat} {H H' : AHeap} {s : List UInt8} (h : Rdr rb H s) (hr : rb < base) (hk : Keep base H H') (hn : H.next ≤ H'.next) : Rdr rb H' s := by
  obtain ⟨es, ty, v, h1, h2⟩ := h.ex
  refine ⟨h.pos, Nat.lt_of_lt_of_le h.lt hn, es, ty, v, by rw [hk _ hr]; exact h1, ?_⟩
  rcases h2 with h2 | ⟨b, o, cap, B, e1, e2, e4, e5⟩
  · exact .inl h2
  · exact .inr ⟨b, o, cap, B, e1, e2, by rw [hk b (by omega)]; exact e4, e5⟩
theorem Rdr.gr {rb : Nat} {H H' : AHeap} {s : List UInt8} (h : Rdr rb H s) (g : Gr H H') : Rdr rb H' s := h.keep h.lt g.keep g.next
def decN (n : Nat) : List UInt8 := if n < 10 then [UInt8.ofNat (48 + n)] else if n < 100 then [UInt8.ofNat (48 + n / 10), UInt8.ofNat (48 + n % 10)] else [UInt8.ofNat (48 + n / 100), UInt8.ofNat (48 + n / 10 % 10), UInt8.ofNat (48 + n % 10)]
def decZ : Int → List UInt8
  | .ofNat n => decN n
  | .negSucc n => 45 :: decN (n + 1)
structure ScQ (Q : Prog) : Prop where
  o25 : ∀ n : Int, -4 ≤ n → n < 256 → Q.orc 35 [.int .i64 n] = some (.str (decZ n))
  o50 : ∀ n : Int, -4 ≤ n → n < 256 → Q.orc 60 [.str (decZ n)] = some (.tup [.int .i64 n, .nilIface])
  o49 : ∀ s c, Q.orc 59 [.str s, .str [c]] = some (.int .i64 (Lib.indexByte s c))
  o82 : ∀ s c, Q.orc 92 [.str s, .str [c]] = some (.int .i64 ((Lib.countByte s c : Nat) : Int))
  tz : ∀ t ∈ Q.tabs, t.g = 0
  n30 : Q.fns 40 = none
  j30 : ∀ args H, Q.orh 40 args H = joinO args H
  q6 : Q.fns 6 = some A6
  q9 : Q.fns 9 = some A9
  q10 : Q.fns 10 = some A10
  q8 : Q.fns 8 = some A8
  q14 : Q.fns 14 = some A14
  q15 : Q.fns 15 = some A15
  q16 : Q.fns 16 = some A16
  q17 : Q.fns 17 = some A17
  q18 : Q.fns 18 = some A18
  q19 : Q.fns 19 = some A19
  q20 : Q.fns 20 = some A20
  q21 : Q.fns 21 = some A21
  q25 : Q.fns 25 = some A25
  q26 : Q.fns 26 = some A26
  q27 : Q.fns 27 = some A27
  q28 : Q.fns 28 = some A28
  q29 : Q.fns 29 = some A29
  q33 : Q.fns 33 = some A33
  q34 : Q.fns 34 = some A34
  q36 : Q.fns 36 = some A36
  q37 : Q.fns 37 = some A37
  q38 : Q.fns 38 = some A38
  q41 : Q.fns 41 = some A41
  q42 : Q.fns 42 = some A42
  q43 : Q.fns 43 = some A43
  q48 : Q.fns 48 = some A48
  q49 : Q.fns 49 = some A49
  q50 : Q.fns 50 = some A50
  q51 : Q.fns 51 = some A51
  q52 : Q.fns 52 = some A52
  q61 : Q.fns 61 = some A61
  q62 : Q.fns 62 = some A62
  q63 : Q.fns 63 = some A63
  q64 : Q.fns 64 = some A64
  q78 : Q.fns 78 = some A78
  q79 : Q.fns 79 = some A79
  q80 : Q.fns 80 = some A80
  q90 : Q.fns 90 = some A90
  q93 : Q.fns 93 = some A93
  q94 : Q.fns 94 = some A94
  ho : ∀ f, (Nat.beq f 4 || Nat.beq f 35 || Nat.beq f 59 || Nat.beq f 60 || Nat.beq f 92) = false → ∀ a, Q.orc f a = Option.none
theorem wantV_undef (b : Bool) : wantV .undef b = false := rfl
def callvW (Q : Prog) (v : AV) (args : List AV) (H : AHeap) (K : AV → AHeap → Prop) : Prop := match v with | .fn (.func g) first captured => FnTo Q g (first ++ args ++ captured) H K | .yld b => CTo Q (.yld b) args H K | _ => False
theorem wp_callv (Q : Prog) (H : AHeap) (e : Env) (K : AV → AHeap → Prop) (f : Opd) (args : List Opd) : EOp.wp Q H e K (.callv f args) = callvW Q (f.ev e) (args.map (·.ev e)) H K := rfl
theorem callvW_fn (Q : Prog) (g : FuncId) (a b args : List AV) (H : AHeap) (K : AV → AHeap → Prop) : callvW Q (.fn (.func g) a b) args H K = FnTo Q g (a ++ args ++ b) H K := rfl
theorem resCell (e : Env) (H : AHeap) (i n : Nat) : resVal e H [.cell i (some n)] = loadV H (some n) (Env.get e i) := by
  simp only [resVal, resVals, ARes.val]
  show (match (match loadV H (some n) (Env.get e i) with | some v => some [v] | none => none) with | some [v] => some v | some vs => some (.tup vs) | none => none) = _
  cases loadV H (some n) (Env.get e i) <;> rfl
theorem remN {a m : Nat} (h : 0 < m) : binV .rem (.int .i64 (a : Int)) (.int .i64 (m : Int)) = some (.int .i64 ((a % m : Nat) : Int)) := by
  have : ¬ m = 0 := by omega
  simp only [binV, intBin]
  rw [if_pos trivial, if_neg (by omega)]
  rfl
theorem quoN {a m : Nat} (h : 0 < m) (ha : a < 9223372036854775808) : binV .quo (.int .i64 (a : Int)) (.int .i64 (m : Int)) = some (.int .i64 ((a / m : Nat) : Int)) := by
  simp only [binV, intBin]
  rw [if_pos trivial, if_neg (by omega)]
  have : (a : Int).tdiv (m : Int) = ((a / m : Nat) : Int) := rfl
  rw [this, wrapNat (Nat.lt_of_le_of_lt (Nat.div_le_self _ _) ha)]
theorem addN {a b : Nat} (h : a + b < 9223372036854775808) : binV .add (.int .i64 (a : Int)) (.int .i64 (b : Int)) = some (.int .i64 ((a + b : Nat) : Int)) := by
  rw [bin_add, show (a : Int) + (b : Int) = ((a + b : Nat) : Int) by omega, wrapNat h]
theorem strOfBytes_nils (H : AHeap) : strOfBytesV H .nils = some (.str []) := rfl
theorem Grow.str {base : Nat} {H : AHeap} {v : AV} {t : List UInt8} {n : Nat} {rest : List Cel} (h : Grow 1 base H v (ofBytes t) n rest) : strOfBytesV H v = some (.str t) := by
  obtain ⟨h0, ⟨rfl, rfl, h⟩ | ⟨h1, b, rfl, h⟩⟩ := h
  · have : t = [] := List.eq_nil_of_length_eq_zero (by simpa [ofBytes] using h0)
    subst this; rfl
  · have hn : t.length = n := by simpa [ofBytes] using h0
    exact h.strA (b := b) (k := 1) (c := []) (cap := n) (by simp) hn
/-! ### What is read -/
def at0' (s : List UInt8) (i : Nat) : UInt8 := s[i]?.getD 0
def rdN (k : Nat) (s : List UInt8) : List UInt8 := (List.range k).map (at0' s)
def rdW (k : Nat) (s : List UInt8) : List UInt8 := (List.range k).map fun i => UInt8.ofNat (97 + (at0' s i).toNat % 26)
theorem hd_drop (s : List UInt8) (i : Nat) : hd (s.drop i) = (at0' s i).toNat := by
  unfold at0'
  cases h : s[i]? with
  | none =>
    rw [List.drop_eq_nil_of_le (List.getElem?_eq_none_iff.1 h)]; rfl
  | some c =>
    obtain ⟨h1, h2⟩ := List.getElem?_eq_some_iff.1 h
    rw [List.drop_eq_getElem_cons h1, h2]; rfl
theorem rdN_succ (k : Nat) (s : List UInt8) : ofBytes (rdN (k + 1) s) = ofBytes (rdN k s) ++ [.int .u8 (at0' s k).toNat] := by
  simp [rdN, ofBytes, List.range_succ]
theorem rdW_succ (k : Nat) (s : List UInt8) : ofBytes (rdW (k + 1) s) = ofBytes (rdW k s) ++ [.int .u8 (97 + (at0' s k).toNat % 26 : Nat)] := by
  have : (97 + (at0' s k).toNat % 26) % 256 = 97 + (at0' s k).toNat % 26 := by omega
  simp [rdW, ofBytes, List.range_succ, UInt8.toNat_ofNat', this]
theorem rdN_len (k : Nat) (s : List UInt8) : (rdN k s).length = k := by simp [rdN]
theorem rdW_len (k : Nat) (s : List UInt8) : (rdW k s).length = k := by simp [rdW]
/-- a closure that reads a label -/
def Lab (rb m lim : Nat) (H : AHeap) (lv : AV) : Prop :=
  rb < lim ∧ lim ≤ H.next ∧ ((∃ b3 b4, lv = .fn (.func 17) [] [.ptr b3 0, .ptr b4 0] ∧ b3 < lim ∧ b3 ≠ rb ∧ b4 < lim ∧ b4 ≠ rb ∧ loadV H none (.ptr b3 0) = some (.ptr rb 0) ∧ loadV H none (.ptr b4 0) = some (.int .i64 (m : Int))) ∨
  (m = 256 ∧ ∃ b3, lv = .fn (.func 18) [] [.ptr b3 0] ∧ b3 < lim ∧ b3 ≠ rb ∧ loadV H none (.ptr b3 0) = some (.ptr rb 0)))
theorem load_of {H H' : AHeap} {b : Nat} (h : H'.get b = H.get b) (sz : Option Nat) (o : Nat) : loadV H' sz (.ptr b o) = loadV H sz (.ptr b o) := by
  have : H'.row b = H.row b := by unfold AHeap.row; rw [h]
  cases sz <;> simp only [loadV, ROp.run, Opd.ev, this]
theorem Lab.of {rb m lim : Nat} {H H' : AHeap} {lv : AV} (h : Lab rb m lim H lv) (hn : H.next ≤ H'.next) (hk : ∀ b, b < lim → b ≠ rb → H'.get b = H.get b) : Lab rb m lim H' lv := by
  obtain ⟨h0, h1, h⟩ := h
  refine ⟨h0, Nat.le_trans h1 hn, ?_⟩
  rcases h with ⟨b3, b4, h2, h3, h4, h5, h6, h7, h8⟩ | ⟨hm, b3, h2, h3, h4, h7⟩
  · exact .inl ⟨b3, b4, h2, h3, h4, h5, h6, by rw [load_of (hk b3 h3 h4)]; exact h7, by rw [load_of (hk b4 h5 h6)]; exact h8⟩
  · exact .inr ⟨hm, b3, h2, h3, h4, by rw [load_of (hk b3 h3 h4)]; exact h7⟩
theorem Lab.ax {rb m lim : Nat} {H H' : AHeap} {lv : AV} (h : Lab rb m lim H lv) (a : Ax rb H H') : Lab rb m lim H' lv := h.of a.next fun b hb hn => a.keep b (Nat.lt_of_lt_of_le hb h.2.1) hn
theorem Lab.keep {rb m lim base : Nat} {H H' : AHeap} {lv : AV} (h : Lab rb m lim H lv) (hl : lim ≤ base) (k : Keep base H H') (hn : H.next ≤ H'.next) : Lab rb m lim H' lv := h.of hn fun b hb _ => k b (by omega)
section
variable {Q : Prog} (sq : ScQ Q) {H : AHeap} {rb : Nat} {s : List UInt8}
include sq
theorem byte_spec (h : Rdr rb H s) (hf : Fr H) : FnTo Q 16 [.ptr rb 0] H (fun r H' => r = .int .i64 (hd s : Int) ∧ Ax rb H H' ∧ Rdr rb H' s.tail) := by
  refine fn_wp (sq.ho 16 rfl _) sq.q16 (by simp [A16]) ?_
  obtain ⟨v, l1, hb⟩ := h.load
  cases s with
  | nil =>
    have ln : lngV H 1 v = some (.int .i64 0) := hb.len H
    simp only [A16, l1, ln, SX, reduceCtorEq, Nat.reduceEqDiff, ↓reduceIte, Int.reduceEq, Int.reduceLT, Int.reduceLE, Nat.reduceAdd]
    exact ⟨rfl, Ax.refl hf, h⟩
  | cons c t =>
    have ln := hb.len H
    have d : ((((c :: t).length : Nat) : Int) = 0) ↔ False := ⟨fun hh => by simp at hh; omega, False.elim⟩
    obtain ⟨p, i1, i2, w, s1, hw⟩ := hb.hd
    obtain ⟨H1, st, a1, r1, n1⟩ := h.store hf hw
    have w1 : IntKind.wrap .i64 (c.toNat : Int) = c.toNat := wrapNat (by have := UInt8.toNat_lt c; omega)
    simp only [A16, l1, ln, d, i1, i2, run_slS, s1, wp_store, st, w1, SX, reduceCtorEq, Nat.reduceEqDiff, ↓reduceIte, Int.reduceEq, Int.reduceLT, Int.reduceLE, Nat.reduceAdd]
    first | exact ⟨rfl, a1, r1⟩ | exact ⟨a1, r1⟩
theorem below_spec {m : Nat} (hm : 0 < m) (h : Rdr rb H s) (hf : Fr H) : FnTo Q 14 [.ptr rb 0, .int .i64 (m : Int)] H (fun r H' => r = .int .i64 ((hd s % m : Nat) : Int) ∧ Ax rb H H' ∧ Rdr rb H' s.tail) := by
  refine fn_wp (sq.ho 14 rfl _) sq.q14 (by simp [A14]) ?_
  simp only [A14, SX, reduceCtorEq, Nat.reduceEqDiff, ↓reduceIte, Int.reduceEq, Int.reduceLT, Int.reduceLE, Nat.reduceAdd]
  refine (byte_spec sq h hf).mono ?_
  rintro _ H1 ⟨rfl, a1, r1⟩
  have rm := remN (a := hd s) hm
  simp only [rm, SX, reduceCtorEq, Nat.reduceEqDiff, ↓reduceIte, Int.reduceEq, Int.reduceLT, Int.reduceLE, Nat.reduceAdd]
  first | exact ⟨rfl, a1, r1⟩ | exact ⟨a1, r1⟩
set_option maxHeartbeats 1000000 in
theorem text_spec {m : Nat} (hm : 0 < m) (hm2 : m ≤ 256) (h : Rdr rb H s) (hf : Fr H) : FnTo Q 20 [.ptr rb 0, .int .i64 (m : Int)] H (fun r H' => r = .str (rdN (hd s % m) s.tail) ∧ Ax rb H H' ∧ Rdr rb H' (s.tail.drop (hd s % m))) := by
  refine fn_wp (sq.ho 20 rfl _) sq.q20 (by simp [A20]) ?_
  simp only [A20, SX, reduceCtorEq, Nat.reduceEqDiff, ↓reduceIte, Int.reduceEq, Int.reduceLT, Int.reduceLE, Nat.reduceAdd]
  refine (below_spec sq hm h hf).mono ?_
  rintro _ H1 ⟨rfl, a1, r1⟩
  have hk : hd s % m < 256 := Nat.lt_of_lt_of_le (Nat.mod_lt _ hm) hm2
  generalize hd s % m = k at hk ⊢
  generalize s.tail = t at r1 ⊢
  have g1 : Hp H.next H1 [] := (Hp.nil H hf).ax h.lt a1
  simp only [SX, reduceCtorEq, Nat.reduceEqDiff, ↓reduceIte, Int.reduceEq, Int.reduceLT, Int.reduceLE, Nat.reduceAdd]
  obtain ⟨I, hI⟩ : ∃ I : Nat → Env → AHeap → Prop, ∀ m e H', I m e H' ↔ (∃ i v, m = k - i ∧ i ≤ k ∧ Grow 1 H.next H' v (ofBytes (rdN i t)) i [] ∧ Ax rb H H' ∧ Rdr rb H' (t.drop i) ∧ Env.get e 0 = .ptr rb 0 ∧ Env.get e 5 = v ∧ Env.get e 8 = .int .i64 (k : Int) ∧ Env.get e 9 = .int .i64 (i : Int)) := ⟨_, fun _ _ _ => Iff.rfl⟩
  refine loop_by I k ?_ ?_
  · exact (hI _ _ _).2 ⟨0, .nils, rfl, by omega, Grow.nil 1 g1, a1, r1, (by first | (simp only [SG, reduceCtorEq, Nat.reduceEqDiff, ↓reduceIte] <;> rfl) | rfl), (by first | (simp only [SG, reduceCtorEq, Nat.reduceEqDiff, ↓reduceIte] <;> rfl) | rfl), (by first | (simp only [SG, reduceCtorEq, Nat.reduceEqDiff, ↓reduceIte] <;> rfl) | rfl), (by first | (simp only [SG, reduceCtorEq, Nat.reduceEqDiff, ↓reduceIte] <;> rfl) | rfl)⟩
  · intro m' e H2 hinv
    obtain ⟨i, v, rfl, hi, gw, a2, r2, e0, e5, e8, e9⟩ := (hI _ _ _).1 hinv
    by_cases d : (i : Int) < k
    · simp only [e0, e5, e8, e9, d, SX, reduceCtorEq, Nat.reduceEqDiff, ↓reduceIte, Int.reduceEq, Int.reduceLT, Int.reduceLE, Nat.reduceAdd]
      refine (byte_spec sq r2 a2.fr).mono ?_
      rintro _ H3 ⟨rfl, a3, r3⟩
      have hb := hd_drop t i
      have w8 : IntKind.wrap .u8 (hd (t.drop i) : Int) = ((at0' t i).toNat : Int) := by rw [hb, wrapU8N]; simp
      have gw3 := gw.ax h.lt a3
      obtain ⟨H4, H5, v5, s4, s5, gw5, k5, _, n5⟩ := gw3.push (r := [.int .u8 (at0' t i).toNat]) rfl rfl (by omega) (bytes := 1) (by omega) (by omega)
      have w1 : IntKind.wrap .i64 ((i : Int) + 1) = ((i + 1 : Nat) : Int) := wrapNat (n := i + 1) (by omega)
      have hab := a2.trans a3
      have f5 := gw5.hp.fr
      have hn : H.next ≤ H5.next := Nat.le_trans hab.next n5
      rw [List.tail_drop] at r3
      simp only [e0, e5, e8, e9, w8, s4, wp_append, s5, w1, SX, reduceCtorEq, Nat.reduceEqDiff, ↓reduceIte, Int.reduceEq, Int.reduceLT, Int.reduceLE, Nat.reduceAdd]
      refine ⟨k - (i + 1), by omega, (hI _ _ _).2 ⟨i + 1, v5, rfl, by omega, by rw [rdN_succ]; exact gw5, hab.keepT k5 hn f5, r3.keep h.lt k5 n5, (by simp only [SG, reduceCtorEq, Nat.reduceEqDiff, ↓reduceIte, e0] <;> rfl), (by first | (simp only [SG, reduceCtorEq, Nat.reduceEqDiff, ↓reduceIte] <;> rfl) | rfl), (by simp only [SG, reduceCtorEq, Nat.reduceEqDiff, ↓reduceIte, e8] <;> rfl), (by first | (simp only [SG, reduceCtorEq, Nat.reduceEqDiff, ↓reduceIte] <;> rfl) | rfl)⟩⟩
    · obtain rfl : i = k := by omega
      have st := gw.str
      simp only [e0, e5, e8, e9, d, st, SX, reduceCtorEq, Nat.reduceEqDiff, ↓reduceIte, Int.reduceEq, Int.reduceLT, Int.reduceLE, Nat.reduceAdd]
      first | exact ⟨rfl, a2, r2⟩ | exact ⟨a2, r2⟩
set_option maxHeartbeats 1000000 in
theorem words_spec {m : Nat} (hm : 0 < m) (hm2 : m ≤ 256) (h : Rdr rb H s) (hf : Fr H) : FnTo Q 28 [.ptr rb 0, .int .i64 (m : Int)] H (fun r H' => r = .str (rdW (1 + hd s % m) s.tail) ∧ Ax rb H H' ∧ Rdr rb H' (s.tail.drop (1 + hd s % m))) := by
  refine fn_wp (sq.ho 28 rfl _) sq.q28 (by simp [A28]) ?_
  simp only [A28, SX, reduceCtorEq, Nat.reduceEqDiff, ↓reduceIte, Int.reduceEq, Int.reduceLT, Int.reduceLE, Nat.reduceAdd]
  refine (below_spec sq hm h hf).mono ?_
  rintro _ H1 ⟨rfl, a1, r1⟩
  have hk : hd s % m < 256 := Nat.lt_of_lt_of_le (Nat.mod_lt _ hm) hm2
  have w0 : IntKind.wrap .i64 (1 + ((hd s % m : Nat) : Int)) = ((1 + hd s % m : Nat) : Int) := by rw [wrapI64 (by omega) (by omega)]; omega
  simp only [w0, SX, reduceCtorEq, Nat.reduceEqDiff, ↓reduceIte, Int.reduceEq, Int.reduceLT, Int.reduceLE, Nat.reduceAdd]
  obtain ⟨k, hkk⟩ : ∃ k, 1 + hd s % m = k := ⟨_, rfl⟩
  rw [hkk]
  have hk : k < 300 := by omega
  generalize s.tail = t at r1 ⊢
  have g1 : Hp H.next H1 [] := (Hp.nil H hf).ax h.lt a1
  obtain ⟨I, hI⟩ : ∃ I : Nat → Env → AHeap → Prop, ∀ m e H', I m e H' ↔ (∃ i v, m = k - i ∧ i ≤ k ∧ Grow 1 H.next H' v (ofBytes (rdW i t)) i [] ∧ Ax rb H H' ∧ Rdr rb H' (t.drop i) ∧ Env.get e 0 = .ptr rb 0 ∧ Env.get e 5 = v ∧ Env.get e 9 = .int .i64 (k : Int) ∧ Env.get e 10 = .int .i64 (i : Int)) := ⟨_, fun _ _ _ => Iff.rfl⟩
  refine loop_by I k ?_ ?_
  · exact (hI _ _ _).2 ⟨0, .nils, rfl, by omega, Grow.nil 1 g1, a1, r1, (by first | (simp only [SG, reduceCtorEq, Nat.reduceEqDiff, ↓reduceIte] <;> rfl) | rfl), (by first | (simp only [SG, reduceCtorEq, Nat.reduceEqDiff, ↓reduceIte] <;> rfl) | rfl), (by first | (simp only [SG, reduceCtorEq, Nat.reduceEqDiff, ↓reduceIte] <;> rfl) | rfl), (by first | (simp only [SG, reduceCtorEq, Nat.reduceEqDiff, ↓reduceIte] <;> rfl) | rfl)⟩
  · intro m' e H2 hinv
    obtain ⟨i, v, rfl, hi, gw, a2, r2, e0, e5, e8, e9⟩ := (hI _ _ _).1 hinv
    by_cases d : (i : Int) < k
    · simp only [e0, e5, e8, e9, d, SX, reduceCtorEq, Nat.reduceEqDiff, ↓reduceIte, Int.reduceEq, Int.reduceLT, Int.reduceLE, Nat.reduceAdd]
      refine (below_spec sq (m := 26) (by omega) r2 a2.fr).mono ?_
      rintro _ H3 ⟨rfl, a3, r3⟩
      have hb := hd_drop t i
      have w7 : IntKind.wrap .i64 (97 + ((hd (t.drop i) % 26 : Nat) : Int)) = ((97 + (at0' t i).toNat % 26 : Nat) : Int) := by rw [hb, wrapI64 (by omega) (by omega)]; omega
      have w8 : IntKind.wrap .u8 ((97 + (at0' t i).toNat % 26 : Nat) : Int) = ((97 + (at0' t i).toNat % 26 : Nat) : Int) := by
        rw [wrapU8N, UInt8.toNat_ofNat']; omega
      have gw3 := gw.ax h.lt a3
      obtain ⟨H4, H5, v5, s4, s5, gw5, k5, _, n5⟩ := gw3.push (r := [.int .u8 (97 + (at0' t i).toNat % 26 : Nat)]) rfl rfl (by omega) (bytes := 1) (by omega) (by omega)
      have w1 : IntKind.wrap .i64 ((i : Int) + 1) = ((i + 1 : Nat) : Int) := wrapNat (n := i + 1) (by omega)
      have hab := a2.trans a3
      have f5 := gw5.hp.fr
      have hn : H.next ≤ H5.next := Nat.le_trans hab.next n5
      rw [List.tail_drop] at r3
      simp only [e0, e5, e8, e9, w7, w8, s4, wp_append, s5, w1, SX, reduceCtorEq, Nat.reduceEqDiff, ↓reduceIte, Int.reduceEq, Int.reduceLT, Int.reduceLE, Nat.reduceAdd]
      refine ⟨k - (i + 1), by omega, (hI _ _ _).2 ⟨i + 1, v5, rfl, by omega, by rw [rdW_succ]; exact gw5, hab.keepT k5 hn f5, r3.keep h.lt k5 n5, (by simp only [SG, reduceCtorEq, Nat.reduceEqDiff, ↓reduceIte, e0] <;> rfl), (by first | (simp only [SG, reduceCtorEq, Nat.reduceEqDiff, ↓reduceIte] <;> rfl) | rfl), (by simp only [SG, reduceCtorEq, Nat.reduceEqDiff, ↓reduceIte, e8] <;> rfl), (by first | (simp only [SG, reduceCtorEq, Nat.reduceEqDiff, ↓reduceIte] <;> rfl) | rfl)⟩⟩
    · obtain rfl : i = k := by omega
      have st := gw.str
      simp only [e0, e5, e8, e9, d, st, SX, reduceCtorEq, Nat.reduceEqDiff, ↓reduceIte, Int.reduceEq, Int.reduceLT, Int.reduceLE, Nat.reduceAdd]
      first | exact ⟨rfl, a2, r2⟩ | exact ⟨a2, r2⟩
/-- a label is read -/
theorem lab_spec {m lim : Nat} {lv : AV} (hl : Lab rb m lim H lv) (hm : 0 < m) (h : Rdr rb H s) (hf : Fr H) {K : AV → AHeap → Prop} (hk : ∀ H', Ax rb H H' → Rdr rb H' s.tail → K (.int .i64 ((hd s % m : Nat) : Int)) H') : callvW Q lv [] H K := by
  obtain ⟨h0, h1, ⟨b3, b4, rfl, h2, h3, h4, h5, l3, l4⟩ | ⟨rfl, b3, rfl, h2, h3, l3⟩⟩ := hl
  · rw [callvW_fn]
    refine fn_wp (sq.ho 17 rfl _) sq.q17 (by simp [A17]) ?_
    simp only [A17, List.nil_append, l3, l4, SX, reduceCtorEq, Nat.reduceEqDiff, ↓reduceIte, Int.reduceEq, Int.reduceLT, Int.reduceLE, Nat.reduceAdd]
    refine (below_spec sq hm h hf).mono ?_
    rintro _ H1 ⟨rfl, a1, r1⟩
    simp only [SX, reduceCtorEq, Nat.reduceEqDiff, ↓reduceIte, Int.reduceEq, Int.reduceLT, Int.reduceLE, Nat.reduceAdd]
    exact hk H1 a1 r1
  · rw [callvW_fn]
    refine fn_wp (sq.ho 18 rfl _) sq.q18 (by simp [A18]) ?_
    simp only [A18, List.nil_append, l3, SX, reduceCtorEq, Nat.reduceEqDiff, ↓reduceIte, Int.reduceEq, Int.reduceLT, Int.reduceLE, Nat.reduceAdd]
    refine (below_spec sq (m := 256) hm h hf).mono ?_
    rintro _ H1 ⟨rfl, a1, r1⟩
    simp only [SX, reduceCtorEq, Nat.reduceEqDiff, ↓reduceIte, Int.reduceEq, Int.reduceLT, Int.reduceLE, Nat.reduceAdd]
    exact hk H1 a1 r1
end
def rowsP : List (List UInt8 × List UInt8) := [([110, 101, 119, 45, 115, 101, 115, 115, 105, 111, 110], [108]), ([97, 116, 116, 97, 99, 104], [108, 110]), ([100, 101, 116, 97, 99, 104], []), ([107, 105, 108, 108, 45, 115, 101, 115, 115, 105, 111, 110], []), ([110, 101, 119, 45, 119, 105, 110, 100, 111, 119], [108]), ([111, 112, 101, 110], []), ([107, 105, 108, 108, 45, 119, 105, 110, 100, 111, 119], [110]), ([115, 101, 108, 101, 99, 116, 45, 119, 105, 110, 100, 111, 119], [110]), ([110, 101, 120, 116, 45, 119, 105, 110, 100, 111, 119], []), ([112, 114, 101, 118, 105, 111, 117, 115, 45, 119, 105, 110, 100, 111, 119], []), ([114, 101, 110, 97, 109, 101, 45, 119, 105, 110, 100, 111, 119], [110, 116]), ([115, 112, 108, 105, 116, 45, 104], [108, 110]), ([115, 112, 108, 105, 116, 45, 118], [108, 110]), ([98, 101, 115, 105, 100, 101], []), ([97, 98, 111, 118, 101], []), ([107, 105, 108, 108, 45, 112, 97, 110, 101], []), ([115, 101, 108, 101, 99, 116, 45, 112, 97, 110, 101], [112]), ([110, 101, 120, 116, 45, 112, 97, 110, 101], []), ([112, 114, 101, 118, 105, 111, 117, 115, 45, 112, 97, 110, 101], []), ([115, 119, 97, 112, 45, 110, 101, 120, 116], []), ([115, 119, 97, 112, 45, 112, 114, 101, 118, 105, 111, 117, 115], []), ([114, 101, 115, 105, 122, 101, 45, 104], [110]), ([114, 101, 115, 105, 122, 101, 45, 118], [110]), ([122, 111, 111, 109], []), ([99, 111, 112, 121], []), ([99, 111, 112, 121, 45, 101, 120, 105, 116], []), ([99, 111, 112, 121, 45, 109, 111, 118, 101], [110, 110]), ([99, 111, 112, 121, 45, 116, 111], [110, 110]), ([99, 111, 112, 121, 45, 109, 97, 114, 107], []), ([99, 111, 112, 121, 45, 99, 108, 101, 97, 114], []), ([99, 111, 112, 121, 45, 102, 105, 110, 100], [116]), ([99, 111, 112, 121, 45, 98, 97, 99, 107], [116]), ([99, 111, 112, 121, 45, 116, 97, 107, 101], []), ([115, 101, 116, 45, 98, 117, 102, 102, 101, 114], [116]), ([100, 114, 111, 112, 45, 98, 117, 102, 102, 101, 114], [108, 110]), ([115, 104, 111, 119, 45, 98, 117, 102, 102, 101, 114], [108, 110]), ([108, 105, 115, 116, 45, 98, 117, 102, 102, 101, 114, 115], []), ([112, 97, 115, 116, 101], [108, 110]), ([112, 97, 115, 116, 101, 45, 110, 101, 119, 101, 115, 116], [108]), ([112, 97, 115, 116, 101, 45, 108, 97, 115, 116], []), ([100, 111, 119, 110, 103, 114, 97, 100, 101], [108, 110, 108]), ([112, 105, 112, 101], [110]), ([112, 105, 112, 101, 45, 111, 102, 102], []), ([108, 105, 115, 116, 45, 115, 101, 115, 115, 105, 111, 110, 115], []), ([108, 105, 115, 116, 45, 119, 105, 110, 100, 111, 119, 115], []), ([108, 105, 115, 116, 45, 112, 97, 110, 101, 115], []), ([97, 117, 100, 105, 116], []), ([105, 110, 102, 111], [112]), ([115, 101, 116, 45, 98, 97, 110, 110, 101, 114], [116]), ([98, 105, 110, 100], [110, 116]), ([117, 110, 98, 105, 110, 100], [110]), ([115, 101, 110, 100], [116]), ([114, 101, 102, 114, 101, 115, 104], [])]
def nm (i : Nat) : List UInt8 := (rowsP[i]?.getD ([], [])).1
def fm (i : Nat) : List UInt8 := (rowsP[i]?.getD ([], [])).2
def rowsL : List (List AV) := rowsP.map fun p => [.str p.1, .str p.2]
def namesL : List (List AV) := rowsP.map fun p => [.str p.1]
def entsL : List (AV × AV) := rowsP.map fun p => (.str p.1, .str p.2)
/-! ### A function without calls and loops, run -/
theorem fn_run {Q : Prog} {f : FuncId} {F : AFunc} {args : List AV} {H H' : AHeap} {e : Env} {v : AV} {K : AV → AHeap → Prop} (ho : Q.orc f args = none) (hf : Q.fns f = some F) (hl : args.length ≤ F.ntmps)
    (h : F.body.run (fun _ _ _ => none) 0 (Env.init 0 args .nil) H = some (.ret, e, H')) (hv : resVal e H' F.res = some v) (hk : K v H') : FnTo Q f args H K := by
  refine ⟨1, v, H', fun n hn => ?_, hk⟩
  obtain ⟨n, rfl⟩ : ∃ j, n = j + 1 := ⟨n - 1, by omega⟩
  have h2 := ACode.run_le (cl := fun _ _ _ => none) (cl' := callF Q n) (fun _ _ _ _ h => by cases h) (Nat.zero_le n) h
  simp only [callF, ho, hf, if_neg (by omega : ¬ args.length > F.ntmps), h2, hv]
def rowsE : Env := match A33.body.run (fun _ _ _ => none) 0 (Env.init 0 [] .nil) ⟨0, .nil⟩ with | some (_, e, _) => e | none => .nil
def runs23 (H : AHeap) : Option (Option AV × AHeap) := match A33.body.run (fun _ _ _ => none) 0 (Env.init 0 [] .nil) H with | some (.ret, e, H') => some (resVal e H' A33.res, H') | _ => none
set_option maxRecDepth 100000 in
theorem runs23_eq (H : AHeap) : runs23 H = some (some (.slc H.next 0 53 53), H.alloc (.row ⟨rowsL.flatten, 0, false, true, 0⟩)) := by rfl
/-! ### Own blocks beside rows that grow -/
section
variable {k base n : Nat} {H : AHeap} {v : AV} {cs : List AV} {rest : List Cel}
theorem Grow.make (h : Grow k base H v cs n rest) (x : List AV) (kk : Nat) : ∃ H1, H.alloc (.row ⟨x, 0, false, true, 0⟩) = H1 ∧ Grow k base H1 v cs n (⟨H.next, kk, x⟩ :: rest) ∧ Keep base H H1 ∧ NR H H1 ∧ H1.next = H.next + 1 := by
  refine ⟨_, rfl, h.map fun l hl => ?_, h.hp.keep_alloc _, nr_alloc h.hp.fr _, rfl⟩
  obtain ⟨H1, s1, g1, _⟩ := hl.make x kk
  rw [s1]
  exact g1.perm (List.perm_middle.symm)
theorem Grow.storeO {b kk o m : Nat} {a x c new : List AV} (h : Grow k base H v cs n (⟨b, kk, a ++ (x ++ c)⟩ :: rest)) (ho : a.length = o) (hn : x.length = m) (hl : new.length = m) (h1 : new.all AV.one = true) :
    ∃ H', storeE H m (.ptr b o) (.agg new) = some (.undef, H') ∧ Grow k base H' v cs n (⟨b, kk, a ++ (new ++ c)⟩ :: rest) ∧ Keep base H H' ∧ NR H H' ∧ H'.next = H.next := by
  obtain ⟨H4, s4, _, k4, n4⟩ := h.hp.storeO rfl ho hn hl h1
  refine ⟨H4, s4, h.map fun l hl' => ?_, k4, storeE_nr s4, n4⟩
  obtain ⟨H4', s4', g4', _⟩ := (hl'.perm List.perm_middle).storeO rfl ho hn hl h1
  rw [s4] at s4'
  obtain rfl : H4 = H4' := (Prod.mk.inj (Option.some.inj s4')).2
  exact g4'.perm (List.perm_middle.symm)
theorem Grow.storeN {b kk m : Nat} {x new : List AV} (h : Grow k base H v cs n (⟨b, kk, x⟩ :: rest)) (hn : x.length = m) (hl : new.length = m) (h1 : new.all AV.one = true) :
    ∃ H', storeE H m (.ptr b 0) (.agg new) = some (.undef, H') ∧ Grow k base H' v cs n (⟨b, kk, new⟩ :: rest) ∧ Keep base H H' ∧ NR H H' ∧ H'.next = H.next := by
  have := Grow.storeO (a := []) (x := x) (c := []) (new := new) (o := 0) (m := m) (by simpa using h) rfl hn hl h1
  simpa using this
theorem Grow.store1 {b kk o : Nat} {x : List AV} {w : AV} (h : Grow k base H v cs n (⟨b, kk, x⟩ :: rest)) (hw : w.one = true) (ho : o < x.length) :
    ∃ H', storeE H 1 (.ptr b o) w = some (.undef, H') ∧ Grow k base H' v cs n (⟨b, kk, x.set o w⟩ :: rest) ∧ Keep base H H' ∧ NR H H' ∧ H'.next = H.next := by
  obtain ⟨H4, s4, _, k4, n4⟩ := h.hp.store hw ho
  refine ⟨H4, s4, h.map fun l hl' => ?_, k4, storeE_nr s4, n4⟩
  obtain ⟨H4', s4', g4', _⟩ := (hl'.perm List.perm_middle).store hw ho
  rw [s4] at s4'
  obtain rfl : H4 = H4' := (Prod.mk.inj (Option.some.inj s4')).2
  exact g4'.perm (List.perm_middle.symm)
/-- a block of the rest is let go -/
theorem Grow.drop {x : Cel} (h : Grow k base H v cs n (x :: rest)) : Grow k base H v cs n rest := h.map fun l hl => (hl.perm List.perm_middle).drop
theorem Grow.perm {rest' : List Cel} (h : Grow k base H v cs n rest) (hp : rest.Perm rest') : Grow k base H v cs n rest' := h.map fun l hl => hl.perm (List.Perm.append_left l hp)
end
/-! ### Rows in one block -/
theorem flat_split {k : Nat} {ls : List (List AV)} (hk : ∀ r ∈ ls, r.length = k) {i : Nat} {r : List AV} (h : ls[i]? = some r) : ls.flatten = (ls.take i).flatten ++ (r ++ (ls.drop (i + 1)).flatten) ∧ (ls.take i).flatten.length = i * k := by
  obtain ⟨h1, h2⟩ := List.getElem?_eq_some_iff.1 h
  have e : ls = ls.take i ++ (r :: ls.drop (i + 1)) := by rw [← h2, ← List.drop_eq_getElem_cons h1, List.take_append_drop]
  constructor
  · conv => lhs; rw [e]
    simp
  · have : ∀ l : List (List AV), (∀ r ∈ l, r.length = k) → l.flatten.length = l.length * k := by
      intro l
      induction l with
      | nil => intro _; simp
      | cons a l ih =>
        intro hh
        have := ih (fun r hr => hh r (by simp [hr]))
        have h0 := hh a (by simp)
        simp only [List.flatten_cons, List.length_append, List.length_cons, this, h0, Nat.add_mul]; omega
    rw [this _ (fun r hr => hk r (List.mem_of_mem_take hr)), List.length_take, Nat.min_eq_left (by omega)]
theorem Hp.rowAt {base : Nat} {H : AHeap} {l : List Cel} (h : Hp base H l) {b k kk : Nat} {ls : List (List AV)} (hx : (⟨b, kk, ls.flatten⟩ : Cel) ∈ l) (hk : ∀ r ∈ ls, r.length = k) {i : Nat} {r : List AV} (hr : ls[i]? = some r) :
    loadV H (some k) (.ptr b (i * k)) = some (.agg r) ∧ ∀ j x, r[j]? = some x → loadV H none (.ptr b (i * k + j)) = some x := by
  obtain ⟨h1, h2⟩ := flat_split hk hr
  rw [h1] at hx
  refine ⟨h.loadO hx h2 (hk r (List.mem_of_getElem? hr)), fun j x hj => ?_⟩
  refine h.load hx ?_
  rw [List.getElem?_append_right (by omega), h2, Nat.add_sub_cancel_left, List.getElem?_append_left (List.getElem?_eq_some_iff.1 hj).1, hj]
theorem idxSV_k {b n cap k : Nat} {kd : IntKind} {i : Nat} (h : i < n) : idxSV k (.slc b 0 n cap) (.int kd i) = some (.ptr b (i * k)) := by
  simp only [idxSV, ROp.run, Opd.ev, inIndex, if_pos (show 0 ≤ (i : Int) ∧ (i : Int) < (n : Int) by omega), Int.toNat_natCast, Nat.zero_add]
theorem Grow.rowAt {k base n : Nat} {H : AHeap} {v : AV} {rest : List Cel} {ls : List (List AV)} (h : Grow k base H v ls.flatten n rest) (hk : ∀ r ∈ ls, r.length = k) (hn : ls.length = n) {i : Nat} {r : List AV} (hr : ls[i]? = some r) (kd : IntKind) :
    ∃ b, idxSV k v (.int kd (i : Int)) = some (.ptr b (i * k)) ∧ loadV H (some k) (.ptr b (i * k)) = some (.agg r) ∧ ∀ j x, r[j]? = some x → loadV H none (.ptr b (i * k + j)) = some x := by
  have hi := (List.getElem?_eq_some_iff.1 hr).1
  obtain ⟨h0, ⟨rfl, _⟩ | ⟨h1, b, rfl, h⟩⟩ := h
  · omega
  · obtain ⟨g1, g2⟩ := h.rowAt (List.mem_cons_self ..) hk hr
    exact ⟨b, idxSV_k (by omega), g1, g2⟩
theorem rowsL_len : ∀ r ∈ rowsL, r.length = 2 := by
  intro r hr
  obtain ⟨p, _, rfl⟩ := List.mem_map.1 hr
  rfl
theorem namesL_len : ∀ r ∈ namesL, r.length = 1 := by
  intro r hr
  obtain ⟨p, _, rfl⟩ := List.mem_map.1 hr
  rfl
theorem rowsP_at {i : Nat} (h : i < 53) : rowsP[i]? = some (nm i, fm i) := by
  have : i < rowsP.length := h
  unfold nm fm
  rw [List.getElem?_eq_getElem this]; rfl
theorem rowsL_at {i : Nat} (h : i < 53) : rowsL[i]? = some [.str (nm i), .str (fm i)] := by
  unfold rowsL
  rw [List.getElem?_map, rowsP_at h]; rfl
theorem namesL_at {i : Nat} (h : i < 53) : namesL[i]? = some [.str (nm i)] := by
  unfold namesL
  rw [List.getElem?_map, rowsP_at h]; rfl
theorem entsL_at {i : Nat} (h : i < 53) : entsL[i]? = some (.str (nm i), .str (fm i)) := by
  unfold entsL
  rw [List.getElem?_map, rowsP_at h]; rfl
def isNew (i : Nat) : Bool := match findKey (.str (nm i)) (entsL.take i) 0 with | some none => true | _ => false
def isThere (i : Nat) : Bool := match findKey (.str (nm i)) entsL 0 with | some (some (_, .str f)) => decide (f = fm i) | _ => false
set_option maxRecDepth 100000 in
theorem all_new : ((List.range 53).all isNew) = true := by decide +kernel
set_option maxRecDepth 100000 in
theorem all_there : ((List.range 53).all isThere) = true := by decide +kernel
theorem new_at {i : Nat} (h : i < 53) : findKey (.str (nm i)) (entsL.take i) 0 = some none := by
  have := List.all_eq_true.1 all_new i (List.mem_range.2 h)
  unfold isNew at this
  split at this
  · assumption
  · cases this
theorem there_at {i : Nat} (h : i < 53) : ∃ j, findKey (.str (nm i)) entsL 0 = some (some (j, .str (fm i))) := by
  have := List.all_eq_true.1 all_there i (List.mem_range.2 h)
  unfold isThere at this
  split at this
  · rename_i j f hh
    obtain rfl := of_decide_eq_true this
    exact ⟨j, hh⟩
  · cases this
theorem flat_snoc {ls : List (List AV)} {i : Nat} {r : List AV} (h : ls[i]? = some r) : (ls.take (i + 1)).flatten = (ls.take i).flatten ++ r := by
  rw [List.take_add_one, h]; simp
theorem mapUpd_new {H : AHeap} {m : Nat} {es : List (AV × AV)} {k : List UInt8} {v : AV} (hm : H.get m = some (.map es)) (hk : findKey (.str k) es 0 = some none) : mapUpdE H 2 (.map m) (.str k) v = some (.undef, H.set m (.map (es ++ [(.str k, v)]))) := by
  simp only [mapUpdE, EOp.run, Opd.ev, hm, isKind, Bool.not_true, Bool.false_eq_true, if_false, hk]
theorem lookup_there {H : AHeap} {m j : Nat} {es : List (AV × AV)} {k f : List UInt8} (hm : H.get m = some (.map es)) (hk : findKey (.str k) es 0 = some (some (j, .str f))) : lookupV H 2 [.str []] false (.map m) (.str k) true = some (.tup [.str f, .bool true]) := by
  simp only [lookupV, ROp.run, Opd.ev, mapOf, hm, isKind, Bool.not_true, Bool.false_eq_true, if_false, hk, hit, if_true]
theorem Hp.setMr {base : Nat} {H : AHeap} {l : List Cel} (h : Hp base H l) {m : Nat} {es0 es : List (AV × AV)} (hm : H.get m = some (.map es0)) (hb : base ≤ m) : (H.set m (.map es)).next = H.next := rfl
theorem ext20 (a b : AV) : extractV 0 (.tup [a, b]) = some a := rfl
theorem ext21 (a b : AV) : extractV 1 (.tup [a, b]) = some b := rfl
section
variable {Q : Prog} (sq : ScQ Q) {H : AHeap}
include sq
theorem rows_spec (hf : Fr H) : FnTo Q 33 [] H (fun r H' => r = .slc H.next 0 53 53 ∧ H' = H.alloc (.row ⟨rowsL.flatten, 0, false, true, 0⟩)) := by
  have h := runs23_eq H
  unfold runs23 at h
  split at h
  · rename_i e H' hr
    simp only [Option.some.injEq, Prod.mk.injEq] at h
    exact fn_run (sq.ho 33 rfl _) sq.q33 (by simp) hr h.1 ⟨rfl, h.2⟩
  · cases h
set_option maxHeartbeats 1000000 in
theorem names_spec (hf : Fr H) : FnTo Q 25 [] H (fun v H' => Grow 1 H.next H' v namesL.flatten 53 [] ∧ Keep H.next H H') := by
  refine fn_wp (sq.ho 25 rfl _) sq.q25 (by simp [A25]) ?_
  simp only [A25, SX, reduceCtorEq, Nat.reduceEqDiff, ↓reduceIte, Int.reduceEq, Int.reduceLT, Int.reduceLE, Nat.reduceAdd]
  refine (rows_spec sq hf).mono ?_
  rintro _ _ ⟨rfl, rfl⟩
  obtain ⟨H1, s1, g1, k1⟩ := (Hp.nil H hf).make rowsL.flatten 2
  rw [s1]
  have ln : lngV H1 1 (.slc H.next 0 53 53) = some (.int .i64 53) := rfl
  simp only [ln, SX, reduceCtorEq, Nat.reduceEqDiff, ↓reduceIte, Int.reduceEq, Int.reduceLT, Int.reduceLE, Nat.reduceAdd]
  obtain ⟨I, hI⟩ : ∃ I : Nat → Env → AHeap → Prop, ∀ m e H', I m e H' ↔ (∃ i v, m = 53 - i ∧ i ≤ 53 ∧ Grow 1 H.next H' v (namesL.take i).flatten i [⟨H.next, 2, rowsL.flatten⟩] ∧ Keep H.next H H' ∧ Env.get e 1 = v ∧ Env.get e 4 = .slc H.next 0 53 53 ∧ Env.get e 5 = .int .i64 53 ∧ Env.get e 6 = .int .i64 (i : Int)) := ⟨_, fun _ _ _ => Iff.rfl⟩
  refine loop_by I 53 ?_ ?_
  · exact (hI _ _ _).2 ⟨0, .nils, rfl, by omega, Grow.nil 1 g1, k1, (by first | (simp only [SG, reduceCtorEq, Nat.reduceEqDiff, ↓reduceIte] <;> rfl) | rfl), (by first | (simp only [SG, reduceCtorEq, Nat.reduceEqDiff, ↓reduceIte] <;> rfl) | rfl), (by first | (simp only [SG, reduceCtorEq, Nat.reduceEqDiff, ↓reduceIte] <;> rfl) | rfl), (by first | (simp only [SG, reduceCtorEq, Nat.reduceEqDiff, ↓reduceIte] <;> rfl) | rfl)⟩
  · intro m' e H2 hinv
    obtain ⟨i, v, rfl, hi, gw, k2, e1, e4, e5, e6⟩ := (hI _ _ _).1 hinv
    by_cases d : (i : Int) < 53
    · have hi' : i < 53 := by omega
      obtain ⟨lr, _⟩ := gw.hp.rowAt (List.mem_cons_self ..) rowsL_len (rowsL_at hi')
      have ix := idxSV_k (b := H.next) (n := 53) (cap := 53) (k := 2) (kd := .i64) hi'
      obtain ⟨H3, s3, g3, k3, _, _⟩ := gw.make [.str [], .str []] 2
      obtain ⟨H4, s4, g4, k4, _, _⟩ := g3.storeN (m := 2) (new := [.str (nm i), .str (fm i)]) rfl rfl rfl
      have l4 := g4.hp.load (List.mem_cons_self ..) (o := 0) (v := .str (nm i)) rfl
      obtain ⟨H5, H6, v6, s5, s6, g6, k6, _, _⟩ := g4.push (r := [.str (nm i)]) rfl rfl (by omega) (bytes := 16) (by omega) (by omega)
      have w1 : IntKind.wrap .i64 ((i : Int) + 1) = ((i + 1 : Nat) : Int) := wrapNat (n := i + 1) (by omega)
      have bsv : bs1V (.str (nm i)) = some (.row ⟨[.str (nm i)], 0, false, true, 0⟩, .slc 1 1) := rfl
      have g7 := g6.drop
      simp only [e1, e4, e5, e6, d, ix, lr, run_allocL, val_ptr, s3, wp_store, s4, l4, bsv, s5, wp_append, s6, w1, SX, reduceCtorEq, Nat.reduceEqDiff, ↓reduceIte, Int.reduceEq, Int.reduceLT, Int.reduceLE, Nat.reduceAdd]
      exact ⟨53 - (i + 1), by omega, (hI _ _ _).2 ⟨i + 1, v6, rfl, by omega, by rw [flat_snoc (namesL_at hi')]; exact g7, ((k2.trans k3).trans k4).trans k6, (by first | (simp only [SG, reduceCtorEq, Nat.reduceEqDiff, ↓reduceIte] <;> rfl) | rfl), (by simp only [SG, reduceCtorEq, Nat.reduceEqDiff, ↓reduceIte, e4] <;> rfl), (by simp only [SG, reduceCtorEq, Nat.reduceEqDiff, ↓reduceIte, e5] <;> rfl), (by first | (simp only [SG, reduceCtorEq, Nat.reduceEqDiff, ↓reduceIte] <;> rfl) | rfl)⟩⟩
    · obtain rfl : i = 53 := by omega
      have g7 := gw.drop
      simp only [e1, e4, e5, e6, d, SX, reduceCtorEq, Nat.reduceEqDiff, ↓reduceIte, Int.reduceEq, Int.reduceLT, Int.reduceLE, Nat.reduceAdd]
      exact ⟨g7, k2⟩
end
def bindS : List UInt8 := [98, 105, 110, 100]
def unbindS : List UInt8 := [117, 110, 98, 105, 110, 100]
def moveS : List UInt8 := [99, 111, 112, 121, 45, 109, 111, 118, 101]
def numP (name : List UInt8) (b : Nat) : Int := bif decide (name = bindS) || decide (name = unbindS) then ((b % 128 : Nat) : Int) else bif decide (name = moveS) then ((b % 9 : Nat) : Int) - 4 else ((b % 8 : Nat) : Int)
theorem bin_eqs (a b : List UInt8) : binV .eql (.str a) (.str b) = some (.bool (decide (a = b))) := by
  simp only [binV, strBin]
  congr 2
  by_cases h : a = b
  · subst h; simp
  · rw [beq_eq_false_iff_ne.2 h, decide_eq_false h]
def bsV (n : Nat) (z : List AV) (ps : List (Nat × Nat × AV)) : Option (AObj × AKind) := if n * 1 > 16777216 ∨ ¬ (n * 1 = 0 ∨ 0 < z.length) then none else match buildIn (zeros z (n * 1)) ps with | some cs => if cs.all AV.one then some (.row ⟨cs, 0, false, true, 0⟩, .slc n n) else none | none => none
theorem run_bsV (e : Env) (n : Nat) (z : List AV) (ps : List (Nat × Opd)) : LOp.run e (.bslice 1 n z ps) = bsV n z (ps.map fun p => (p.1 * 1, 1, p.2.ev e)) := rfl
theorem bs3 (a b c : Int) : bsV 3 [.int .u8 0] [(0 * 1, 1, .int .u8 a), (1 * 1, 1, .int .u8 b), (2 * 1, 1, .int .u8 c)] = some (.row ⟨[.int .u8 a, .int .u8 b, .int .u8 c], 0, false, true, 0⟩, .slc 3 3) := rfl
theorem wrapU8m (n : Nat) : IntKind.wrap .u8 (n : Int) = ((n % 256 : Nat) : Int) := by
  simp [IntKind.wrap, IntKind.signed, IntKind.bits]
theorem sob3 {base : Nat} {H : AHeap} {l : List Cel} {b k : Nat} {x y z : Int} (h : Hp base H (⟨b, k, [.int .u8 x, .int .u8 y, .int .u8 z]⟩ :: l)) : strOfBytesV H (.slc b 0 3 3) = some (.str [UInt8.ofNat x.toNat, UInt8.ofNat y.toNat, UInt8.ofNat z.toNat]) := by
  obtain ⟨B, r, hc⟩ := h.rowOf (List.mem_cons_self ..)
  simp only [strOfBytesV, ROp.run, Opd.ev, r, hc]
  rfl
def frameB (k : Nat) (s : List UInt8) : List UInt8 := [UInt8.ofNat k, UInt8.ofNat (s.length / 256 % 256), UInt8.ofNat (s.length % 256)] ++ s
section
variable {Q : Prog} (sq : ScQ Q) {H : AHeap}
include sq
set_option maxHeartbeats 1000000 in
theorem forms_spec (hf : Fr H) : FnTo Q 34 [] H (fun v H' => v = .map H.next ∧ H'.get H.next = some (.map entsL) ∧ Gr H H') := by
  refine fn_wp (sq.ho 34 rfl _) sq.q34 (by simp [A34]) ?_
  obtain ⟨H1, s1, g1, k1, m1, n1⟩ := (Hp.nil H hf).allocM []
  simp only [A34, run_mkMap, s1, val_map, SX, reduceCtorEq, Nat.reduceEqDiff, ↓reduceIte, Int.reduceEq, Int.reduceLT, Int.reduceLE, Nat.reduceAdd]
  refine (rows_spec sq g1.fr).mono ?_
  rintro _ _ ⟨rfl, rfl⟩
  obtain ⟨H2, s2, g2, k2⟩ := g1.make rowsL.flatten 2
  rw [s2]
  have m2 : H2.get H.next = some (.map []) := by rw [← s2]; exact nr_alloc g1.fr _ _ _ m1 rfl
  obtain ⟨b2, hb2⟩ : ∃ b2, H1.next = b2 := ⟨_, rfl⟩
  rw [hb2] at g2 ⊢
  have ln : lngV H2 1 (.slc b2 0 53 53) = some (.int .i64 53) := rfl
  simp only [ln, SX, reduceCtorEq, Nat.reduceEqDiff, ↓reduceIte, Int.reduceEq, Int.reduceLT, Int.reduceLE, Nat.reduceAdd]
  obtain ⟨I, hI⟩ : ∃ I : Nat → Env → AHeap → Prop, ∀ m e H', I m e H' ↔ (∃ i, m = 53 - i ∧ i ≤ 53 ∧ Hp H.next H' [⟨b2, 2, rowsL.flatten⟩] ∧ Keep H.next H H' ∧ H'.get H.next = some (.map (entsL.take i)) ∧ Env.get e 1 = .map H.next ∧ Env.get e 5 = .slc b2 0 53 53 ∧ Env.get e 6 = .int .i64 53 ∧ Env.get e 7 = .int .i64 (i : Int)) := ⟨_, fun _ _ _ => Iff.rfl⟩
  refine loop_by I 53 ?_ ?_
  · exact (hI _ _ _).2 ⟨0, rfl, by omega, g2, k1.trans k2, m2, (by first | (simp only [SG, reduceCtorEq, Nat.reduceEqDiff, ↓reduceIte] <;> rfl) | rfl), (by first | (simp only [SG, reduceCtorEq, Nat.reduceEqDiff, ↓reduceIte] <;> rfl) | rfl), (by first | (simp only [SG, reduceCtorEq, Nat.reduceEqDiff, ↓reduceIte] <;> rfl) | rfl), (by first | (simp only [SG, reduceCtorEq, Nat.reduceEqDiff, ↓reduceIte] <;> rfl) | rfl)⟩
  · intro m' e H3 hinv
    obtain ⟨i, rfl, hi, g3, k3, m3, e1, e5, e6, e7⟩ := (hI _ _ _).1 hinv
    by_cases d : (i : Int) < 53
    · have hi' : i < 53 := by omega
      obtain ⟨lr, _⟩ := g3.rowAt (List.mem_cons_self ..) rowsL_len (rowsL_at hi')
      have ix := idxSV_k (b := b2) (n := 53) (cap := 53) (k := 2) (kd := .i64) hi'
      obtain ⟨H4, s4, g4, k4⟩ := g3.make [.str [], .str []] 2
      have m4 : H4.get H.next = some (.map (entsL.take i)) := by rw [← s4]; exact nr_alloc g3.fr _ _ _ m3 rfl
      obtain ⟨H5, s5, g5, k5, n5⟩ := g4.storeN (n := 2) (new := [.str (nm i), .str (fm i)]) rfl rfl rfl
      have m5 := storeE_nr s5 _ _ m4 rfl
      have l5 := g5.load (List.mem_cons_self ..) (o := 0) (v := .str (nm i)) rfl
      have l6 := g5.load (List.mem_cons_self ..) (o := 1) (v := .str (fm i)) rfl
      have up := mapUpd_new (v := .str (fm i)) m5 (new_at hi')
      obtain ⟨g6, k6, m6⟩ := g5.setM (es := entsL.take i ++ [(.str (nm i), .str (fm i))]) m5 (Nat.le_refl _)
      have tk : entsL.take i ++ [(.str (nm i), .str (fm i))] = entsL.take (i + 1) := by rw [List.take_add_one, entsL_at hi']; rfl
      rw [tk] at up g6 k6 m6
      have w1 : IntKind.wrap .i64 ((i : Int) + 1) = ((i + 1 : Nat) : Int) := wrapNat (n := i + 1) (by omega)
      simp only [e1, e5, e6, e7, d, ix, lr, run_allocL, val_ptr, s4, wp_store, s5, l5, l6, wp_mapUpd, up, w1, SX, reduceCtorEq, Nat.reduceEqDiff, ↓reduceIte, Int.reduceEq, Int.reduceLT, Int.reduceLE, Nat.reduceAdd]
      exact ⟨53 - (i + 1), by omega, (hI _ _ _).2 ⟨i + 1, rfl, by omega, g6.drop, ((k3.trans k4).trans k5).trans k6, m6, (by simp only [SG, reduceCtorEq, Nat.reduceEqDiff, ↓reduceIte, e1] <;> rfl), (by simp only [SG, reduceCtorEq, Nat.reduceEqDiff, ↓reduceIte, e5] <;> rfl), (by simp only [SG, reduceCtorEq, Nat.reduceEqDiff, ↓reduceIte, e6] <;> rfl), (by first | (simp only [SG, reduceCtorEq, Nat.reduceEqDiff, ↓reduceIte] <;> rfl) | rfl)⟩⟩
    · obtain rfl : i = 53 := by omega
      simp only [e1, e5, e6, e7, d, SX, reduceCtorEq, Nat.reduceEqDiff, ↓reduceIte, Int.reduceEq, Int.reduceLT, Int.reduceLE, Nat.reduceAdd]
      exact ⟨m3, g3.gr k3⟩
theorem form_spec {i : Nat} (hi : i < 53) (hf : Fr H) : FnTo Q 27 [.str (nm i)] H (fun v H' => v = .tup [.str (fm i), .bool true] ∧ Gr H H') := by
  refine fn_wp (sq.ho 27 rfl _) sq.q27 (by simp [A27]) ?_
  simp only [A27, SX, reduceCtorEq, Nat.reduceEqDiff, ↓reduceIte, Int.reduceEq, Int.reduceLT, Int.reduceLE, Nat.reduceAdd]
  refine (forms_spec sq hf).mono ?_
  rintro _ H1 ⟨rfl, m1, g1⟩
  obtain ⟨j, hj⟩ := there_at hi
  have lk := lookup_there m1 hj
  simp only [run_lookup, lk, ext20, ext21, SX, reduceCtorEq, Nat.reduceEqDiff, ↓reduceIte, Int.reduceEq, Int.reduceLT, Int.reduceLE, Nat.reduceAdd]
  exact g1
theorem num_spec {rb b6 b2 : Nat} {s name : List UInt8} (h : Rdr rb H s) (hf : Fr H) (l6 : loadV H none (.ptr b6 0) = some (.str name)) (l2 : loadV H none (.ptr b2 0) = some (.ptr rb 0)) :
    FnTo Q 26 [.ptr b6 0, .ptr b2 0] H (fun r H' => r = .int .i64 (numP name (hd s)) ∧ Ax rb H H' ∧ Rdr rb H' s.tail) := by
  refine fn_wp (sq.ho 26 rfl _) sq.q26 (by simp [A26]) ?_
  have e1 := bin_eqs name bindS
  have e2 := bin_eqs name unbindS
  have e3 := bin_eqs name moveS
  unfold numP
  unfold bindS at e1
  unfold unbindS at e2
  unfold moveS at e3
  unfold bindS unbindS moveS
  generalize decide (name = [98, 105, 110, 100]) = p1 at e1 ⊢
  generalize decide (name = [117, 110, 98, 105, 110, 100]) = p2 at e2 ⊢
  generalize decide (name = [99, 111, 112, 121, 45, 109, 111, 118, 101]) = p3 at e3 ⊢
  cases p1
  · cases p2
    · cases p3
      · simp only [A26, l6, l2, e1, e2, e3, SX, reduceCtorEq, Nat.reduceEqDiff, ↓reduceIte, Int.reduceEq, Int.reduceLT, Int.reduceLE, Nat.reduceAdd]
        refine (below_spec sq (m := 8) (by omega) h hf).mono ?_
        rintro _ H1 ⟨rfl, a1, r1⟩
        simp only [SX, reduceCtorEq, Nat.reduceEqDiff, ↓reduceIte, Int.reduceEq, Int.reduceLT, Int.reduceLE, Nat.reduceAdd]
        first | exact ⟨rfl, a1, r1⟩ | exact ⟨a1, r1⟩
      · simp only [A26, l6, l2, e1, e2, e3, SX, reduceCtorEq, Nat.reduceEqDiff, ↓reduceIte, Int.reduceEq, Int.reduceLT, Int.reduceLE, Nat.reduceAdd]
        refine (below_spec sq (m := 9) (by omega) h hf).mono ?_
        rintro _ H1 ⟨rfl, a1, r1⟩
        have w : IntKind.wrap .i64 (((hd s % 9 : Nat) : Int) - 4) = ((hd s % 9 : Nat) : Int) - 4 := wrapI64 (by omega) (by omega)
        simp only [w, SX, reduceCtorEq, Nat.reduceEqDiff, ↓reduceIte, Int.reduceEq, Int.reduceLT, Int.reduceLE, Nat.reduceAdd]
        first | exact ⟨rfl, a1, r1⟩ | exact ⟨a1, r1⟩
    · simp only [A26, l6, l2, e1, e2, SX, reduceCtorEq, Nat.reduceEqDiff, ↓reduceIte, Int.reduceEq, Int.reduceLT, Int.reduceLE, Nat.reduceAdd]
      refine (below_spec sq (m := 128) (by omega) h hf).mono ?_
      rintro _ H1 ⟨rfl, a1, r1⟩
      simp only [SX, reduceCtorEq, Nat.reduceEqDiff, ↓reduceIte, Int.reduceEq, Int.reduceLT, Int.reduceLE, Nat.reduceAdd]
      first | exact ⟨rfl, a1, r1⟩ | exact ⟨a1, r1⟩
  · simp only [A26, l6, l2, e1, SX, reduceCtorEq, Nat.reduceEqDiff, ↓reduceIte, Int.reduceEq, Int.reduceLT, Int.reduceLE, Nat.reduceAdd]
    refine (below_spec sq (m := 128) (by omega) h hf).mono ?_
    rintro _ H1 ⟨rfl, a1, r1⟩
    simp only [SX, reduceCtorEq, Nat.reduceEqDiff, ↓reduceIte, Int.reduceEq, Int.reduceLT, Int.reduceLE, Nat.reduceAdd]
    first | exact ⟨rfl, a1, r1⟩ | exact ⟨a1, r1⟩
set_option maxHeartbeats 1000000 in
theorem pane_spec {rb m lim : Nat} {s : List UInt8} {lv : AV} (hl : Lab rb m lim H lv) (hm : 0 < m) (h : Rdr rb H s) (hf : Fr H) :
    FnTo Q 21 [.ptr rb 0, lv] H (fun r H' => r = .agg [.int .i64 ((hd s % m : Nat) : Int), .int .i64 ((hd s.tail % m : Nat) : Int), .int .i64 ((hd s.tail.tail % 4 : Nat) : Int)] ∧ Ax rb H H' ∧ Rdr rb H' s.tail.tail.tail) := by
  refine fn_wp (sq.ho 21 rfl _) sq.q21 (by simp [A21]) ?_
  obtain ⟨H1, s1, g1, k1⟩ := (Hp.nil H hf).make [.int .i64 0, .int .i64 0, .int .i64 0] 3
  have n1 : H1.next = H.next + 1 := by rw [← s1]; rfl
  have hlim := hl.2.1
  simp only [A21, run_allocL, val_ptr, s1, wp_callv, SX, reduceCtorEq, Nat.reduceEqDiff, ↓reduceIte, Int.reduceEq, Int.reduceLT, Int.reduceLE, Nat.reduceAdd]
  refine lab_spec sq (hl.keep hlim k1 (by omega)) hm (h.keep h.lt k1 (by omega)) g1.fr fun H2 a2 r2 => ?_
  have g2 := g1.ax h.lt a2
  obtain ⟨H3, s3, g3, k3⟩ := g2.make [.int .i64 0, .int .i64 0, .int .i64 0] 3
  have n3 : H3.next = H2.next + 1 := by rw [← s3]; rfl
  obtain ⟨b3, hb3⟩ : ∃ b3, H2.next = b3 := ⟨_, rfl⟩
  rw [hb3] at g3
  obtain ⟨H4, s4, g4, k4, n4⟩ := g3.storeN (n := 3) (new := [.int .i64 ((hd s % m : Nat) : Int), .int .i64 0, .int .i64 0]) rfl rfl rfl
  have bv : buildV [.int .i64 0, .int .i64 0, .int .i64 0] [(0, 1, .int .i64 ((hd s % m : Nat) : Int))] = some (.agg [.int .i64 ((hd s % m : Nat) : Int), .int .i64 0, .int .i64 0]) := rfl
  have a2n := a2.next
  simp only [run_build, bv, run_allocL, val_ptr, s3, hb3, wp_store, s4, wp_callv, SX, reduceCtorEq, Nat.reduceEqDiff, ↓reduceIte, Int.reduceEq, Int.reduceLT, Int.reduceLE, Nat.reduceAdd]
  refine lab_spec sq (((hl.keep hlim k1 (by omega)).ax a2).keep hlim (k3.trans k4) (by omega)) hm (r2.keep h.lt (k3.trans k4) (by omega)) g4.fr fun H5 a5 r5 => ?_
  have g5 := g4.ax h.lt a5
  obtain ⟨H6, s6, g6, k6, n6⟩ := g5.store (o := 1) (v := .int .i64 ((hd s.tail % m : Nat) : Int)) rfl (by simp)
  have a5n := a5.next
  simp only [wp_store, s6, SX, reduceCtorEq, Nat.reduceEqDiff, ↓reduceIte, Int.reduceEq, Int.reduceLT, Int.reduceLE, Nat.reduceAdd]
  refine (below_spec sq (m := 4) (by omega) (r5.keep h.lt k6 (by omega)) g6.fr).mono ?_
  rintro _ H7 ⟨rfl, a7, r7⟩
  have a7n := a7.next
  have g7 := g6.ax h.lt a7
  obtain ⟨H8, s8, g8, k8, n8⟩ := g7.store (o := 2) (v := .int .i64 ((hd s.tail.tail % 4 : Nat) : Int)) rfl (by simp)
  have l8 := g8.loadN (List.mem_cons_self ..) (n := 3) rfl
  have g8' := g8.swap
  obtain ⟨H9, s9, g9, k9, n9⟩ := g8'.storeN (n := 3) (new := [.int .i64 ((hd s % m : Nat) : Int), .int .i64 ((hd s.tail % m : Nat) : Int), .int .i64 ((hd s.tail.tail % 4 : Nat) : Int)]) rfl rfl rfl
  have l9 := g9.loadN (List.mem_cons_self ..) (n := 3) rfl
  simp only [List.set_cons_succ, List.set_cons_zero] at l8
  simp only [wp_store, s8, l8, s9, resCell, l9, SX, reduceCtorEq, Nat.reduceEqDiff, ↓reduceIte, Int.reduceEq, Int.reduceLT, Int.reduceLE, Nat.reduceAdd]
  refine ⟨?_, r7.keep h.lt (k8.trans k9) (by omega)⟩
  have b1 : Ax rb H H4 := ((Ax.refl hf).keepT k1 (by omega) g1.fr |>.trans a2).keepT (k3.trans k4) (by omega) g4.fr
  exact ((b1.trans a5).keepT k6 (by omega) g6.fr |>.trans a7).keepT (k8.trans k9) (by omega) g9.fr
theorem frame_spec {k : Nat} (hk : k ≤ 255) {s : List UInt8} (hs : s.length ≤ 100000) (hf : Fr H) : FnTo Q 8 [.int .u8 k, .str s] H (fun r H' => r = .str (frameB k s) ∧ Gr H H') := by
  refine fn_wp (sq.ho 8 rfl _) sq.q8 (by simp [A8]) ?_
  have sh : binV .shr (.int .i64 (s.length : Int)) (.int .u64 8) = some (.int .i64 ((s.length / 256 : Nat) : Int)) := shrN (k := 8) (by omega)
  have w1 := wrapU8m (s.length / 256)
  have w2 := wrapU8m s.length
  obtain ⟨H1, s1, h1, k1⟩ := (Hp.nil H hf).make [.int .u8 k, .int .u8 ((s.length / 256 % 256 : Nat) : Int), .int .u8 ((s.length % 256 : Nat) : Int)] 1
  have sb := sob3 h1
  simp only [Int.toNat_natCast] at sb
  have ad := bin_adds [UInt8.ofNat k, UInt8.ofNat (s.length / 256 % 256), UInt8.ofNat (s.length % 256)] s (by simp; omega)
  simp only [A8, sh, w1, w2, run_bsV, bs3, s1, sb, ad, SX, reduceCtorEq, Nat.reduceEqDiff, ↓reduceIte, Int.reduceEq, Int.reduceLT, Int.reduceLE, Nat.reduceAdd]
  exact ⟨rfl, h1.gr k1⟩
end
theorem tabs_same {Q : Prog} (tz : ∀ t ∈ Q.tabs, t.g = 0) {H H' : AHeap} (h0 : H'.get 0 = H.get 0) (h : hasTabs H Q.tabs = true) : hasTabs H' Q.tabs = true := by
  refine List.all_eq_true.2 fun t ht => ?_
  have h1 := List.all_eq_true.1 h t ht
  rw [tz t ht] at h1 ⊢
  rw [h0]; exact h1
theorem Ax.tabs {Q : Prog} (tz : ∀ t ∈ Q.tabs, t.g = 0) {rb : Nat} {H H' : AHeap} (a : Ax rb H H') (hr : 0 < rb) (hn : 0 < H.next) (h : hasTabs H Q.tabs = true) : hasTabs H' Q.tabs = true := tabs_same tz (a.keep 0 hn (by omega)) h
theorem Keep.tabs {Q : Prog} (tz : ∀ t ∈ Q.tabs, t.g = 0) {base : Nat} {H H' : AHeap} (k : Keep base H H') (hn : 0 < base) (h : hasTabs H Q.tabs = true) : hasTabs H' Q.tabs = true := tabs_same tz (k 0 hn) h
/-! ### Where a word ends -/
def tailS (c : UInt8) (ws : List (List UInt8)) : List UInt8 := ws.flatMap (c :: ·)
def joinW (c : UInt8) : List (List UInt8) → List UInt8
  | [] => []
  | w :: ws => w ++ tailS c ws
theorem tailS_cons (c : UInt8) (w : List UInt8) (ws : List (List UInt8)) : tailS c (w :: ws) = c :: joinW c (w :: ws) := by simp [tailS, joinW]
theorem joinW_cons (c : UInt8) (w : List UInt8) (ws : List (List UInt8)) : joinW c (w :: ws) = w ++ tailS c ws := rfl
theorem index_end {c : UInt8} : ∀ {w : List UInt8}, c ∉ w → Lib.indexByte w c = -1
  | [], _ => rfl
  | b :: w, h => by
    have h1 : ¬ b = c := fun e => h (by simp [e])
    have h2 := index_end (w := w) (fun e => h (List.mem_cons_of_mem _ e))
    unfold Lib.indexByte
    rw [if_neg (by simpa using h1), if_pos (by simp [h2])]
theorem index_at {c : UInt8} {r : List UInt8} : ∀ {w : List UInt8}, c ∉ w → Lib.indexByte (w ++ c :: r) c = (w.length : Int)
  | [], _ => by simp [Lib.indexByte]
  | b :: w, h => by
    have h1 : ¬ b = c := fun e => h (by simp [e])
    have h2 := index_at (r := r) (w := w) (fun e => h (List.mem_cons_of_mem _ e))
    rw [List.cons_append]
    unfold Lib.indexByte
    rw [if_neg (by simpa using h1), if_neg (by rw [h2]; simp), h2]
    simp
theorem count_join {c : UInt8} : ∀ {ws : List (List UInt8)} {w : List UInt8}, (∀ x ∈ w :: ws, c ∉ x) → Lib.countByte (joinW c (w :: ws)) c = ws.length
  | [], w, h => by
    have := h w (by simp)
    simp [joinW, tailS, Lib.countByte, List.count_eq_zero_of_not_mem this]
  | x :: ws, w, h => by
    have h0 := h w (by simp)
    have h1 := count_join (c := c) (ws := ws) (w := x) (fun y hy => h y (List.mem_cons_of_mem _ hy))
    unfold Lib.countByte at h1 ⊢
    rw [joinW_cons, tailS_cons, List.count_append, List.count_cons_self, h1, List.count_eq_zero_of_not_mem h0]
    simp
def slStrV (x : AV) (lo hi : Option AV) : Option AV := ROp.run ⟨0, .nil⟩ .nil (.slStr (.c x) (lo.map .c) (hi.map .c))
theorem run_slStr (H : AHeap) (e : Env) (x : Opd) (lo hi : Option Opd) : ROp.run H e (.slStr x lo hi) = slStrV (x.ev e) (lo.map (·.ev e)) (hi.map (·.ev e)) := by
  cases lo <;> cases hi <;> rfl
theorem slStr_take {s : List UInt8} {n : Nat} (h : n ≤ s.length) : slStrV (.str s) Option.none (some (.int .i64 n)) = some (.str (s.take n)) := by
  simp only [slStrV, ROp.run, Opd.ev, Option.map_some, Option.map_none, bounds, bound, if_pos (show 0 ≤ (n : Int) ∧ (n : Int) ≤ (s.length : Int) by omega), Int.toNat_natCast]
  rfl
theorem slStr_drop {s : List UInt8} {n : Nat} (h : n ≤ s.length) : slStrV (.str s) (some (.int .i64 n)) Option.none = some (.str (s.drop n)) := by
  simp only [slStrV, ROp.run, Opd.ev, Option.map_some, Option.map_none, bounds, bound, if_pos (show 0 ≤ (n : Int) ∧ (n : Int) ≤ ((s.length : Nat) : Int) by omega), Int.toNat_natCast]
  simp
theorem slStr_w (w : List UInt8) (c : UInt8) (r : List UInt8) : slStrV (.str (w ++ c :: r)) Option.none (some (.int .i64 (w.length : Int))) = some (.str w) := by
  rw [slStr_take (by simp)]; simp
theorem slStr_r (w : List UInt8) (c : UInt8) (r : List UInt8) : slStrV (.str (w ++ c :: r)) (some (.int .i64 ((w.length + 1 : Nat) : Int))) Option.none = some (.str r) := by
  rw [slStr_drop (by simp)]
  have : w ++ c :: r = (w ++ [c]) ++ r := by simp
  rw [this, List.drop_append_of_le_length (by simp)]
  simp
/-! ### A walk through a text of plain bytes -/
def nxtE (H : AHeap) (x : AV) : Option (AV × AHeap) := EOp.run noCall H .nil (.nxt (.c x))
theorem wp_nxt (Q : Prog) (H : AHeap) (e : Env) (K : AV → AHeap → Prop) (x : Opd) : EOp.wp Q H e K (.nxt x) = bindX (nxtE H (x.ev e)) K := rfl
def rngV (x : AV) : Option (AObj × AKind) := LOp.run .nil (.rng (.c x))
theorem run_rng (e : Env) (x : Opd) : LOp.run e (.rng x) = rngV (x.ev e) := rfl
theorem rngV_str (s : List UInt8) : rngV (.str s) = some (.itr s 0, .ptr) := rfl
theorem dec_at {s : List UInt8} {i : Nat} {c : UInt8} (h : s[i]? = some c) (hc : c.toNat < 128) : Utf8.decode ⟨s.toArray⟩ i = (c.toNat, 1) := by
  have hi := (List.getElem?_eq_some_iff.1 h).1
  have hg : (⟨s.toArray⟩ : ByteArray).get! (i + 0) = c := by
    show (s.toArray)[i + 0]! = c
    rw [Nat.add_zero, Array.getElem!_eq_getD, Array.getD_eq_getD_getElem?]
    simp [h]
  unfold Utf8.decode
  simp only [hg]
  rw [if_pos hc]
theorem nxt_at {H : AHeap} {b i : Nat} {s : List UInt8} {c : UInt8} (h : H.get b = some (.itr s i)) (hc : s[i]? = some c) (hl : c.toNat < 128) : nxtE H (.ptr b 0) = some (.tup [.bool true, .int .i64 i, .int .i32 (c.toNat : Int)], H.set b (.itr s (i + 1))) := by
  have hp := (List.getElem?_eq_some_iff.1 hc).1
  simp only [nxtE, EOp.run, Opd.ev, h, ne_eq, not_true_eq_false, if_false, if_pos hp, dec_at hc hl]
theorem nxt_end {H : AHeap} {b pos : Nat} {s : List UInt8} (h : H.get b = some (.itr s pos)) (hp : ¬ pos < s.length) : nxtE H (.ptr b 0) = some (.tup [.bool false], H) := by
  simp only [nxtE, EOp.run, Opd.ev, h, ne_eq, not_true_eq_false, if_false, if_neg hp]
theorem Hp.setI {base : Nat} {H : AHeap} {l : List Cel} (h : Hp base H l) {m : Nat} {s : List UInt8} {p p' : Nat} (hm : H.get m = some (.itr s p)) (hb : base ≤ m) : Hp base (H.set m (.itr s p')) l ∧ Keep base H (H.set m (.itr s p')) ∧ (H.set m (.itr s p')).get m = some (.itr s p') := by
  refine ⟨⟨fun x hx => ?_, h.nd, h.lo, h.bn, fun b hb' => ?_⟩, fun b hb' => ?_, by rw [AHeap.get_set, if_pos rfl]⟩
  · obtain ⟨es', ty', h1, h2⟩ := h.has x hx
    refine ⟨es', ty', ?_, h2⟩
    rw [AHeap.get_set, if_neg (fun e => ?_)]
    · exact h1
    · rw [e, hm] at h1; cases h1
  · have hlt : m < H.next := Nat.lt_of_not_le fun hh => by rw [h.fr m hh] at hm; cases hm
    have hb'' : H.next ≤ b := hb'
    rw [AHeap.get_set, if_neg (by omega)]
    exact h.fr b hb''
  · rw [AHeap.get_set, if_neg (by omega)]
theorem Hp.allocI {base : Nat} {H : AHeap} {l : List Cel} (h : Hp base H l) (s : List UInt8) (p : Nat) : ∃ H', H.alloc (.itr s p) = H' ∧ Hp base H' l ∧ Keep base H H' ∧ H'.get H.next = some (.itr s p) ∧ H'.next = H.next + 1 := by
  refine ⟨_, rfl, ⟨fun x hx => ?_, h.nd, h.lo, Nat.le_succ_of_le h.bn, fun b hb => ?_⟩, h.keep_alloc _, by rw [AHeap.get_alloc, if_pos rfl], rfl⟩
  · obtain ⟨es', ty', h1, h2⟩ := h.has x hx
    exact ⟨es', ty', by rw [AHeap.get_alloc, if_neg (Nat.ne_of_lt (h.lt hx))]; exact h1, h2⟩
  · have hb' : H.next + 1 ≤ b := hb
    rw [AHeap.get_alloc, if_neg (by omega)]
    exact h.fr b (by omega)
theorem ext30 (a : AV) (l : List AV) : extractV 0 (.tup (a :: l)) = some a := rfl
theorem ext31 (a b : AV) (l : List AV) : extractV 1 (.tup (a :: b :: l)) = some b := rfl
theorem ext32 (a b c : AV) (l : List AV) : extractV 2 (.tup (a :: b :: c :: l)) = some c := rfl
section
variable {Q : Prog} (sq : ScQ Q) {H : AHeap}
include sq
theorem cut_spec {c : UInt8} {w r : List UInt8} (hw : c ∉ w) (hl : (w ++ c :: r).length ≤ 100000) (ht : hasTabs H Q.tabs = true) : FnTo Q 41 [.str (w ++ c :: r), .str [c]] H (fun v H' => v = .tup [.str w, .str r, .bool true] ∧ H' = H) := by
  refine fn_wp (sq.ho 41 rfl _) sq.q41 (by simp [A41]) ?_
  simp only [A41, SX, reduceCtorEq, Nat.reduceEqDiff, ↓reduceIte, Int.reduceEq, Int.reduceLT, Int.reduceLE, Nat.reduceAdd]
  have inner : FnTo Q 48 [.str (w ++ c :: r), .str [c]] H (fun v H' => v = .tup [.str w, .str r, .bool true] ∧ H' = H) := by
    refine fn_wp (sq.ho 48 rfl _) sq.q48 (by simp [A48]) ?_
    simp only [A48, SX, reduceCtorEq, Nat.reduceEqDiff, ↓reduceIte, Int.reduceEq, Int.reduceLT, Int.reduceLE, Nat.reduceAdd]
    refine fn_orc (sq.o49 _ _) ht ?_
    rw [index_at hw]
    have d : (0 : Int) ≤ (w.length : Int) := by omega
    have w1 : IntKind.wrap .i64 ((w.length : Int) + (([c] : List UInt8).length : Int)) = ((w.length + 1 : Nat) : Int) := by
      simp only [List.length_append, List.length_cons] at hl
      rw [wrapI64 (by simp; omega) (by simp; omega)]; rfl
    have s1 := slStr_w w c r
    have s2 := slStr_r w c r
    simp only [d, w1, run_slStr, s1, s2, SX, reduceCtorEq, Nat.reduceEqDiff, ↓reduceIte, Int.reduceEq, Int.reduceLT, Int.reduceLE, Nat.reduceAdd]
  refine inner.mono ?_
  rintro _ _ ⟨rfl, rfl⟩
  simp only [ext30, ext31, ext32, SX, reduceCtorEq, Nat.reduceEqDiff, ↓reduceIte, Int.reduceEq, Int.reduceLT, Int.reduceLE, Nat.reduceAdd]
theorem cut_end {c : UInt8} {w : List UInt8} (hw : c ∉ w) (ht : hasTabs H Q.tabs = true) : FnTo Q 41 [.str w, .str [c]] H (fun v H' => v = .tup [.str w, .str [], .bool false] ∧ H' = H) := by
  refine fn_wp (sq.ho 41 rfl _) sq.q41 (by simp [A41]) ?_
  simp only [A41, SX, reduceCtorEq, Nat.reduceEqDiff, ↓reduceIte, Int.reduceEq, Int.reduceLT, Int.reduceLE, Nat.reduceAdd]
  have inner : FnTo Q 48 [.str w, .str [c]] H (fun v H' => v = .tup [.str w, .str [], .bool false] ∧ H' = H) := by
    refine fn_wp (sq.ho 48 rfl _) sq.q48 (by simp [A48]) ?_
    simp only [A48, SX, reduceCtorEq, Nat.reduceEqDiff, ↓reduceIte, Int.reduceEq, Int.reduceLT, Int.reduceLE, Nat.reduceAdd]
    refine fn_orc (sq.o49 _ _) ht ?_
    rw [index_end hw]
    simp only [SX, reduceCtorEq, Nat.reduceEqDiff, ↓reduceIte, Int.reduceEq, Int.reduceLT, Int.reduceLE, Nat.reduceAdd]
  refine inner.mono ?_
  rintro _ _ ⟨rfl, rfl⟩
  simp only [ext30, ext31, ext32, SX, reduceCtorEq, Nat.reduceEqDiff, ↓reduceIte, Int.reduceEq, Int.reduceLT, Int.reduceLE, Nat.reduceAdd]
theorem digits_spec {n : Int} (h0 : -4 ≤ n) (h1 : n < 256) (ht : hasTabs H Q.tabs = true) : FnTo Q 49 [.str (decZ n)] H (fun v H' => v = .tup [.int .i64 n, .bool true] ∧ H' = H) := by
  refine fn_wp (sq.ho 49 rfl _) sq.q49 (by simp [A49]) ?_
  simp only [A49, SX, reduceCtorEq, Nat.reduceEqDiff, ↓reduceIte, Int.reduceEq, Int.reduceLT, Int.reduceLE, Nat.reduceAdd]
  refine fn_orc (sq.o50 n h0 h1) ht ?_
  have ni : nileqV' 4 false .nilIface .nilIface = some (.bool true) := rfl
  simp only [ext30, ext31, ni, SX, reduceCtorEq, Nat.reduceEqDiff, ↓reduceIte, Int.reduceEq, Int.reduceLT, Int.reduceLE, Nat.reduceAdd]
  refine fn_orc (sq.o25 n h0 h1) ht ?_
  have es : binV .eql (.str (decZ n)) (.str (decZ n)) = some (.bool true) := by rw [bin_eqs]; simp
  have d1 : (-9999 : Int) ≤ n := by omega
  have d2 : n ≤ (9999 : Int) := by omega
  simp only [ext20, es, d1, d2, SX, reduceCtorEq, Nat.reduceEqDiff, ↓reduceIte, Int.reduceEq, Int.reduceLT, Int.reduceLE, Nat.reduceAdd]
theorem label_spec {n : Int} (h0 : 0 ≤ n) (h1 : n < 64) : FnTo Q 50 [.int .i64 n] H (fun v H' => v = .bool true ∧ H' = H) := by
  refine fn_wp (sq.ho 50 rfl _) sq.q50 (by simp [A50]) ?_
  simp only [A50, h0, h1, SX, reduceCtorEq, Nat.reduceEqDiff, ↓reduceIte, Int.reduceEq, Int.reduceLT, Int.reduceLE, Nat.reduceAdd]
theorem fine1_spec {c : UInt8} (h0 : 97 ≤ c.toNat) (h1 : c.toNat ≤ 122) : FnTo Q 64 [.int .i32 (c.toNat : Int)] H (fun v H' => v = .bool false ∧ H' = H) := by
  refine fn_wp (sq.ho 64 rfl _) sq.q64 (by simp [A64]) ?_
  have d1 : ¬ ((c.toNat : Int) < 32) := by omega
  have d2 : ¬ ((126 : Int) < (c.toNat : Int)) := by omega
  simp only [A64, d1, d2, SX, reduceCtorEq, Nat.reduceEqDiff, ↓reduceIte, Int.reduceEq, Int.reduceLT, Int.reduceLE, Nat.reduceAdd]
set_option maxHeartbeats 1000000 in
theorem idxf_spec {s : List UInt8} (hs : ∀ c ∈ s, 97 ≤ c.toNat ∧ c.toNat ≤ 122) (hf : Fr H) : FnTo Q 94 [.str s, .fn (.func 64) [] [], .bool true] H (fun v H' => v = .int .i64 (-1) ∧ Gr H H') := by
  refine fn_wp (sq.ho 94 rfl _) sq.q94 (by simp [A94]) ?_
  obtain ⟨H1, s1, g1, k1, i1, n1⟩ := (Hp.nil H hf).allocI s 0
  obtain ⟨b, hb⟩ : ∃ b, H.next = b := ⟨_, rfl⟩
  rw [hb] at i1
  simp only [A94, run_rng, rngV_str, val_ptr, s1, hb, SX, reduceCtorEq, Nat.reduceEqDiff, ↓reduceIte, Int.reduceEq, Int.reduceLT, Int.reduceLE, Nat.reduceAdd]
  obtain ⟨I, hI⟩ : ∃ I : Nat → Env → AHeap → Prop, ∀ m e H', I m e H' ↔ (∃ i, m = s.length - i ∧ i ≤ s.length ∧ Hp H.next H' [] ∧ Keep H.next H H' ∧ H'.get b = some (.itr s i) ∧ Env.get e 1 = .fn (.func 64) [] [] ∧ Env.get e 2 = .bool true ∧ Env.get e 10 = .ptr b 0) := ⟨_, fun _ _ _ => Iff.rfl⟩
  refine loop_by I s.length ?_ ?_
  · exact (hI _ _ _).2 ⟨0, rfl, by omega, g1, k1, i1, (by first | (simp only [SG, reduceCtorEq, Nat.reduceEqDiff, ↓reduceIte] <;> rfl) | rfl), (by first | (simp only [SG, reduceCtorEq, Nat.reduceEqDiff, ↓reduceIte] <;> rfl) | rfl), (by first | (simp only [SG, reduceCtorEq, Nat.reduceEqDiff, ↓reduceIte] <;> rfl) | rfl)⟩
  · intro m' e H2 hinv
    obtain ⟨i, rfl, hi, g2, k2, i2, e1, e2, e10⟩ := (hI _ _ _).1 hinv
    by_cases d : i < s.length
    · obtain ⟨c, hc⟩ : ∃ c, s[i]? = some c := ⟨_, List.getElem?_eq_getElem d⟩
      obtain ⟨c0, c1⟩ := hs c (List.mem_of_getElem? hc)
      have nx := nxt_at i2 hc (by omega)
      obtain ⟨g3, k3, i3⟩ := g2.setI (p' := i + 1) i2 (by omega)
      simp only [e1, e2, e10, wp_nxt, nx, ext30, ext31, ext32, wp_callv, callvW_fn, List.nil_append, List.append_nil, SX, reduceCtorEq, Nat.reduceEqDiff, ↓reduceIte, Int.reduceEq, Int.reduceLT, Int.reduceLE, Nat.reduceAdd]
      refine (fine1_spec sq c0 c1).mono ?_
      rintro _ _ ⟨rfl, rfl⟩
      have bq : beqV false (.bool false) (.bool true) = some (.bool false) := rfl
      simp only [e1, e2, e10, bq, SX, reduceCtorEq, Nat.reduceEqDiff, ↓reduceIte, Int.reduceEq, Int.reduceLT, Int.reduceLE, Nat.reduceAdd]
      exact ⟨s.length - (i + 1), by omega, (hI _ _ _).2 ⟨i + 1, rfl, by omega, g3, k2.trans k3, i3, (by simp only [SG, reduceCtorEq, Nat.reduceEqDiff, ↓reduceIte, e1] <;> rfl), (by simp only [SG, reduceCtorEq, Nat.reduceEqDiff, ↓reduceIte, e2] <;> rfl), (by simp only [SG, reduceCtorEq, Nat.reduceEqDiff, ↓reduceIte, e10] <;> rfl)⟩⟩
    · have nx := nxt_end i2 d
      simp only [e1, e2, e10, wp_nxt, nx, ext30, SX, reduceCtorEq, Nat.reduceEqDiff, ↓reduceIte, Int.reduceEq, Int.reduceLT, Int.reduceLE, Nat.reduceAdd]
      first | exact ⟨rfl, g2.gr k2⟩ | exact g2.gr k2
theorem fine_spec {s : List UInt8} (hs : ∀ c ∈ s, 97 ≤ c.toNat ∧ c.toNat ≤ 122) (h0 : 1 ≤ s.length) (h1 : s.length ≤ 200) (hf : Fr H) : FnTo Q 52 [.str s] H (fun v H' => v = .bool true ∧ Gr H H') := by
  refine fn_wp (sq.ho 52 rfl _) sq.q52 (by simp [A52]) ?_
  have d1 : (1 : Int) ≤ (s.length : Int) := by omega
  have d2 : (s.length : Int) ≤ 200 := by omega
  simp only [A52, d1, d2, SX, reduceCtorEq, Nat.reduceEqDiff, ↓reduceIte, Int.reduceEq, Int.reduceLT, Int.reduceLE, Nat.reduceAdd]
  refine fn_wp (sq.ho 63 rfl _) sq.q63 (by simp [A63]) ?_
  simp only [A63, SX, reduceCtorEq, Nat.reduceEqDiff, ↓reduceIte, Int.reduceEq, Int.reduceLT, Int.reduceLE, Nat.reduceAdd]
  refine fn_wp (sq.ho 80 rfl _) sq.q80 (by simp [A80]) ?_
  simp only [A80, SX, reduceCtorEq, Nat.reduceEqDiff, ↓reduceIte, Int.reduceEq, Int.reduceLT, Int.reduceLE, Nat.reduceAdd]
  refine (idxf_spec sq hs hf).mono ?_
  rintro _ H1 ⟨rfl, g1⟩
  simp only [SX, reduceCtorEq, Nat.reduceEqDiff, ↓reduceIte, Int.reduceEq, Int.reduceLT, Int.reduceLE, Nat.reduceAdd]
  first | exact ⟨rfl, g1⟩ | exact g1
theorem cutp_spec {c : UInt8} {r : List UInt8} (hl : r.length ≤ 1000) : FnTo Q 61 [.str (c :: r), .str [c]] H (fun v H' => v = .tup [.str r, .bool true] ∧ H' = H) := by
  refine fn_wp (sq.ho 61 rfl _) sq.q61 (by simp [A61]) ?_
  simp only [A61, SX, reduceCtorEq, Nat.reduceEqDiff, ↓reduceIte, Int.reduceEq, Int.reduceLT, Int.reduceLE, Nat.reduceAdd]
  have inner : FnTo Q 78 [.str (c :: r), .str [c]] H (fun v H' => v = .tup [.str r, .bool true] ∧ H' = H) := by
    refine fn_wp (sq.ho 78 rfl _) sq.q78 (by simp [A78]) ?_
    simp only [A78, SX, reduceCtorEq, Nat.reduceEqDiff, ↓reduceIte, Int.reduceEq, Int.reduceLT, Int.reduceLE, Nat.reduceAdd]
    refine fn_wp (sq.ho 90 rfl _) sq.q90 (by simp [A90]) ?_
    have d : ((([c] : List UInt8).length : Nat) : Int) ≤ (((c :: r).length : Nat) : Int) := by simp only [List.length_cons, List.length_nil]; omega
    have s1 : slStrV (.str (c :: r)) Option.none (some (.int .i64 ((([c] : List UInt8).length : Nat) : Int))) = some (.str [c]) := by
      rw [slStr_take (by simp)]; simp
    have es : binV .eql (.str [c]) (.str [c]) = some (.bool true) := by rw [bin_eqs]; simp
    simp only [A90, d, run_slStr, s1, es, SX, reduceCtorEq, Nat.reduceEqDiff, ↓reduceIte, Int.reduceEq, Int.reduceLT, Int.reduceLE, Nat.reduceAdd]
    have s2 : slStrV (.str (c :: r)) (some (.int .i64 ((([c] : List UInt8).length : Nat) : Int))) Option.none = some (.str r) := by
      rw [slStr_drop (by simp)]; simp
    simp only [s2, SX, reduceCtorEq, Nat.reduceEqDiff, ↓reduceIte, Int.reduceEq, Int.reduceLT, Int.reduceLE, Nat.reduceAdd]
  refine inner.mono ?_
  rintro _ _ ⟨rfl, rfl⟩
  simp only [ext20, ext21, SX, reduceCtorEq, Nat.reduceEqDiff, ↓reduceIte, Int.reduceEq, Int.reduceLT, Int.reduceLE, Nat.reduceAdd]
end
end Go.Proofs.YtdkpmlhbofgfdaaGreatDoor.AM
