/-
  The document's reader: bytes, texts, frames, numerals, names and forms: walked.
-/
import Derived.Test.YtdkpmlhbofgfdaaGreatDoorSzX3
set_option linter.unusedVariables false
set_option linter.unusedSimpArgs false
namespace Go.Proofs.YtdkpmlhbofgfdaaGreatDoor.AM
open Go
structure SdQ (Q : Prog) : Prop where
  sq : ScQ Q
  d5 : Q.fns 5 = some A5
  d7 : Q.fns 7 = some A7
  d11 : Q.fns 11 = some A11
  d12 : Q.fns 12 = some A12
  d13 : Q.fns 13 = some A13
  d22 : Q.fns 22 = some A22
  d23 : Q.fns 23 = some A23
  d24 : Q.fns 24 = some A24
  d30 : Q.fns 30 = some A30
  d31 : Q.fns 31 = some A31
  d32 : Q.fns 32 = some A32
/-- the document's reader: bytes, a place; s is what stands from there on -/
structure RdD (rb : Nat) (v : AV) (bs : List UInt8) (c : Nat) (H : AHeap) (s : List UInt8) : Prop where
  pos : 0 < rb
  lt : rb < H.next
  bys : Bys H rb v bs
  ex : ∃ es ty at', H.get rb = some (.row ⟨[v, .int .i64 (at' : Nat)], es, false, true, ty⟩) ∧ s = bs.drop at' ∧ at' ≤ c
theorem Bys.at {H : AHeap} {rb : Nat} {v : AV} {s : List UInt8} (h : Bys H rb v s) {i : Nat} {x : UInt8} (hx : s[i]? = some x) : ∃ p, idxSV 1 v (.int .i64 (i : Int)) = some p ∧ loadV H none p = some (.int .u8 x.toNat) := by
  have hi := (List.getElem?_eq_some_iff.1 hx).1
  rcases h with ⟨_, rfl⟩ | ⟨b, o, cap, B, rfl, h2, h4, h5, h6, h7, h8⟩
  · simp at hi
  · have hr : H.row b = some B := by simp only [AHeap.row, h4, h5, if_true]
    refine ⟨.ptr b (o + i * 1), ?_, ?_⟩
    · simp only [idxSV, ROp.run, Opd.ev, inIndex, if_pos (show 0 ≤ (i : Int) ∧ (i : Int) < (s.length : Int) by omega), Int.toNat_natCast]
    · simp only [loadV, ROp.run, Opd.ev, hr, Nat.mul_one]; rw [h8 i x hx]
section
variable {rb c : Nat} {v : AV} {bs s : List UInt8} {H H' : AHeap}
theorem RdD.le {c' : Nat} (h : RdD rb v bs c H s) (hc : c ≤ c') : RdD rb v bs c' H s := by
  obtain ⟨es, ty, a, h1, h2, h3⟩ := h.ex
  exact ⟨h.pos, h.lt, h.bys, es, ty, a, h1, h2, by omega⟩
theorem RdD.keep {base : Nat} (h : RdD rb v bs c H s) (hr : rb < base) (hk : Keep base H H') (hn : H.next ≤ H'.next) : RdD rb v bs c H' s := by
  obtain ⟨es, ty, a, h1, h2⟩ := h.ex
  refine ⟨h.pos, Nat.lt_of_lt_of_le h.lt hn, ?_, es, ty, a, by rw [hk _ hr]; exact h1, h2⟩
  rcases h.bys with h2 | ⟨b, o, cap, B, e1, e2, e4, e5⟩
  · exact .inl h2
  · exact .inr ⟨b, o, cap, B, e1, e2, by rw [hk b (by omega)]; exact e4, e5⟩
theorem RdD.gr (h : RdD rb v bs c H s) (g : Gr H H') : RdD rb v bs c H' s := h.keep h.lt g.keep g.next
theorem Bys.same (h : Bys H rb v s) : AV.same v v = true := by
  rcases h with ⟨rfl, _⟩ | ⟨b, o, cap, B, rfl, _⟩
  · rfl
  · simp [AV.same, AV.same1]
end
theorem sob1 {base : Nat} {H : AHeap} {l : List Cel} {b k : Nat} {x : UInt8} (h : Hp base H (⟨b, k, [.int .u8 (x.toNat : Int)]⟩ :: l)) : strOfBytesV H (.slc b 0 1 1) = some (.str [x]) :=
  h.strA (b := b) (k := k) (t := [x]) (c := []) (cap := 1) (by simp [ofBytes]) rfl
def runs30 (H : AHeap) : Option (Option AV × AHeap) := match A30.body.run (fun _ _ _ => none) 0 (Env.init 0 [] .nil) H with | some (.ret, e, H') => some (resVal e H' A30.res, H') | _ => none
set_option maxRecDepth 100000 in
theorem runs30_eq (H : AHeap) : runs30 H = some (some (.slc H.next 0 53 53), H.alloc (.row ⟨namesL.flatten, 0, false, true, 0⟩)) := by rfl
def runs31 (H : AHeap) (i : Nat) : Option (Option AV × AHeap) := match A31.body.run (fun _ _ _ => none) 0 (Env.init 0 [.str (nm i)] .nil) H with | some (.ret, e, H') => some (resVal e H' A31.res, H') | _ => none
set_option maxRecDepth 100000 in
set_option maxHeartbeats 8000000 in
theorem runs31_eq (H : AHeap) : ∀ i, i < 53 → runs31 H i = some (some (.tup [.str (fm i), .bool true]), H)
  | 0, _ => rfl
  | 1, _ => rfl
  | 2, _ => rfl
  | 3, _ => rfl
  | 4, _ => rfl
  | 5, _ => rfl
  | 6, _ => rfl
  | 7, _ => rfl
  | 8, _ => rfl
  | 9, _ => rfl
  | 10, _ => rfl
  | 11, _ => rfl
  | 12, _ => rfl
  | 13, _ => rfl
  | 14, _ => rfl
  | 15, _ => rfl
  | 16, _ => rfl
  | 17, _ => rfl
  | 18, _ => rfl
  | 19, _ => rfl
  | 20, _ => rfl
  | 21, _ => rfl
  | 22, _ => rfl
  | 23, _ => rfl
  | 24, _ => rfl
  | 25, _ => rfl
  | 26, _ => rfl
  | 27, _ => rfl
  | 28, _ => rfl
  | 29, _ => rfl
  | 30, _ => rfl
  | 31, _ => rfl
  | 32, _ => rfl
  | 33, _ => rfl
  | 34, _ => rfl
  | 35, _ => rfl
  | 36, _ => rfl
  | 37, _ => rfl
  | 38, _ => rfl
  | 39, _ => rfl
  | 40, _ => rfl
  | 41, _ => rfl
  | 42, _ => rfl
  | 43, _ => rfl
  | 44, _ => rfl
  | 45, _ => rfl
  | 46, _ => rfl
  | 47, _ => rfl
  | 48, _ => rfl
  | 49, _ => rfl
  | 50, _ => rfl
  | 51, _ => rfl
  | 52, _ => rfl
  | i + 53, h => absurd h (by omega)
section
variable {Q : Prog} (dq : SdQ Q) {H : AHeap}
include dq
theorem dnames_spec (hf : Fr H) : FnTo Q 30 [] H (fun r H' => r = .slc H.next 0 53 53 ∧ H' = H.alloc (.row ⟨namesL.flatten, 0, false, true, 0⟩)) := by
  have h := runs30_eq H
  unfold runs30 at h
  split at h
  · rename_i e H' hr
    simp only [Option.some.injEq, Prod.mk.injEq] at h
    exact fn_run (dq.sq.ho 30 rfl _) dq.d30 (by simp) hr h.1 ⟨rfl, h.2⟩
  · cases h
theorem dform_spec {i : Nat} (hi : i < 53) : FnTo Q 31 [.str (nm i)] H (fun r H' => r = .tup [.str (fm i), .bool true] ∧ H' = H) := by
  have h := runs31_eq H i hi
  unfold runs31 at h
  split at h
  · rename_i e H' hr
    simp only [Option.some.injEq, Prod.mk.injEq] at h
    exact fn_run (dq.sq.ho 31 rfl _) dq.d31 (by simp [A31]) hr h.1 ⟨rfl, h.2⟩
  · cases h
theorem n_spec {rb m c : Nat} {v : AV} {bs s : List UInt8} (hm : 0 < m) (h : RdD rb v bs c H s) (hc : c ≤ 100000) (hf : Fr H) :
    FnTo Q 11 [.ptr rb 0, .int .i64 (m : Int)] H (fun r H' => r = .int .i64 ((hd s % m : Nat) : Int) ∧ Ax rb H H' ∧ RdD rb v bs (c + 1) H' s.tail) := by
  refine fn_wp (dq.sq.ho 11 rfl _) dq.d11 (by simp [A11]) ?_
  obtain ⟨es, ty, a, hg, hs, ha⟩ := h.ex
  have hrow : H.row rb = some ⟨[v, .int .i64 (a : Int)], es, false, true, ty⟩ := by simp only [AHeap.row, hg, if_true]
  have l0 : loadV H none (.ptr rb 0) = some v := by simp only [loadV, ROp.run, Opd.ev, hrow]; rfl
  have l1 : loadV H none (.ptr rb 1) = some (.int .i64 (a : Int)) := by simp only [loadV, ROp.run, Opd.ev, hrow]; rfl
  have ln := h.bys.len H
  have w1 : IntKind.wrap .i64 ((a : Int) + 1) = ((a + 1 : Nat) : Int) := wrapNat (n := a + 1) (by omega)
  have ax : Ax rb H (H.set rb (.row ⟨[v, .int .i64 ((a + 1 : Nat) : Int)], es, false, true, ty⟩)) := ⟨fun b hb hn => by rw [AHeap.get_set, if_neg hn], Nat.le_refl _, fun b hb => by
    have := h.lt
    have hb' : H.next ≤ b := hb
    rw [AHeap.get_set, if_neg (by omega)]; exact hf b hb'⟩
  have st : storeE H 1 (.ptr rb 1) (.int .i64 ((a + 1 : Nat) : Int)) = some (.undef, H.set rb (.row ⟨[v, .int .i64 ((a + 1 : Nat) : Int)], es, false, true, ty⟩)) := by
    simp only [storeE, EOp.run, Opd.ev, AV.cells, List.length_cons, List.length_nil, Nat.zero_add, if_true, storeA, hrow, over]
    simp [AV.one]
  have r1 : RdD rb v bs (c + 1) (H.set rb (.row ⟨[v, .int .i64 ((a + 1 : Nat) : Int)], es, false, true, ty⟩)) s.tail := by
    refine ⟨h.pos, h.lt, h.bys.ax h.lt ax, es, ty, a + 1, by rw [AHeap.get_set, if_pos rfl], ?_, by omega⟩
    rw [hs, List.tail_drop]
  by_cases d : (a : Int) < (bs.length : Int)
  · obtain ⟨x, hx⟩ : ∃ x, bs[a]? = some x := ⟨_, List.getElem?_eq_getElem (by omega)⟩
    obtain ⟨p, i1, i2⟩ := h.bys.at hx
    have hh : hd s = x.toNat := by
      rw [hs, hd_drop]; unfold at0'; rw [hx]; rfl
    have w2 : IntKind.wrap .i64 (x.toNat : Int) = x.toNat := wrapNat (by have := UInt8.toNat_lt x; omega)
    have rm := remN (a := x.toNat) hm
    rw [hh]
    simp only [A11, l0, l1, ln, d, i1, i2, w2, w1, wp_store, st, rm, SX, reduceCtorEq, Nat.reduceEqDiff, ↓reduceIte, Int.reduceEq, Int.reduceLT, Int.reduceLE, Nat.reduceAdd]
    first | exact ⟨rfl, ax, r1⟩ | exact ⟨ax, r1⟩
  · have hh : hd s = 0 := by
      rw [hs, List.drop_eq_nil_of_le (by omega)]; rfl
    have rm : binV .rem (.int .i64 0) (.int .i64 (m : Int)) = some (.int .i64 ((0 % m : Nat) : Int)) := remN (a := 0) hm
    rw [hh]
    simp only [A11, l0, l1, ln, d, w1, wp_store, st, rm, SX, reduceCtorEq, Nat.reduceEqDiff, ↓reduceIte, Int.reduceEq, Int.reduceLT, Int.reduceLE, Nat.reduceAdd]
    first | exact ⟨rfl, ax, r1⟩ | exact ⟨ax, r1⟩
theorem nK {rb m c : Nat} {v : AV} {bs s : List UInt8} (hm : 0 < m) (h : RdD rb v bs c H s) (hc : c ≤ 100000) (hf : Fr H) {K : AV → AHeap → Prop} (hk : ∀ H', Ax rb H H' → RdD rb v bs (c + 1) H' s.tail → K (.int .i64 ((hd s % m : Nat) : Int)) H') : FnTo Q 11 [.ptr rb 0, .int .i64 (m : Int)] H K :=
  (n_spec dq hm h hc hf).mono fun v H' ⟨h1, h2, h3⟩ => h1 ▸ hk H' h2 h3
set_option maxHeartbeats 2000000 in
theorem dtext_spec {rb m c : Nat} {v : AV} {bs s : List UInt8} (hm : 0 < m) (hm2 : m ≤ 64) (h : RdD rb v bs c H s) (hc : c ≤ 50000) (hf : Fr H) :
    FnTo Q 24 [.ptr rb 0, .int .i64 (m : Int)] H (fun r H' => r = .str (rdN (hd s % m) s.tail) ∧ Ax rb H H' ∧ RdD rb v bs (c + 1 + m) H' (s.tail.drop (hd s % m))) := by
  refine fn_wp (dq.sq.ho 24 rfl _) dq.d24 (by simp [A24]) ?_
  simp only [A24, SX, reduceCtorEq, Nat.reduceEqDiff, ↓reduceIte, Int.reduceEq, Int.reduceLT, Int.reduceLE, Nat.reduceAdd]
  refine nK dq hm h (by omega) hf fun H1 a1 r1 => ?_
  have hk : hd s % m < m := Nat.mod_lt _ hm
  generalize hd s % m = k at hk ⊢
  generalize s.tail = t at r1 ⊢
  simp only [SX, reduceCtorEq, Nat.reduceEqDiff, ↓reduceIte, Int.reduceEq, Int.reduceLT, Int.reduceLE, Nat.reduceAdd]
  obtain ⟨I, hI⟩ : ∃ I : Nat → Env → AHeap → Prop, ∀ q e H', I q e H' ↔ (∃ i, q = k - i ∧ i ≤ k ∧ Ax rb H H' ∧ RdD rb v bs (c + 1 + i) H' (t.drop i) ∧ Env.get e 0 = .ptr rb 0 ∧ Env.get e 5 = .str (rdN i t) ∧ Env.get e 6 = .int .i64 (k : Int) ∧ Env.get e 7 = .int .i64 (i : Int)) := ⟨_, fun _ _ _ => Iff.rfl⟩
  refine loop_by I k ?_ ?_
  · exact (hI _ _ _).2 ⟨0, rfl, by omega, a1, r1, (by first | (simp only [SG, reduceCtorEq, Nat.reduceEqDiff, ↓reduceIte] <;> rfl) | rfl), (by first | (simp only [SG, reduceCtorEq, Nat.reduceEqDiff, ↓reduceIte] <;> rfl) | rfl), (by first | (simp only [SG, reduceCtorEq, Nat.reduceEqDiff, ↓reduceIte] <;> rfl) | rfl), (by first | (simp only [SG, reduceCtorEq, Nat.reduceEqDiff, ↓reduceIte] <;> rfl) | rfl)⟩
  · intro m' e H2 hinv
    obtain ⟨i, rfl, hi, a2, r2, e0, e5, e6, e7⟩ := (hI _ _ _).1 hinv
    by_cases d : (i : Int) < (k : Int)
    · simp only [A24_lp, e0, e5, e6, e7, d, SX, reduceCtorEq, Nat.reduceEqDiff, ↓reduceIte, Int.reduceEq, Int.reduceLT, Int.reduceLE, Nat.reduceAdd]
      refine nK dq (m := 256) (by omega) r2 (by omega) a2.fr fun H3 a3 r3 => ?_
      have hb := hd_drop t i
      have hb2 : hd (t.drop i) % 256 = (at0' t i).toNat := by rw [hb]; exact Nat.mod_eq_of_lt (UInt8.toNat_lt _)
      have w8 : IntKind.wrap .u8 ((hd (t.drop i) % 256 : Nat) : Int) = ((at0' t i).toNat : Int) := by rw [hb2, wrapU8N]; simp
      obtain ⟨H4, s4, g4, k4⟩ := (Hp.nil H3 a3.fr).make [.int .u8 ((at0' t i).toNat : Int)] 1
      have n4 : H4.next = H3.next + 1 := by rw [← s4]; rfl
      have sb := sob1 g4
      have ad := bin_adds (rdN i t) [at0' t i] (by rw [rdN_len]; simp; omega)
      have rs : rdN i t ++ [at0' t i] = rdN (i + 1) t := by simp [rdN, List.range_succ]
      rw [rs] at ad
      have w1 : IntKind.wrap .i64 ((i : Int) + 1) = ((i + 1 : Nat) : Int) := wrapNat (n := i + 1) (by omega)
      rw [List.tail_drop] at r3
      have rl := r3.lt
      simp only [e0, e5, e6, e7, w8, s4, sb, ad, w1, SX, reduceCtorEq, Nat.reduceEqDiff, ↓reduceIte, Int.reduceEq, Int.reduceLT, Int.reduceLE, Nat.reduceAdd]
      exact ⟨k - (i + 1), by omega, (hI _ _ _).2 ⟨i + 1, rfl, by omega, (a2.trans a3).keepT (k4.le (by have := (a2.trans a3).next; omega)) (by have := (a2.trans a3).next; omega) g4.fr, r3.keep rl k4 (by omega), (by simp only [SG, reduceCtorEq, Nat.reduceEqDiff, ↓reduceIte, e0] <;> rfl), (by first | (simp only [SG, reduceCtorEq, Nat.reduceEqDiff, ↓reduceIte] <;> rfl) | rfl), (by simp only [SG, reduceCtorEq, Nat.reduceEqDiff, ↓reduceIte, e6] <;> rfl), (by first | (simp only [SG, reduceCtorEq, Nat.reduceEqDiff, ↓reduceIte] <;> rfl) | rfl)⟩⟩
    · obtain rfl : i = k := by omega
      simp only [A24_lp, e0, e5, e6, e7, d, SX, reduceCtorEq, Nat.reduceEqDiff, ↓reduceIte, Int.reduceEq, Int.reduceLT, Int.reduceLE, Nat.reduceAdd]
      first | exact ⟨rfl, a2, r2.le (by omega)⟩ | exact ⟨a2, r2.le (by omega)⟩
theorem dframe_spec {k : Nat} (hk : k ≤ 255) {s : List UInt8} (hs : s.length ≤ 100000) (hf : Fr H) : FnTo Q 22 [.int .u8 k, .str s] H (fun r H' => r = .str (frameB k s) ∧ Gr H H') := by
  refine fn_wp (dq.sq.ho 22 rfl _) dq.d22 (by simp [A22]) ?_
  have qu : binV .quo (.int .i64 (s.length : Int)) (.int .i64 256) = some (.int .i64 ((s.length / 256 : Nat) : Int)) := quoN (m := 256) (by omega) (by omega)
  have rm : binV .rem (.int .i64 (s.length : Int)) (.int .i64 256) = some (.int .i64 ((s.length % 256 : Nat) : Int)) := remN (m := 256) (by omega)
  have w1 := wrapU8m (s.length / 256)
  have w2 : IntKind.wrap .u8 ((s.length % 256 : Nat) : Int) = ((s.length % 256 : Nat) : Int) := by rw [wrapU8m, Nat.mod_mod]
  obtain ⟨H1, s1, h1, k1⟩ := (Hp.nil H hf).make [.int .u8 k, .int .u8 ((s.length / 256 % 256 : Nat) : Int), .int .u8 ((s.length % 256 : Nat) : Int)] 1
  have sb := sob3 h1
  simp only [Int.toNat_natCast] at sb
  have ad := bin_adds [UInt8.ofNat k, UInt8.ofNat (s.length / 256 % 256), UInt8.ofNat (s.length % 256)] s (by simp; omega)
  simp only [A22, qu, rm, w1, w2, run_bsV, bs3, s1, sb, ad, SX, reduceCtorEq, Nat.reduceEqDiff, ↓reduceIte, Int.reduceEq, Int.reduceLT, Int.reduceLE, Nat.reduceAdd]
  exact ⟨rfl, h1.gr k1⟩
theorem dig1_spec {n : Nat} (hn : n < 10) (hf : Fr H) : FnTo Q 32 [.int .i64 (n : Int)] H (fun r H' => r = .str (decN n) ∧ Gr H H') := by
  refine fn_wp (dq.sq.ho 32 rfl _) dq.d32 (by simp [A32]) ?_
  have d1 : ¬ (n : Int) < 0 := by omega
  have d2 : (n : Int) < 10 := by omega
  have w1 : IntKind.wrap .i64 (48 + (n : Int)) = ((48 + n : Nat) : Int) := by rw [wrapI64 (by omega) (by omega)]; omega
  have w2 : IntKind.wrap .u8 ((48 + n : Nat) : Int) = ((UInt8.ofNat (48 + n)).toNat : Int) := wrapU8N
  obtain ⟨H1, s1, g1, k1⟩ := (Hp.nil H hf).make [.int .u8 ((UInt8.ofNat (48 + n)).toNat : Int)] 1
  have sb := sob1 g1
  have e : decN n = [UInt8.ofNat (48 + n)] := by unfold decN; rw [if_pos hn]
  rw [e]
  simp only [A32, d1, d2, w1, w2, s1, sb, SX, reduceCtorEq, Nat.reduceEqDiff, ↓reduceIte, Int.reduceEq, Int.reduceLT, Int.reduceLE, Nat.reduceAdd]
  exact g1.gr k1
theorem digs_spec : ∀ (f n : Nat), n < 10 ^ (f + 1) → n < 256 → ∀ {H : AHeap}, Fr H → FnTo Q 32 [.int .i64 (n : Int)] H (fun r H' => r = .str (decN n) ∧ Gr H H')
  | 0, n, h, _, H, hf => dig1_spec dq (by simpa using h) hf
  | f + 1, n, h, h256, H, hf => by
    by_cases hn : n < 10
    · exact dig1_spec dq hn hf
    refine fn_wp (dq.sq.ho 32 rfl _) dq.d32 (by simp [A32]) ?_
    have d1 : ¬ (n : Int) < 0 := by omega
    have d2 : ¬ (n : Int) < 10 := by omega
    have qu : binV .quo (.int .i64 (n : Int)) (.int .i64 10) = some (.int .i64 ((n / 10 : Nat) : Int)) := quoN (m := 10) (by omega) (by omega)
    have rm : binV .rem (.int .i64 (n : Int)) (.int .i64 10) = some (.int .i64 ((n % 10 : Nat) : Int)) := remN (m := 10) (by omega)
    simp only [A32, d1, d2, qu, rm, SX, reduceCtorEq, Nat.reduceEqDiff, ↓reduceIte, Int.reduceEq, Int.reduceLT, Int.reduceLE, Nat.reduceAdd]
    refine (digs_spec f (n / 10) (by rw [Nat.pow_succ] at h; omega) (by omega) hf).mono ?_
    rintro _ H1 ⟨rfl, g1⟩
    simp only [rm, SX, reduceCtorEq, Nat.reduceEqDiff, ↓reduceIte, Int.reduceEq, Int.reduceLT, Int.reduceLE, Nat.reduceAdd]
    refine (dig1_spec dq (n := n % 10) (Nat.mod_lt _ (by omega)) g1.fr).mono ?_
    rintro _ H2 ⟨rfl, g2⟩
    have e : decN (n / 10) ++ decN (n % 10) = decN n := by
      have h3 : n % 10 < 10 := Nat.mod_lt _ (by omega)
      unfold decN
      rw [if_pos h3, if_neg hn]
      by_cases c : n < 100
      · rw [if_pos (by omega : n / 10 < 10), if_pos c]; rfl
      · rw [if_neg (by omega : ¬ n / 10 < 10), if_pos (by omega : n / 10 < 100), if_neg c]
        simp only [List.cons_append, List.nil_append]
        rw [show n / 10 / 10 = n / 100 by omega]
    have dl : ∀ k, (decN k).length ≤ 3 := by
      intro k; unfold decN; split
      · simp
      · split <;> simp
    have ad := bin_adds (decN (n / 10)) (decN (n % 10)) (by have := dl (n / 10); have := dl (n % 10); omega)
    rw [e] at ad
    simp only [ad, SX, reduceCtorEq, Nat.reduceEqDiff, ↓reduceIte, Int.reduceEq, Int.reduceLT, Int.reduceLE, Nat.reduceAdd]
    exact g1.trans g2
theorem digZ_spec {n : Int} (h0 : -4 ≤ n) (h1 : n < 256) (hf : Fr H) : FnTo Q 32 [.int .i64 n] H (fun r H' => r = .str (decZ n) ∧ Gr H H') := by
  cases n with
  | ofNat k => exact digs_spec dq 2 k (by simp only [Int.ofNat_eq_natCast] at h1; omega) (by simp only [Int.ofNat_eq_natCast] at h1; omega) hf
  | negSucc k =>
    refine fn_wp (dq.sq.ho 32 rfl _) dq.d32 (by simp [A32]) ?_
    have d1 : (Int.negSucc k) < 0 := Int.negSucc_lt_zero k
    have w1 : IntKind.wrap .i64 (0 - Int.negSucc k) = ((k + 1 : Nat) : Int) := by rw [wrapI64 (by omega) (by omega)]; omega
    simp only [A32, d1, w1, SX, reduceCtorEq, Nat.reduceEqDiff, ↓reduceIte, Int.reduceEq, Int.reduceLT, Int.reduceLE, Nat.reduceAdd]
    refine (digs_spec dq 2 (k + 1) (by omega) (by omega) hf).mono ?_
    rintro _ H1 ⟨rfl, g1⟩
    have dl : (decN (k + 1)).length ≤ 3 := by
      unfold decN; split
      · simp
      · split <;> simp
    have ad := bin_adds [45] (decN (k + 1)) (by simp; omega)
    simp only [ad, SX, reduceCtorEq, Nat.reduceEqDiff, ↓reduceIte, Int.reduceEq, Int.reduceLT, Int.reduceLE, Nat.reduceAdd]
    exact ⟨rfl, g1⟩
end
end Go.Proofs.YtdkpmlhbofgfdaaGreatDoor.AM
