/-
  The functions of texts that go to a terminal, walked: a pasted text.
-/
import Derived.Test.YtdokbjneohnoeaaGreatDoorCode
import Derived.Test.YtdokbjneohnoeaaGreatDoorAmBld
set_option linter.unusedVariables false
set_option linter.unusedSimpArgs false
namespace Go.Proofs.YtdokbjneohnoeaaGreatDoor.AM
open Go
structure QyQ (Q : Prog) : Prop where
  q10 : Q.fns 10 = some A10
  ho : ∀ f, Nat.beq f 12 = false → ∀ a, Q.orc f a = Option.none
theorem wantV_undef (b : Bool) : wantV .undef b = false := rfl
def mkV (es bs : Nat) (z : List AV) (l c : AV) : Option (AObj × AKind) := LOp.run .nil (.mkslice es bs z (.c l) (.c c))
theorem run_mk (e : Env) (es bs : Nat) (z : List AV) (l c : Opd) : LOp.run e (.mkslice es bs z l c) = mkV es bs z (l.ev e) (c.ev e) := rfl
theorem zeros_one (n : Nat) (z : AV) : zeros [z] n = List.replicate n z := by
  unfold zeros
  apply List.ext_getElem?
  intro i
  by_cases h : i < n
  · simp [h, Nat.mod_one]
  · simp [h]
theorem mkV_at (n : Nat) (h : n ≤ 1000000) : mkV 1 1 [.int .u8 0] (.int .i64 0) (.int .i64 n) = some (.row ⟨List.replicate n (.int .u8 0), 0, false, true, 0⟩, .slc 0 n) := by
  simp only [mkV, LOp.run, Opd.ev, Int.toNat_natCast, Nat.mul_one, zeros_one]
  rw [if_pos ⟨by omega, by omega, by omega, by omega, by simp, by simp [AV.one]⟩]
  rfl
def slStrV (x : AV) (lo hi : Option AV) : Option AV := ROp.run ⟨0, .nil⟩ .nil (.slStr (.c x) (lo.map .c) (hi.map .c))
theorem run_slStr (H : AHeap) (e : Env) (x : Opd) (lo hi : Option Opd) : ROp.run H e (.slStr x lo hi) = slStrV (x.ev e) (lo.map (·.ev e)) (hi.map (·.ev e)) := by
  cases lo <;> cases hi <;> rfl
theorem slStr_take {s : List UInt8} {n : Nat} (h : n ≤ s.length) : slStrV (.str s) Option.none (some (.int .i64 n)) = some (.str (s.take n)) := by
  simp only [slStrV, ROp.run, Opd.ev, Option.map_some, Option.map_none, bounds, bound, if_pos (show 0 ≤ (n : Int) ∧ (n : Int) ≤ (s.length : Int) by omega), Int.toNat_natCast]
  rfl
theorem slStr_drop {s : List UInt8} {n : Nat} (h : n ≤ s.length) : slStrV (.str s) (some (.int .i64 n)) Option.none = some (.str (s.drop n)) := by
  simp only [slStrV, ROp.run, Opd.ev, Option.map_some, Option.map_none, bounds, bound, if_pos (show 0 ≤ (n : Int) ∧ (n : Int) ≤ ((s.length : Nat) : Int) by omega), Int.toNat_natCast]
  simp
theorem slStr_both {s : List UInt8} {a b : Nat} (h1 : a ≤ b) (h2 : b ≤ s.length) : slStrV (.str s) (some (.int .i64 (a : Int))) (some (.int .i64 (b : Int))) = some (.str ((s.take b).drop a)) := by
  simp only [slStrV, ROp.run, Opd.ev, Option.map_some, bounds, bound, if_pos (show 0 ≤ (b : Int) ∧ (b : Int) ≤ (s.length : Int) by omega), Int.toNat_natCast, if_pos (show 0 ≤ (a : Int) ∧ (a : Int) ≤ (b : Int) by omega)]
/-! ### A pasted text -/
def keepP (c : UInt8) : Option UInt8 := bif decide ((c.toNat : Int) = 10) then some 13 else bif (decide ((32 : Int) ≤ c.toNat) && !decide ((c.toNat : Int) = 127)) || decide ((c.toNat : Int) = 9) || decide ((c.toNat : Int) = 13) then some c else Option.none
def pasteP (s : List UInt8) : List UInt8 := s.filterMap keepP
def br0 : List UInt8 := [27, 91, 50, 48, 48, 126]
def br1 : List UInt8 := [27, 91, 50, 48, 49, 126]
def pasteB (b : Bool) (s : List UInt8) : List UInt8 := bif b then br0 ++ pasteP s ++ br1 else pasteP s
theorem pasteP_len (s : List UInt8) : (pasteP s).length ≤ s.length := List.length_filterMap_le _ _
theorem paste_next {s : List UInt8} {i : Nat} {c : UInt8} (h : s[i]? = some c) : pasteP (s.take (i + 1)) = pasteP (s.take i) ++ (keepP c).toList := by
  rw [List.take_add_one, h]
  simp only [pasteP, List.filterMap_append]
  congr 1
theorem Hp.pushIn {base : Nat} {H : AHeap} {b n r : Nat} {t : List UInt8} (h : Hp base H [⟨b, 1, ofBytes t ++ List.replicate r (.int .u8 0)⟩]) (hr : t.length + r = n) (h0 : 0 < r) {v : Int} {x : UInt8} (hv : v = x.toNat) :
    ∃ H1 H2, H.alloc (.row ⟨[.int .u8 v], 0, false, true, 0⟩) = H1 ∧ appendTE 5 H1 1 1 (.slc b 0 t.length n) (.slc H.next 0 1 1) = some (.slc b 0 (t.length + 1) n, H2) ∧ Hp base H2 [⟨b, 1, ofBytes (t ++ [x]) ++ List.replicate (r - 1) (.int .u8 0)⟩] ∧ Keep base H H2 := by
  subst hv
  obtain ⟨H1, s1, h1, k1⟩ := h.make [.int .u8 x.toNat] 1
  have hsrc := h1.srcOne (List.mem_cons_self ..) 1
  obtain ⟨r', rfl⟩ : ∃ r', r = r' + 1 := ⟨r - 1, by omega⟩
  have h2 := h1.swap
  rw [List.replicate_succ] at h2
  obtain ⟨H2, s2, h3, k2, _⟩ := h2.appT_in (n := t.length) (cap := n) (by simp [ofBytes]) (by omega) (ty := 5) (bytes := 1) (by omega) rfl hsrc
  refine ⟨H1, H2, s1, s2, ?_, k1.trans k2⟩
  have := h3.swap.drop
  simpa [ofBytes] using this
section
variable {Q : Prog} (qq : QyQ Q) {H : AHeap}
include qq
set_option maxHeartbeats 8000000 in
theorem paste_spec {s : List UInt8} (hs : s.length ≤ 10000) (b : Bool) (hf : Fr H) : FnTo Q 10 [.str s, .bool b] H (fun r H' => r = .str (pasteB b s) ∧ Gr H H') := by
  refine fn_wp (qq.ho 10 rfl _) qq.q10 (by simp [A10]) ?_
  obtain ⟨H1, s1, h1, k1⟩ := (Hp.nil H hf).make (List.replicate s.length (.int .u8 0)) 1
  have mk := mkV_at s.length (by omega)
  simp only [A10, run_mk, lngV_str, mk, s1, SX, Opd.ev, resVal, resVals, ARes.val, Bool.false_eq_true, Bool.not_false, Bool.not_true, List.getD_cons_succ, List.getD_cons_zero, List.map_cons, List.map_nil, Nat.add_zero, Nat.zero_add, Option.map_none, Option.map_some, Option.some.injEq, and_true, decide_false, decide_true, true_and, reduceCtorEq, Nat.reduceEqDiff, ↓reduceIte, Int.reduceEq, Int.reduceLT, Int.reduceLE, Nat.reduceAdd]
  obtain ⟨I, hI⟩ : ∃ I : Nat → Env → AHeap → Prop, ∀ m e H', I m e H' ↔ (∃ i : Nat, m = s.length - i ∧ i ≤ s.length ∧ Hp H.next H' [⟨H.next, 1, ofBytes (pasteP (s.take i)) ++ List.replicate (s.length - (pasteP (s.take i)).length) (.int .u8 0)⟩] ∧ Keep H.next H H' ∧ (pasteP (s.take i)).length ≤ i ∧
      Env.get e 0 = .str s ∧ Env.get e 1 = .bool b ∧ Env.get e 5 = .slc H.next 0 (pasteP (s.take i)).length s.length ∧ Env.get e 12 = .int .i64 s.length ∧ Env.get e 13 = .int .i64 i) := ⟨_, fun _ _ _ => Iff.rfl⟩
  refine loop_by I s.length ?_ ?_
  · refine (hI _ _ _).2 ⟨0, rfl, by omega, by simpa [pasteP, ofBytes] using h1, k1, by simp [pasteP], ?_⟩
    simp only [pasteP, List.take_zero, List.filterMap_nil, List.length_nil, SX, Opd.ev, resVal, resVals, ARes.val, Bool.false_eq_true, Bool.not_false, Bool.not_true, List.getD_cons_succ, List.getD_cons_zero, List.map_cons, List.map_nil, Nat.add_zero, Nat.zero_add, Option.map_none, Option.map_some, Option.some.injEq, and_true, decide_false, decide_true, true_and, reduceCtorEq, Nat.reduceEqDiff, ↓reduceIte, Int.reduceEq, Int.reduceLT, Int.reduceLE, Nat.reduceAdd]
    rfl
  · intro m e H2 hinv
    obtain ⟨i, rfl, hi, hp, k2, hle, e0, e1, e5, e12, e13⟩ := (hI _ _ _).1 hinv
    by_cases d : (i : Int) < s.length
    · obtain ⟨c, hc⟩ : ∃ c, s[i]? = some c := ⟨_, List.getElem?_eq_getElem (by omega)⟩
      have xi := idxStr_at hc .i64
      have w1 : IntKind.wrap .i64 ((i : Int) + 1) = ((i + 1 : Nat) : Int) := by rw [wrapI64 (by omega) (by omega)]; rfl
      have pn := paste_next hc
      have stay : keepP c = Option.none → ∀ e', Env.get e' 0 = .str s → Env.get e' 1 = .bool b → Env.get e' 5 = .slc H.next 0 (pasteP (s.take i)).length s.length → Env.get e' 12 = .int .i64 s.length → Env.get e' 13 = .int .i64 ((i + 1 : Nat) : Int) → ∃ m', m' < s.length - i ∧ I m' e' H2 := by
        intro hk e' a0 a1 a5 a12 a13
        rw [hk] at pn
        simp only [Option.toList_none, List.append_nil] at pn
        exact ⟨s.length - (i + 1), by omega, (hI _ _ _).2 ⟨i + 1, rfl, by omega, by rw [pn]; exact hp, k2, by rw [pn]; omega, a0, a1, by rw [pn]; exact a5, a12, a13⟩⟩
      have push : ∀ (x : UInt8) (v : Int), v = x.toNat → keepP c = some x → ∃ H3 H4, H2.alloc (.row ⟨[.int .u8 v], 0, false, true, 0⟩) = H3 ∧ appendTE 5 H3 1 1 (.slc H.next 0 (pasteP (s.take i)).length s.length) (.slc H2.next 0 1 1) = some (.slc H.next 0 ((pasteP (s.take i)).length + 1) s.length, H4) ∧
          ∀ e', Env.get e' 0 = .str s → Env.get e' 1 = .bool b → Env.get e' 5 = .slc H.next 0 ((pasteP (s.take i)).length + 1) s.length → Env.get e' 12 = .int .i64 s.length → Env.get e' 13 = .int .i64 ((i + 1 : Nat) : Int) → ∃ m', m' < s.length - i ∧ I m' e' H4 := by
        intro x v hv hk
        obtain ⟨H3, H4, q1, q2, q3, q4⟩ := hp.pushIn (n := s.length) (by omega) (by omega) hv
        refine ⟨H3, H4, q1, q2, fun e' a0 a1 a5 a12 a13 => ?_⟩
        rw [hk] at pn
        simp only [Option.toList_some] at pn
        have hl : (pasteP (s.take (i + 1))).length = (pasteP (s.take i)).length + 1 := by rw [pn]; simp
        exact ⟨s.length - (i + 1), by omega, (hI _ _ _).2 ⟨i + 1, rfl, by omega, by rw [pn, show s.length - (pasteP (s.take i) ++ [x]).length = s.length - (pasteP (s.take i)).length - 1 by simp; omega]; exact q3, k2.trans q4, by omega, a0, a1, by rw [hl]; exact a5, a12, a13⟩⟩
      have hk : keepP c = bif decide ((c.toNat : Int) = 10) then some 13 else bif (decide ((32 : Int) ≤ c.toNat) && !decide ((c.toNat : Int) = 127)) || decide ((c.toNat : Int) = 9) || decide ((c.toNat : Int) = 13) then some c else Option.none := rfl
      obtain ⟨p10, d10⟩ : ∃ p, decide ((c.toNat : Int) = 10) = p := ⟨_, rfl⟩
      obtain ⟨p32, d32⟩ : ∃ p, decide ((32 : Int) ≤ c.toNat) = p := ⟨_, rfl⟩
      obtain ⟨p127, d127⟩ : ∃ p, decide ((c.toNat : Int) = 127) = p := ⟨_, rfl⟩
      obtain ⟨p9, d9⟩ : ∃ p, decide ((c.toNat : Int) = 9) = p := ⟨_, rfl⟩
      obtain ⟨p13, d13⟩ : ∃ p, decide ((c.toNat : Int) = 13) = p := ⟨_, rfl⟩
      rw [d10, d32, d127, d9, d13] at hk
      cases p10
      · have hk2 : ((p32 && !p127) || p9 || p13) = true ∨ ((p32 && !p127) || p9 || p13) = false := by cases ((p32 && !p127) || p9 || p13) <;> simp
        rcases hk2 with hk2 | hk2
        · rw [hk2] at hk
          obtain ⟨H3, H4, q1, q2, q3⟩ := push c _ rfl hk
          cases p32 <;> cases p127 <;> cases p9 <;> cases p13 <;> first
            | (simp at hk2; done)
            | (simp only [e0, e1, e5, e12, e13, d, xi, d10, d32, d127, d9, d13, wantV_undef, q1, wp_appendT, q2, w1, SX, Opd.ev, resVal, resVals, ARes.val, Bool.false_eq_true, Bool.not_false, Bool.not_true, List.getD_cons_succ, List.getD_cons_zero, List.map_cons, List.map_nil, Nat.add_zero, Nat.zero_add, Option.map_none, Option.map_some, Option.some.injEq, and_true, decide_false, decide_true, true_and, reduceCtorEq, Nat.reduceEqDiff, ↓reduceIte, Int.reduceEq, Int.reduceLT, Int.reduceLE, Nat.reduceAdd]
               exact q3 _ (by simp only [SX, Opd.ev, resVal, resVals, ARes.val, Bool.false_eq_true, Bool.not_false, Bool.not_true, List.getD_cons_succ, List.getD_cons_zero, List.map_cons, List.map_nil, Nat.add_zero, Nat.zero_add, Option.map_none, Option.map_some, Option.some.injEq, and_true, decide_false, decide_true, true_and, reduceCtorEq, Nat.reduceEqDiff, ↓reduceIte, Int.reduceEq, Int.reduceLT, Int.reduceLE, Nat.reduceAdd, e0]) (by simp only [SX, Opd.ev, resVal, resVals, ARes.val, Bool.false_eq_true, Bool.not_false, Bool.not_true, List.getD_cons_succ, List.getD_cons_zero, List.map_cons, List.map_nil, Nat.add_zero, Nat.zero_add, Option.map_none, Option.map_some, Option.some.injEq, and_true, decide_false, decide_true, true_and, reduceCtorEq, Nat.reduceEqDiff, ↓reduceIte, Int.reduceEq, Int.reduceLT, Int.reduceLE, Nat.reduceAdd, e1]) (by simp only [SX, Opd.ev, resVal, resVals, ARes.val, Bool.false_eq_true, Bool.not_false, Bool.not_true, List.getD_cons_succ, List.getD_cons_zero, List.map_cons, List.map_nil, Nat.add_zero, Nat.zero_add, Option.map_none, Option.map_some, Option.some.injEq, and_true, decide_false, decide_true, true_and, reduceCtorEq, Nat.reduceEqDiff, ↓reduceIte, Int.reduceEq, Int.reduceLT, Int.reduceLE, Nat.reduceAdd]) (by simp only [SX, Opd.ev, resVal, resVals, ARes.val, Bool.false_eq_true, Bool.not_false, Bool.not_true, List.getD_cons_succ, List.getD_cons_zero, List.map_cons, List.map_nil, Nat.add_zero, Nat.zero_add, Option.map_none, Option.map_some, Option.some.injEq, and_true, decide_false, decide_true, true_and, reduceCtorEq, Nat.reduceEqDiff, ↓reduceIte, Int.reduceEq, Int.reduceLT, Int.reduceLE, Nat.reduceAdd, e12]) (by simp only [SX, Opd.ev, resVal, resVals, ARes.val, Bool.false_eq_true, Bool.not_false, Bool.not_true, List.getD_cons_succ, List.getD_cons_zero, List.map_cons, List.map_nil, Nat.add_zero, Nat.zero_add, Option.map_none, Option.map_some, Option.some.injEq, and_true, decide_false, decide_true, true_and, reduceCtorEq, Nat.reduceEqDiff, ↓reduceIte, Int.reduceEq, Int.reduceLT, Int.reduceLE, Nat.reduceAdd]))
        · rw [hk2] at hk
          cases p32 <;> cases p127 <;> cases p9 <;> cases p13 <;> first
            | (simp at hk2; done)
            | (simp only [e0, e1, e5, e12, e13, d, xi, d10, d32, d127, d9, d13, wantV_undef, w1, SX, Opd.ev, resVal, resVals, ARes.val, Bool.false_eq_true, Bool.not_false, Bool.not_true, List.getD_cons_succ, List.getD_cons_zero, List.map_cons, List.map_nil, Nat.add_zero, Nat.zero_add, Option.map_none, Option.map_some, Option.some.injEq, and_true, decide_false, decide_true, true_and, reduceCtorEq, Nat.reduceEqDiff, ↓reduceIte, Int.reduceEq, Int.reduceLT, Int.reduceLE, Nat.reduceAdd]
               exact stay hk _ (by simp only [SX, Opd.ev, resVal, resVals, ARes.val, Bool.false_eq_true, Bool.not_false, Bool.not_true, List.getD_cons_succ, List.getD_cons_zero, List.map_cons, List.map_nil, Nat.add_zero, Nat.zero_add, Option.map_none, Option.map_some, Option.some.injEq, and_true, decide_false, decide_true, true_and, reduceCtorEq, Nat.reduceEqDiff, ↓reduceIte, Int.reduceEq, Int.reduceLT, Int.reduceLE, Nat.reduceAdd, e0]) (by simp only [SX, Opd.ev, resVal, resVals, ARes.val, Bool.false_eq_true, Bool.not_false, Bool.not_true, List.getD_cons_succ, List.getD_cons_zero, List.map_cons, List.map_nil, Nat.add_zero, Nat.zero_add, Option.map_none, Option.map_some, Option.some.injEq, and_true, decide_false, decide_true, true_and, reduceCtorEq, Nat.reduceEqDiff, ↓reduceIte, Int.reduceEq, Int.reduceLT, Int.reduceLE, Nat.reduceAdd, e1]) (by simp only [SX, Opd.ev, resVal, resVals, ARes.val, Bool.false_eq_true, Bool.not_false, Bool.not_true, List.getD_cons_succ, List.getD_cons_zero, List.map_cons, List.map_nil, Nat.add_zero, Nat.zero_add, Option.map_none, Option.map_some, Option.some.injEq, and_true, decide_false, decide_true, true_and, reduceCtorEq, Nat.reduceEqDiff, ↓reduceIte, Int.reduceEq, Int.reduceLT, Int.reduceLE, Nat.reduceAdd, e5]) (by simp only [SX, Opd.ev, resVal, resVals, ARes.val, Bool.false_eq_true, Bool.not_false, Bool.not_true, List.getD_cons_succ, List.getD_cons_zero, List.map_cons, List.map_nil, Nat.add_zero, Nat.zero_add, Option.map_none, Option.map_some, Option.some.injEq, and_true, decide_false, decide_true, true_and, reduceCtorEq, Nat.reduceEqDiff, ↓reduceIte, Int.reduceEq, Int.reduceLT, Int.reduceLE, Nat.reduceAdd, e12]) (by simp only [SX, Opd.ev, resVal, resVals, ARes.val, Bool.false_eq_true, Bool.not_false, Bool.not_true, List.getD_cons_succ, List.getD_cons_zero, List.map_cons, List.map_nil, Nat.add_zero, Nat.zero_add, Option.map_none, Option.map_some, Option.some.injEq, and_true, decide_false, decide_true, true_and, reduceCtorEq, Nat.reduceEqDiff, ↓reduceIte, Int.reduceEq, Int.reduceLT, Int.reduceLE, Nat.reduceAdd]))
      · obtain ⟨H3, H4, q1, q2, q3⟩ := push 13 13 rfl hk
        simp only [e0, e1, e5, e12, e13, d, xi, d10, wantV_undef, q1, wp_appendT, q2, w1, SX, Opd.ev, resVal, resVals, ARes.val, Bool.false_eq_true, Bool.not_false, Bool.not_true, List.getD_cons_succ, List.getD_cons_zero, List.map_cons, List.map_nil, Nat.add_zero, Nat.zero_add, Option.map_none, Option.map_some, Option.some.injEq, and_true, decide_false, decide_true, true_and, reduceCtorEq, Nat.reduceEqDiff, ↓reduceIte, Int.reduceEq, Int.reduceLT, Int.reduceLE, Nat.reduceAdd]
        exact q3 _ (by simp only [SX, Opd.ev, resVal, resVals, ARes.val, Bool.false_eq_true, Bool.not_false, Bool.not_true, List.getD_cons_succ, List.getD_cons_zero, List.map_cons, List.map_nil, Nat.add_zero, Nat.zero_add, Option.map_none, Option.map_some, Option.some.injEq, and_true, decide_false, decide_true, true_and, reduceCtorEq, Nat.reduceEqDiff, ↓reduceIte, Int.reduceEq, Int.reduceLT, Int.reduceLE, Nat.reduceAdd, e0]) (by simp only [SX, Opd.ev, resVal, resVals, ARes.val, Bool.false_eq_true, Bool.not_false, Bool.not_true, List.getD_cons_succ, List.getD_cons_zero, List.map_cons, List.map_nil, Nat.add_zero, Nat.zero_add, Option.map_none, Option.map_some, Option.some.injEq, and_true, decide_false, decide_true, true_and, reduceCtorEq, Nat.reduceEqDiff, ↓reduceIte, Int.reduceEq, Int.reduceLT, Int.reduceLE, Nat.reduceAdd, e1]) (by simp only [SX, Opd.ev, resVal, resVals, ARes.val, Bool.false_eq_true, Bool.not_false, Bool.not_true, List.getD_cons_succ, List.getD_cons_zero, List.map_cons, List.map_nil, Nat.add_zero, Nat.zero_add, Option.map_none, Option.map_some, Option.some.injEq, and_true, decide_false, decide_true, true_and, reduceCtorEq, Nat.reduceEqDiff, ↓reduceIte, Int.reduceEq, Int.reduceLT, Int.reduceLE, Nat.reduceAdd]) (by simp only [SX, Opd.ev, resVal, resVals, ARes.val, Bool.false_eq_true, Bool.not_false, Bool.not_true, List.getD_cons_succ, List.getD_cons_zero, List.map_cons, List.map_nil, Nat.add_zero, Nat.zero_add, Option.map_none, Option.map_some, Option.some.injEq, and_true, decide_false, decide_true, true_and, reduceCtorEq, Nat.reduceEqDiff, ↓reduceIte, Int.reduceEq, Int.reduceLT, Int.reduceLE, Nat.reduceAdd, e12]) (by simp only [SX, Opd.ev, resVal, resVals, ARes.val, Bool.false_eq_true, Bool.not_false, Bool.not_true, List.getD_cons_succ, List.getD_cons_zero, List.map_cons, List.map_nil, Nat.add_zero, Nat.zero_add, Option.map_none, Option.map_some, Option.some.injEq, and_true, decide_false, decide_true, true_and, reduceCtorEq, Nat.reduceEqDiff, ↓reduceIte, Int.reduceEq, Int.reduceLT, Int.reduceLE, Nat.reduceAdd])
    · obtain rfl : i = s.length := by omega
      rw [List.take_length] at hp hle e5
      have st := hp.strA (cap := s.length) (List.mem_cons_self ..) rfl
      have hb1 : binV .add (.str [27, 91, 50, 48, 48, 126]) (.str (pasteP s)) = some (.str (br0 ++ pasteP s)) := bin_adds _ _ (by simp; omega)
      have hb2 : binV .add (.str (br0 ++ pasteP s)) (.str [27, 91, 50, 48, 49, 126]) = some (.str (br0 ++ pasteP s ++ br1)) := bin_adds _ _ (by simp [br0]; omega)
      have g := hp.gr k2
      cases b
      · simp only [e0, e1, e5, e12, e13, d, st, resVal, resVals, ARes.val, SX, Opd.ev, resVal, resVals, ARes.val, Bool.false_eq_true, Bool.not_false, Bool.not_true, List.getD_cons_succ, List.getD_cons_zero, List.map_cons, List.map_nil, Nat.add_zero, Nat.zero_add, Option.map_none, Option.map_some, Option.some.injEq, and_true, decide_false, decide_true, true_and, reduceCtorEq, Nat.reduceEqDiff, ↓reduceIte, Int.reduceEq, Int.reduceLT, Int.reduceLE, Nat.reduceAdd]
        exact ⟨rfl, g⟩
      · simp only [e0, e1, e5, e12, e13, d, st, hb1, hb2, resVal, resVals, ARes.val, SX, Opd.ev, resVal, resVals, ARes.val, Bool.false_eq_true, Bool.not_false, Bool.not_true, List.getD_cons_succ, List.getD_cons_zero, List.map_cons, List.map_nil, Nat.add_zero, Nat.zero_add, Option.map_none, Option.map_some, Option.some.injEq, and_true, decide_false, decide_true, true_and, reduceCtorEq, Nat.reduceEqDiff, ↓reduceIte, Int.reduceEq, Int.reduceLT, Int.reduceLE, Nat.reduceAdd]
        exact ⟨rfl, g⟩
end
end Go.Proofs.YtdokbjneohnoeaaGreatDoor.AM
