/-
  What attributes do, by the program and by the document: walked on the abstract machine, and shown to be one.
-/
import Derived.Test.YtcfjjeipdacbcaaDoorAmSl
import Derived.Test.YtcfjjeipdacbcaaDoorCode
import Derived.Test.YtcfjjeipdacbcaaDoorLaid
set_option linter.unusedVariables false
set_option linter.unusedSimpArgs false
namespace Go.Proofs.YtcfjjeipdacbcaaDoor.AM
open Go
structure AtQ (Q : Prog) : Prop where
  q15 : Q.fns 15 = some A15
  q18 : Q.fns 18 = some A18
  q19 : Q.fns 19 = some A19
  q20 : Q.fns 20 = some A20
  q21 : Q.fns 21 = some A21
  q29 : Q.fns 29 = some A29
  q30 : Q.fns 30 = some A30
  q31 : Q.fns 31 = some A31
  q32 : Q.fns 32 = some A32
  q34 : Q.fns 34 = some A34
  q35 : Q.fns 35 = some A35
  q36 : Q.fns 36 = some A36
  q37 : Q.fns 37 = some A37
  q38 : Q.fns 38 = some A38
  q39 : Q.fns 39 = some A39
  q48 : Q.fns 48 = some A48
  q50 : Q.fns 50 = some A50
  ho : ∀ f, (Nat.beq f 16 || Nat.beq f 11) = false → ∀ a, Q.orc f a = Option.none
theorem resNil (e : Env) (H : AHeap) : resVal e H [] = some (.tup []) := rfl
theorem ex0 (a b : AV) : extractV 0 (.tup [a, b]) = some a := rfl
theorem ex1 (a b : AV) : extractV 1 (.tup [a, b]) = some b := rfl
theorem ex30 (a b c : AV) : extractV 0 (.tup [a, b, c]) = some a := rfl
theorem ex31 (a b c : AV) : extractV 1 (.tup [a, b, c]) = some b := rfl
theorem ex32 (a b c : AV) : extractV 2 (.tup [a, b, c]) = some c := rfl
theorem wantV_undef (b : Bool) : wantV .undef b = false := rfl
abbrev ints (l : List Int) : List AV := l.map (.int .i64)
/-- an own list of numbers -/
def OwnI (base : Nat) (H : AHeap) (v : AV) (l : List Int) (rest : List Cel) : Prop :=
  (l = [] ∧ v = .nils ∧ Hp base H rest) ∨ ∃ b, v = .slc b 0 l.length l.length ∧ Hp base H (⟨b, 1, ints l⟩ :: rest)
theorem OwnI.isS {base : Nat} {H : AHeap} {v : AV} {l : List Int} {rest : List Cel} (h : OwnI base H v l rest) : IsS IsI H v l := by
  rcases h with ⟨rfl, rfl, _⟩ | ⟨b, rfl, h⟩
  · exact .inl ⟨rfl, rfl⟩
  · exact h.isS (List.mem_cons_self ..) (Nat.le_refl _) fun i x hx => ⟨_, by rw [List.getElem?_map, hx]; rfl, rfl⟩
theorem OwnI.hp {base : Nat} {H : AHeap} {v : AV} {l : List Int} {rest : List Cel} (h : OwnI base H v l rest) : Hp base H rest := by
  rcases h with ⟨_, _, h⟩ | ⟨b, _, h⟩
  · exact h
  · exact h.drop
theorem OwnI.push {base : Nat} {H : AHeap} {v : AV} {l : List Int} {rest : List Cel} (h : OwnI base H v l rest) (hl : l.length ≤ 1000000) (x : Int) :
    ∃ H1 H2 w, H.alloc (.row ⟨[.int .i64 x], 0, false, true⟩) = H1 ∧ appendE H1 1 8 v (.slc H.next 0 1 1) = some (w, H2) ∧ OwnI base H2 w (l ++ [x]) rest ∧ Keep base H H2 := by
  obtain ⟨H1, s1, h1, k1⟩ := h.hp.make [.int .i64 x] 1
  rcases h with ⟨rfl, rfl, h⟩ | ⟨b, rfl, h⟩
  · obtain ⟨B, r1, c1⟩ := h1.rowOf (cs := [.int .i64 x]) (List.mem_cons_self ..)
    obtain ⟨H2, s2, h2, k2⟩ := h1.append0 (bytes := 8) (o2 := 0) (c2 := 1) (v := .int .i64 x) r1 (by rw [c1]; rfl) rfl (by omega) (by omega)
    exact ⟨H1, H2, _, s1, s2, .inr ⟨H1.next, rfl, h2.swap.drop⟩, k1.trans k2⟩
  · obtain ⟨H1', s1', h1', k1'⟩ := h.make [.int .i64 x] 1
    obtain rfl := s1.symm.trans s1'
    obtain ⟨B, r1, c1⟩ := h1'.rowOf (cs := [.int .i64 x]) (List.mem_cons_self ..)
    obtain ⟨H2, s2, h2, k2⟩ := (Hp.swap h1').append1 (bytes := 8) (o2 := 0) (c2 := 1) (v := .int .i64 x) (n := l.length) (by simp) r1 (by rw [c1]; rfl) rfl (by omega) (by omega)
    refine ⟨H1, H2, _, s1, s2, .inr ⟨H1.next, by simp, ?_⟩, k1.trans k2⟩
    have e : ints (l ++ [x]) = ints l ++ [.int .i64 x] := by simp
    rw [e]
    exact h2.swap.drop
/-- a list of lists, for reading -/
abbrev IsL (H : AHeap) (v : AV) (L : List (List Int)) : Prop := IsS IsIs H v L
theorem IsL.grow {H H' : AHeap} {v : AV} {L : List (List Int)} (h : IsL H v L) (hf : Fr H) (g : Gr H H') : IsL H' v L := IsS.grow h (fun x c hx => IsIs.grow hf g x c hx) hf g
def fst0 (p : List Int) : Int := p.headD 0
section
variable {Q : Prog} (aq : AtQ Q) {H : AHeap}
include aq
set_option maxHeartbeats 4000000 in
theorem firsts_spec {v : AV} {L : List (List Int)} (hv : IsL H v L) (hL : L.length ≤ 100000) (hf : Fr H) : FnTo Q 29 [v] H (fun r H' => OwnI H.next H' r (L.map fst0) [] ∧ Gr H H') := by
  refine fn_wp (aq.ho 29 rfl _) aq.q29 (by simp [A29]) ?_
  have lv := hv.len
  simp only [A29, lv, SX, Opd.ev, resVal, resVals, ARes.val, Bool.false_eq_true, Bool.not_false, Bool.not_true, List.getD_cons_succ, List.getD_cons_zero, List.map_cons, List.map_nil, Nat.add_zero, Nat.zero_add, Option.map_none, Option.map_some, Option.some.injEq, and_true, decide_false, decide_true, true_and, reduceCtorEq, Nat.reduceEqDiff, ↓reduceIte, Int.reduceEq, Int.reduceLT, Int.reduceLE, Nat.reduceAdd]
  obtain ⟨I, hI⟩ : ∃ I : Nat → Env → AHeap → Prop, ∀ m e H', I m e H' ↔ (Gr H H' ∧ ∃ (i : Nat) (w : AV), m = L.length - i ∧ i ≤ L.length ∧ OwnI H.next H' w ((L.take i).map fst0) [] ∧ Env.get e 3 = w ∧ Env.get e 7 = v ∧ Env.get e 8 = .int .i64 L.length ∧ Env.get e 9 = .int .i64 i) := ⟨_, fun _ _ _ => Iff.rfl⟩
  refine loop_by I L.length ?_ ?_
  · refine (hI _ _ _).2 ⟨Gr.refl hf, 0, .nils, rfl, by omega, .inl ⟨rfl, rfl, Hp.nil H hf⟩, ?_⟩
    simp only [SX, Opd.ev, resVal, resVals, ARes.val, Bool.false_eq_true, Bool.not_false, Bool.not_true, List.getD_cons_succ, List.getD_cons_zero, List.map_cons, List.map_nil, Nat.add_zero, Nat.zero_add, Option.map_none, Option.map_some, Option.some.injEq, and_true, decide_false, decide_true, true_and, reduceCtorEq, Nat.reduceEqDiff, ↓reduceIte, Int.reduceEq, Int.reduceLT, Int.reduceLE, Nat.reduceAdd]; rfl
  · intro m e H1 hinv
    obtain ⟨g1, i, w, rfl, hi, own, e3, e7, e8, e9⟩ := (hI _ _ _).1 hinv
    by_cases d : (i : Int) < L.length
    · obtain ⟨p, hp⟩ : ∃ p, L[i]? = some p := ⟨_, List.getElem?_eq_getElem (by omega)⟩
      have hv1 := hv.grow hf g1
      have xi := hv1.at (i := (i : Int)) (by omega) (by omega) .i64
      obtain ⟨c, lc, hc⟩ := hv1.get (i := (i : Int)) (a := p) (by simpa using hp)
      have lp := IsS.len hc
      have w1 : IntKind.wrap .i64 ((i : Int) + 1) = ((i + 1 : Nat) : Int) := by rw [wrapI64 (by omega) (by omega)]; rfl
      have htk : ∀ x, fst0 p = x → (L.take (i + 1)).map fst0 = (L.take i).map fst0 ++ [x] := fun x hx => by rw [List.take_add_one, hp, ← hx]; simp
      have hlen : ((L.take i).map fst0).length ≤ 1000000 := by simp; omega
      have fin : ∀ (x : Int) (H2 : AHeap) (w2 : AV) (e' : Env), fst0 p = x → Keep H.next H1 H2 → OwnI H.next H2 w2 ((L.take i).map fst0 ++ [x]) [] → (Env.get e' 3 = w2 ∧ Env.get e' 7 = v ∧ Env.get e' 8 = .int .i64 L.length ∧ Env.get e' 9 = .int .i64 ((i + 1 : Nat) : Int)) → ∃ m', m' < L.length - i ∧ I m' e' H2 := by
        intro x H2 w2 e' hx k2 own2 he
        exact ⟨L.length - (i + 1), by omega, (hI _ _ _).2 ⟨own2.hp.gr (g1.keep.trans k2), i + 1, w2, rfl, by omega, by rw [htk x hx]; exact own2, he⟩⟩
      cases p with
      | nil =>
        obtain ⟨H2, H3, w2, s2, s3, own2, k2⟩ := own.push hlen 0
        have d0 : decide ((0 : Int) < (([] : List Int).length : Nat)) = false := rfl
        simp only [e3, e7, e8, e9, d, xi, lc, lp, d0, s2, s3, w1, SX, Opd.ev, resVal, resVals, ARes.val, Bool.false_eq_true, Bool.not_false, Bool.not_true, List.getD_cons_succ, List.getD_cons_zero, List.map_cons, List.map_nil, Nat.add_zero, Nat.zero_add, Option.map_none, Option.map_some, Option.some.injEq, and_true, decide_false, decide_true, true_and, reduceCtorEq, Nat.reduceEqDiff, ↓reduceIte, Int.reduceEq, Int.reduceLT, Int.reduceLE, Nat.reduceAdd]
        refine fin 0 _ _ _ rfl k2 own2 ?_
        simp only [e3, e7, e8, e9, SX, Opd.ev, resVal, resVals, ARes.val, Bool.false_eq_true, Bool.not_false, Bool.not_true, List.getD_cons_succ, List.getD_cons_zero, List.map_cons, List.map_nil, Nat.add_zero, Nat.zero_add, Option.map_none, Option.map_some, Option.some.injEq, and_true, decide_false, decide_true, true_and, reduceCtorEq, Nat.reduceEqDiff, ↓reduceIte, Int.reduceEq, Int.reduceLT, Int.reduceLE, Nat.reduceAdd]
      | cons a p =>
        obtain ⟨H2, H3, w2, s2, s3, own2, k2⟩ := own.push hlen a
        have d0 : decide ((0 : Int) < ((a :: p).length : Nat)) = true := by simp
        have x0 := IsS.at hc (i := 0) (by omega) (by simp) .i64
        have l0 := IsS.int hc (i := 0) (a := a) rfl
        simp only [e3, e7, e8, e9, d, xi, lc, lp, d0, x0, l0, s2, s3, w1, SX, Opd.ev, resVal, resVals, ARes.val, Bool.false_eq_true, Bool.not_false, Bool.not_true, List.getD_cons_succ, List.getD_cons_zero, List.map_cons, List.map_nil, Nat.add_zero, Nat.zero_add, Option.map_none, Option.map_some, Option.some.injEq, and_true, decide_false, decide_true, true_and, reduceCtorEq, Nat.reduceEqDiff, ↓reduceIte, Int.reduceEq, Int.reduceLT, Int.reduceLE, Nat.reduceAdd]
        refine fin a _ _ _ rfl k2 own2 ?_
        simp only [e3, e7, e8, e9, SX, Opd.ev, resVal, resVals, ARes.val, Bool.false_eq_true, Bool.not_false, Bool.not_true, List.getD_cons_succ, List.getD_cons_zero, List.map_cons, List.map_nil, Nat.add_zero, Nat.zero_add, Option.map_none, Option.map_some, Option.some.injEq, and_true, decide_false, decide_true, true_and, reduceCtorEq, Nat.reduceEqDiff, ↓reduceIte, Int.reduceEq, Int.reduceLT, Int.reduceLE, Nat.reduceAdd]
    · simp only [e3, e7, e8, e9, d, SX, Opd.ev, resVal, resVals, ARes.val, Bool.false_eq_true, Bool.not_false, Bool.not_true, List.getD_cons_succ, List.getD_cons_zero, List.map_cons, List.map_nil, Nat.add_zero, Nat.zero_add, Option.map_none, Option.map_some, Option.some.injEq, and_true, decide_false, decide_true, true_and, reduceCtorEq, Nat.reduceEqDiff, ↓reduceIte, Int.reduceEq, Int.reduceLT, Int.reduceLE, Nat.reduceAdd]
      rw [List.take_of_length_le (by omega)] at own
      exact ⟨own, g1⟩
end
def wantN (a : Int) : Nat := if a = 5 then 2 else if a = 2 then 4 else 0
def inB (n : Int) : Prop := 0 ≤ n ∧ n ≤ 255
instance (n : Int) : Decidable (inB n) := inferInstanceAs (Decidable (_ ∧ _))
def acc8 (xs : List Int) : Int := xs.foldl (fun N n => N * 256 + n) 0
/-- a color, and whether there is one -/
structure Co where
  k : Int
  n : Int
  ok : Bool
def Co.no : Co := ⟨0, 0, false⟩
def paintP : List Int → Co
  | [] => Co.no
  | a :: t => if wantN a = 0 ∨ (a :: t).length < wantN a then Co.no else if ∀ x ∈ t.take (wantN a - 1), inB x then ⟨if a = 2 then 2 else 1, acc8 (t.take (wantN a - 1)), true⟩ else Co.no
def colM : List (AV × AV) := [(.int .i64 5, .int .i64 2), (.int .i64 2, .int .i64 4)]
theorem paintP_cons (a : Int) (t : List Int) : paintP (a :: t) = if wantN a = 0 ∨ (a :: t).length < wantN a then Co.no else if ∀ x ∈ t.take (wantN a - 1), inB x then ⟨if a = 2 then 2 else 1, acc8 (t.take (wantN a - 1)), true⟩ else Co.no := rfl
theorem upd0 {H : AHeap} {m : Nat} (h : H.get m = some (.map [])) : mapUpdE H 1 (.map m) (.int .i64 5) (.int .i64 2) = some (.undef, H.set m (.map [(.int .i64 5, .int .i64 2)])) := by
  simp [mapUpdE, EOp.run, Opd.ev, h, isKind, findKey]
theorem upd1 {H : AHeap} {m : Nat} (h : H.get m = some (.map [(.int .i64 5, .int .i64 2)])) : mapUpdE H 1 (.map m) (.int .i64 2) (.int .i64 4) = some (.undef, H.set m (.map colM)) := by
  simp [mapUpdE, EOp.run, Opd.ev, h, isKind, findKey, keyEq, colM]
theorem look {H : AHeap} {m : Nat} (h : H.get m = some (.map colM)) (a : Int) : lookupV H 1 [.int .i64 0] false (.map m) (.int .i64 a) false = some (.int .i64 (wantN a : Int)) := by
  simp only [lookupV, ROp.run, Opd.ev, isKind, mapOf, h, colM, findKey, keyEq, if_true, Bool.not_true, Bool.false_eq_true, if_false]
  by_cases h5 : a = 5
  · subst h5; rfl
  · have e5 : (a == 5) = false := by simpa using h5
    by_cases h2 : a = 2
    · subst h2; rfl
    · have e2 : (a == 2) = false := by simpa using h2
      simp only [e5, e2, wantN, if_neg h5, if_neg h2]
      rfl
theorem wrapU32 {x : Int} (h0 : 0 ≤ x) (h1 : x ≤ 4294967295) : IntKind.wrap .u32 x = x := by
  simp only [IntKind.wrap, IntKind.signed, IntKind.bits]
  simp
  omega
theorem shl8 {x : Int} (k : IntKind) : binV .shl (.int .u32 x) (.int k 8) = some (.int .u32 (IntKind.wrap .u32 (x * 256))) := rfl
theorem or8 {x y : Int} (h0 : 0 ≤ x) (h1 : x < 16777216) (h2 : 0 ≤ y) (h3 : y < 256) : binV .or (.int .u32 (x * 256)) (.int .u32 y) = some (.int .u32 (x * 256 + y)) := by
  obtain ⟨n, rfl⟩ : ∃ n : Nat, x = n := ⟨x.toNat, by omega⟩
  obtain ⟨k, rfl⟩ : ∃ k : Nat, y = k := ⟨y.toNat, by omega⟩
  have e1 : (BitVec.ofInt 32 ((n : Int) * 256)).toNat = n * 256 := by
    rw [show (n : Int) * 256 = ((n * 256 : Nat) : Int) by omega, BitVec.ofInt_natCast, BitVec.toNat_ofNat]
    exact Nat.mod_eq_of_lt (by omega)
  have e2 : (BitVec.ofInt 32 (k : Int)).toNat = k := by
    rw [BitVec.ofInt_natCast, BitVec.toNat_ofNat]
    exact Nat.mod_eq_of_lt (by omega)
  have e3 : (n * 256) ||| k = n * 256 + k := by
    have := Nat.two_pow_add_eq_or_of_lt (b := k) (i := 8) (by omega) n
    rw [Nat.mul_comm n 256]
    exact this.symm
  have e : binV .or (.int .u32 ((n : Int) * 256)) (.int .u32 (k : Int)) = some (.int .u32 (IntKind.wrap .u32 (((BitVec.ofInt 32 ((n : Int) * 256) ||| BitVec.ofInt 32 (k : Int)).toNat : Nat) : Int))) := rfl
  rw [e, BitVec.toNat_or, e1, e2, e3, wrapU32 (by omega) (by omega)]
  simp
theorem acc8_le : ∀ {xs : List Int}, (∀ x ∈ xs, inB x) → ∀ {N B : Int}, 0 ≤ N → N < B → 0 ≤ xs.foldl (fun N n => N * 256 + n) N ∧ xs.foldl (fun N n => N * 256 + n) N < B * 256 ^ xs.length
  | [], _, N, B, h0, h1 => by simp; omega
  | x :: xs, h, N, B, h0, h1 => by
    obtain ⟨x0, x1⟩ := h x (List.mem_cons_self ..)
    have := acc8_le (xs := xs) (fun y hy => h y (List.mem_cons_of_mem _ hy)) (N := N * 256 + x) (B := 256 * B) (by omega) (by omega)
    simp only [List.foldl_cons, List.length_cons]
    rw [Int.pow_succ, Int.mul_comm (256 ^ xs.length) 256, ← Int.mul_assoc, Int.mul_comm B 256]
    exact this
def Co.col (c : Co) : AV := .agg [.int .u8 c.k, .int .u32 c.n]
theorem bld2 (k n : Int) : buildV [AV.int .u8 0, .int .u32 0] [(0, 1, .int .u8 k), (1, 1, .int .u32 n)] = some (.agg [.int .u8 k, .int .u32 n]) := rfl
theorem bld1 (k : Int) : buildV [AV.int .u8 0, .int .u32 0] [(0, 1, .int .u8 k)] = some (.agg [.int .u8 k, .int .u32 0]) := rfl
section
variable {Q : Prog} (aq : AtQ Q) {H : AHeap}
include aq
set_option maxHeartbeats 8000000 in
theorem paint_spec {v : AV} {l : List Int} (hv : IsS IsI H v l) (hl : l.length ≤ 1000000) (hf : Fr H) : FnTo Q 48 [v] H (fun r H' => r = .tup [(paintP l).col, .bool (paintP l).ok] ∧ Gr H H') := by
  refine fn_wp (aq.ho 48 rfl _) aq.q48 (by simp [A48]) ?_
  obtain ⟨H1, s1, h1, k1⟩ := (Hp.nil H hf).make [.int .u8 0, .int .u32 0] 2
  obtain ⟨H2, s2, h2, k2, m2, n2⟩ := h1.allocM []
  have u0 := upd0 m2
  obtain ⟨h3, k3, m3⟩ := h2.setM (es := [(.int .i64 5, .int .i64 2)]) m2 h1.bn
  obtain ⟨H3, e3⟩ : ∃ H3, H2.set H1.next (.map [(.int .i64 5, .int .i64 2)]) = H3 := ⟨_, rfl⟩
  rw [e3] at u0 h3 k3 m3
  have u1 := upd1 m3
  obtain ⟨h4, k4, m4⟩ := h3.setM (es := colM) m3 h1.bn
  have nx4 : (H3.set H1.next (.map colM)).next = H1.next + 1 := by rw [AHeap.next_set, ← e3, AHeap.next_set]; exact n2
  obtain ⟨H4, e4⟩ : ∃ H4, H3.set H1.next (.map colM) = H4 := ⟨_, rfl⟩
  rw [e4] at u1 h4 k4 m4 nx4
  have gr4 : Gr H H4 := h4.gr (((k1.trans k2).trans k3).trans k4)
  have hv4 : IsS IsI H4 v l := hv.grow (fun _ _ h => h) hf gr4
  have lv4 := hv4.len
  have fin : ∀ (co : Co) (H' : AHeap) (l' : List Cel), Gr H4 H' → Hp H4.next H' l' → ∃ H'', storeE H' 2 (.ptr H.next 0) co.col = some (.undef, H'') ∧ loadV H'' (some 2) (.ptr H.next 0) = some co.col ∧ Gr H H'' := by
    intro co H' l' g h'
    have hj := (h4.joinG g h').perm List.perm_append_comm
    obtain ⟨H'', s, hh, k, n⟩ := Hp.storeN (l := l') hj (n := 2) (new := [.int .u8 co.k, .int .u32 co.n]) rfl rfl rfl
    exact ⟨H'', s, hh.loadN (List.mem_cons_self ..) rfl, hh.gr ((gr4.keep.trans (g.keep.le gr4.next)).trans k)⟩
  have no0 : AV.agg [.int .u8 0, .int .u32 0] = Co.no.col := rfl
  cases l with
  | nil =>
    obtain ⟨H5, s5, l5, g5⟩ := fin Co.no H4 [] (Gr.refl h4.fr) (Hp.nil H4 h4.fr)
    have d0 : decide ((([] : List Int).length : Int) = 0) = true := rfl
    simp only [A48, run_allocL, run_mkMap, val_map, wp_mapUpd, run_lookup, run_build0, wantV_undef, s1, s2, u0, u1, lv4, d0, no0, s5, l5, resVal, resVals, ARes.val, SX, Opd.ev, resVal, resVals, ARes.val, Bool.false_eq_true, Bool.not_false, Bool.not_true, List.getD_cons_succ, List.getD_cons_zero, List.map_cons, List.map_nil, Nat.add_zero, Nat.zero_add, Option.map_none, Option.map_some, Option.some.injEq, and_true, decide_false, decide_true, true_and, reduceCtorEq, Nat.reduceEqDiff, ↓reduceIte, Int.reduceEq, Int.reduceLT, Int.reduceLE, Nat.reduceAdd]
    exact ⟨rfl, g5⟩
  | cons a t =>
    have x0 := hv4.at (i := 0) (by omega) (by simp) .i64
    have l0 := hv4.int (i := 0) (a := a) rfl
    have lk := look m4 a
    have d0 : decide (((a :: t).length : Int) = 0) = false := by simp only [List.length_cons, decide_eq_false_iff_not]; omega
    by_cases c1 : (a :: t).length < wantN a
    · have hp : paintP (a :: t) = Co.no := by rw [paintP_cons, if_pos (.inr c1)]
      obtain ⟨H5, s5, l5, g5⟩ := fin Co.no H4 [] (Gr.refl h4.fr) (Hp.nil H4 h4.fr)
      have d1 : decide (((a :: t).length : Int) < (wantN a : Int)) = true := by simp only [decide_eq_true_eq]; omega
      simp only [A48, run_allocL, run_mkMap, val_map, wp_mapUpd, run_lookup, run_build0, wantV_undef, s1, s2, u0, u1, lv4, d0, x0, l0, lk, d1, no0, s5, l5, resVal, resVals, ARes.val, SX, Opd.ev, resVal, resVals, ARes.val, Bool.false_eq_true, Bool.not_false, Bool.not_true, List.getD_cons_succ, List.getD_cons_zero, List.map_cons, List.map_nil, Nat.add_zero, Nat.zero_add, Option.map_none, Option.map_some, Option.some.injEq, and_true, decide_false, decide_true, true_and, reduceCtorEq, Nat.reduceEqDiff, ↓reduceIte, Int.reduceEq, Int.reduceLT, Int.reduceLE, Nat.reduceAdd]
      rw [hp]; exact ⟨rfl, g5⟩
    have d1 : decide (((a :: t).length : Int) < (wantN a : Int)) = false := by simp only [decide_eq_false_iff_not]; omega
    by_cases c2 : wantN a = 0
    · have hp : paintP (a :: t) = Co.no := by rw [paintP_cons, if_pos (.inl c2)]
      obtain ⟨H5, s5, l5, g5⟩ := fin Co.no H4 [] (Gr.refl h4.fr) (Hp.nil H4 h4.fr)
      have d2 : decide ((wantN a : Int) = 0) = true := by simp only [decide_eq_true_eq]; omega
      simp only [A48, run_allocL, run_mkMap, val_map, wp_mapUpd, run_lookup, run_build0, wantV_undef, s1, s2, u0, u1, lv4, d0, x0, l0, lk, d1, d2, no0, s5, l5, resVal, resVals, ARes.val, SX, Opd.ev, resVal, resVals, ARes.val, Bool.false_eq_true, Bool.not_false, Bool.not_true, List.getD_cons_succ, List.getD_cons_zero, List.map_cons, List.map_nil, Nat.add_zero, Nat.zero_add, Option.map_none, Option.map_some, Option.some.injEq, and_true, decide_false, decide_true, true_and, reduceCtorEq, Nat.reduceEqDiff, ↓reduceIte, Int.reduceEq, Int.reduceLT, Int.reduceLE, Nat.reduceAdd]
      rw [hp]; exact ⟨rfl, g5⟩
    have d2 : decide ((wantN a : Int) = 0) = false := by simp only [decide_eq_false_iff_not]; omega
    obtain ⟨n, hn⟩ : ∃ n, wantN a = n + 1 := ⟨wantN a - 1, by omega⟩
    have hn3 : n ≤ 3 := by
      have : wantN a ≤ 4 := by unfold wantN; (repeat' split) <;> omega
      omega
    obtain ⟨xs, hxs⟩ : ∃ xs, t.take n = xs := ⟨_, rfl⟩
    have hxl : xs.length = n := by rw [← hxs, List.length_take, Nat.min_eq_left]; simp at c1; omega
    have hpt : paintP (a :: t) = if ∀ x ∈ xs, inB x then ⟨if a = 2 then 2 else 1, acc8 xs, true⟩ else Co.no := by
      rw [paintP_cons, if_neg (fun hh => hh.elim c2 c1), hn, Nat.add_sub_cancel, hxs]
    have b1 := bld1 1
    obtain ⟨H5, s5, h5, k5⟩ := (Hp.nil H4 h4.fr).make [.int .u8 0, .int .u32 0] 2
    obtain ⟨H6, s6, h6, k6, n6⟩ := h5.storeN (n := 2) (new := [.int .u8 1, .int .u32 0]) rfl rfl rfl
    have gr6 : Gr H4 H6 := h6.gr (k5.trans k6)
    have hv6 : IsS IsI H6 v (a :: t) := hv4.grow (fun _ _ h => h) h4.fr gr6
    have x6 := hv6.at (i := 0) (by omega) (by simp) .i64
    have l6 := hv6.int (i := 0) (a := a) rfl
    have rest : ∀ (kk : Int) (H7 : AHeap) (e : Env), kk = (if a = 2 then 2 else 1) → Hp H4.next H7 [⟨H4.next, 2, [.int .u8 kk, .int .u32 0]⟩] → Keep H4.next H4 H7 → Env.get e 0 = v → Env.get e 2 = .ptr H.next 0 → Env.get e 4 = .map H1.next → Env.get e 5 = .ptr H4.next 0 → ACode.wp Q A48_rest (fnK [.cell 2 (some 2), .t 3] (fun r H' => r = .tup [(paintP (a :: t)).col, .bool (paintP (a :: t)).ok] ∧ Gr H H')) e H7 := by
      intro kk H7 e hkk h7 k7 f0 f2 f4 f5
      have gr7 : Gr H4 H7 := h7.gr k7
      have hv7 : IsS IsI H7 v (a :: t) := hv4.grow (fun _ _ h => h) h4.fr gr7
      have x7 := hv7.at (i := 0) (by omega) (by simp) .i64
      have l7 := hv7.int (i := 0) (a := a) rfl
      have lk7 := look (gr7.get h4.fr m4) a
      obtain ⟨w, sc, hw⟩ := hv4.cutG h4.fr gr7 (m := 1) (n := wantN a) (by omega) (by omega) .i64 .i64
      have sc : slSV H7 1 v (some (.int .i64 1)) (some (.int .i64 (wantN a : Int))) = some w := sc
      have hwx : ((a :: t).take (wantN a)).drop 1 = xs := by rw [hn, List.take_succ_cons, List.drop_succ_cons, List.drop_zero, hxs]
      rw [hwx] at hw
      have lw := (hw.grow (fun _ _ h => h) h4.fr gr7 : IsS IsI H7 w xs).len
      simp only [A48_rest, f0, f2, f4, f5, x7, l7, run_lookup, lk7, Option.map_some, sc, lw, SX, Opd.ev, resVal, resVals, ARes.val, Bool.false_eq_true, Bool.not_false, Bool.not_true, List.getD_cons_succ, List.getD_cons_zero, List.map_cons, List.map_nil, Nat.add_zero, Nat.zero_add, Option.map_none, Option.map_some, Option.some.injEq, and_true, decide_false, decide_true, true_and, reduceCtorEq, Nat.reduceEqDiff, ↓reduceIte, Int.reduceEq, Int.reduceLT, Int.reduceLE, Nat.reduceAdd]
      obtain ⟨I, hI⟩ : ∃ I : Nat → Env → AHeap → Prop, ∀ m e H', I m e H' ↔ (Keep H4.next H4 H' ∧ ∃ i : Nat, m = xs.length - i ∧ i ≤ xs.length ∧ Hp H4.next H' [⟨H4.next, 2, [.int .u8 kk, .int .u32 (acc8 (xs.take i))]⟩] ∧ (∀ x ∈ xs.take i, inB x) ∧ Env.get e 2 = .ptr H.next 0 ∧ Env.get e 5 = .ptr H4.next 0 ∧ Env.get e 44 = w ∧ Env.get e 45 = .int .i64 xs.length ∧ Env.get e 46 = .int .i64 i) := ⟨_, fun _ _ _ => Iff.rfl⟩
      refine loop_by I xs.length ?_ ?_
      · refine (hI _ _ _).2 ⟨k7, 0, rfl, by omega, h7, fun x hx => by simp at hx, ?_⟩
        simp only [f2, f5, SX, Opd.ev, resVal, resVals, ARes.val, Bool.false_eq_true, Bool.not_false, Bool.not_true, List.getD_cons_succ, List.getD_cons_zero, List.map_cons, List.map_nil, Nat.add_zero, Nat.zero_add, Option.map_none, Option.map_some, Option.some.injEq, and_true, decide_false, decide_true, true_and, reduceCtorEq, Nat.reduceEqDiff, ↓reduceIte, Int.reduceEq, Int.reduceLT, Int.reduceLE, Nat.reduceAdd]; rfl
      · intro m e H8 hinv
        obtain ⟨k8, i, rfl, hi, h8, hin, g2, g5, g44, g45, g46⟩ := (hI _ _ _).1 hinv
        by_cases d : (i : Int) < xs.length
        · obtain ⟨x, hx⟩ : ∃ x, xs[i]? = some x := ⟨_, List.getElem?_eq_getElem (by omega)⟩
          have hw8 : IsS IsI H8 w xs := hw.grow (fun _ _ h => h) h4.fr (h8.gr k8)
          have xi := hw8.at (i := (i : Int)) (by omega) (by omega) .i64
          have li := hw8.int (i := (i : Int)) (a := x) (by simpa using hx)
          have bad : ¬ inB x → paintP (a :: t) = Co.no := fun hb => by rw [hpt, if_neg (fun hh => hb (hh x (List.mem_of_getElem? hx)))]
          obtain ⟨H9, s9, l9, g9⟩ := fin Co.no H8 _ (h8.gr k8) h8
          by_cases x0 : x < 0
          · simp only [g2, g5, g44, g45, g46, d, xi, li, x0, wantV_undef, run_build0, no0, s9, l9, resVal, resVals, ARes.val, SX, Opd.ev, resVal, resVals, ARes.val, Bool.false_eq_true, Bool.not_false, Bool.not_true, List.getD_cons_succ, List.getD_cons_zero, List.map_cons, List.map_nil, Nat.add_zero, Nat.zero_add, Option.map_none, Option.map_some, Option.some.injEq, and_true, decide_false, decide_true, true_and, reduceCtorEq, Nat.reduceEqDiff, ↓reduceIte, Int.reduceEq, Int.reduceLT, Int.reduceLE, Nat.reduceAdd]
            rw [bad (fun hh => by have := hh.1; omega)]
            exact ⟨rfl, g9⟩
          by_cases x1 : 255 < x
          · have x0' : decide (x < 0) = false := by simpa using x0
            have x1' : decide (255 < x) = true := by simpa using x1
            simp only [g2, g5, g44, g45, g46, d, xi, li, x0', x1', wantV_undef, run_build0, no0, s9, l9, resVal, resVals, ARes.val, SX, Opd.ev, resVal, resVals, ARes.val, Bool.false_eq_true, Bool.not_false, Bool.not_true, List.getD_cons_succ, List.getD_cons_zero, List.map_cons, List.map_nil, Nat.add_zero, Nat.zero_add, Option.map_none, Option.map_some, Option.some.injEq, and_true, decide_false, decide_true, true_and, reduceCtorEq, Nat.reduceEqDiff, ↓reduceIte, Int.reduceEq, Int.reduceLT, Int.reduceLE, Nat.reduceAdd]
            rw [bad (fun hh => by have := hh.2; omega)]
            exact ⟨rfl, g9⟩
          · have x0' : decide (x < 0) = false := by simpa using x0
            have x1' : decide (255 < x) = false := by simpa using x1
            obtain ⟨N, hN⟩ : ∃ N, acc8 (xs.take i) = N := ⟨_, rfl⟩
            have hNb := acc8_le hin (N := 0) (B := 1) (by omega) (by omega)
            have hil : (xs.take i).length = i := by simp; omega
            rw [hil] at hNb
            have hN2 : 0 ≤ N ∧ N < 65536 := by
              rw [← hN]
              have hi2 : i = 0 ∨ i = 1 ∨ i = 2 := by omega
              refine ⟨hNb.1, ?_⟩
              have h2 := hNb.2
              rcases hi2 with rfl | rfl | rfl <;> unfold acc8 <;> omega
            rw [hN] at h8
            have l1 := h8.load (b := H4.next) (k := 2) (List.mem_cons_self ..) (o := 1) (v := .int .u32 N) rfl
            have wN : IntKind.wrap .u32 (N * 256) = N * 256 := wrapU32 (by omega) (by omega)
            have wx : IntKind.wrap .u32 x = x := wrapU32 (by omega) (by omega)
            have or1 := or8 (x := N) (y := x) (by omega) (by omega) (by omega) (by omega)
            obtain ⟨H10, s10, h10, k10, n10⟩ := h8.store (o := 1) (v := .int .u32 (N * 256 + x)) rfl (by simp)
            have w1 : IntKind.wrap .i64 ((i : Int) + 1) = ((i + 1 : Nat) : Int) := by rw [wrapI64 (by omega) (by omega)]; rfl
            simp only [g2, g5, g44, g45, g46, d, xi, li, x0', x1', wantV_undef, l1, shl8, wN, wx, or1, s10, w1, SX, Opd.ev, resVal, resVals, ARes.val, Bool.false_eq_true, Bool.not_false, Bool.not_true, List.getD_cons_succ, List.getD_cons_zero, List.map_cons, List.map_nil, Nat.add_zero, Nat.zero_add, Option.map_none, Option.map_some, Option.some.injEq, and_true, decide_false, decide_true, true_and, reduceCtorEq, Nat.reduceEqDiff, ↓reduceIte, Int.reduceEq, Int.reduceLT, Int.reduceLE, Nat.reduceAdd]
            have hac : acc8 (xs.take (i + 1)) = N * 256 + x := by
              rw [List.take_add_one, hx, ← hN]; simp [acc8]
            refine ⟨xs.length - (i + 1), by omega, (hI _ _ _).2 ⟨k8.trans k10, i + 1, rfl, by omega, by rw [hac]; exact h10, fun y hy => ?_, ?_⟩⟩
            · rw [List.take_add_one, hx] at hy
              rcases List.mem_append.1 hy with hy | hy
              · exact hin y hy
              · simp only [Option.toList_some, List.mem_singleton] at hy
                subst hy; exact ⟨by omega, by omega⟩
            · simp only [g2, g5, g44, g45, g46, SX, Opd.ev, resVal, resVals, ARes.val, Bool.false_eq_true, Bool.not_false, Bool.not_true, List.getD_cons_succ, List.getD_cons_zero, List.map_cons, List.map_nil, Nat.add_zero, Nat.zero_add, Option.map_none, Option.map_some, Option.some.injEq, and_true, decide_false, decide_true, true_and, reduceCtorEq, Nat.reduceEqDiff, ↓reduceIte, Int.reduceEq, Int.reduceLT, Int.reduceLE, Nat.reduceAdd]
        · have hil : i = xs.length := by omega
          rw [hil, List.take_length] at h8 hin
          have ld := h8.loadN (b := H4.next) (k := 2) (List.mem_cons_self ..) (n := 2) rfl
          obtain ⟨H9, s9, l9, g9⟩ := fin ⟨kk, acc8 xs, true⟩ H8 _ (h8.gr k8) h8
          have ec : AV.agg [.int .u8 kk, .int .u32 (acc8 xs)] = Co.col ⟨kk, acc8 xs, true⟩ := rfl
          simp only [g2, g5, g44, g45, g46, d, ld, ec, s9, l9, resVal, resVals, ARes.val, SX, Opd.ev, resVal, resVals, ARes.val, Bool.false_eq_true, Bool.not_false, Bool.not_true, List.getD_cons_succ, List.getD_cons_zero, List.map_cons, List.map_nil, Nat.add_zero, Nat.zero_add, Option.map_none, Option.map_some, Option.some.injEq, and_true, decide_false, decide_true, true_and, reduceCtorEq, Nat.reduceEqDiff, ↓reduceIte, Int.reduceEq, Int.reduceLT, Int.reduceLE, Nat.reduceAdd]
          rw [hpt, if_pos hin, ← hkk]
          exact ⟨rfl, g9⟩
    have nb0 : buildV [AV.int .u8 0, .int .u32 0] [] = some (.agg [.int .u8 0, .int .u32 0]) := rfl
    by_cases ha : a = 2
    · obtain ⟨H7, s7, h7, k7, n7⟩ := h6.store (o := 0) (v := .int .u8 2) rfl (by simp)
      have ha' : decide (a = 2) = true := by simpa using ha
      simp only [A48, run_allocL, run_mkMap, val_map, wp_mapUpd, run_lookup, run_build, nb0, b1, wantV_undef, s1, s2, u0, u1, lv4, d0, x0, l0, lk, d1, d2, s5, s6, x6, l6, ha', s7, SX, Opd.ev, resVal, resVals, ARes.val, Bool.false_eq_true, Bool.not_false, Bool.not_true, List.getD_cons_succ, List.getD_cons_zero, List.map_cons, List.map_nil, Nat.add_zero, Nat.zero_add, Option.map_none, Option.map_some, Option.some.injEq, and_true, decide_false, decide_true, true_and, reduceCtorEq, Nat.reduceEqDiff, ↓reduceIte, Int.reduceEq, Int.reduceLT, Int.reduceLE, Nat.reduceAdd]
      refine rest 2 H7 _ (by rw [if_pos ha]) h7 ((k5.trans k6).trans k7) ?_ ?_ ?_ ?_ <;> simp only [SX, Opd.ev, resVal, resVals, ARes.val, Bool.false_eq_true, Bool.not_false, Bool.not_true, List.getD_cons_succ, List.getD_cons_zero, List.map_cons, List.map_nil, Nat.add_zero, Nat.zero_add, Option.map_none, Option.map_some, Option.some.injEq, and_true, decide_false, decide_true, true_and, reduceCtorEq, Nat.reduceEqDiff, ↓reduceIte, Int.reduceEq, Int.reduceLT, Int.reduceLE, Nat.reduceAdd]
    · have ha' : decide (a = 2) = false := by simpa using ha
      simp only [A48, run_allocL, run_mkMap, val_map, wp_mapUpd, run_lookup, run_build, nb0, b1, wantV_undef, s1, s2, u0, u1, lv4, d0, x0, l0, lk, d1, d2, s5, s6, x6, l6, ha', SX, Opd.ev, resVal, resVals, ARes.val, Bool.false_eq_true, Bool.not_false, Bool.not_true, List.getD_cons_succ, List.getD_cons_zero, List.map_cons, List.map_nil, Nat.add_zero, Nat.zero_add, Option.map_none, Option.map_some, Option.some.injEq, and_true, decide_false, decide_true, true_and, reduceCtorEq, Nat.reduceEqDiff, ↓reduceIte, Int.reduceEq, Int.reduceLT, Int.reduceLE, Nat.reduceAdd]
      refine rest 1 H6 _ (by rw [if_neg ha]) h6 (k5.trans k6) ?_ ?_ ?_ ?_ <;> simp only [SX, Opd.ev, resVal, resVals, ARes.val, Bool.false_eq_true, Bool.not_false, Bool.not_true, List.getD_cons_succ, List.getD_cons_zero, List.map_cons, List.map_nil, Nat.add_zero, Nat.zero_add, Option.map_none, Option.map_some, Option.some.injEq, and_true, decide_false, decide_true, true_and, reduceCtorEq, Nat.reduceEqDiff, ↓reduceIte, Int.reduceEq, Int.reduceLT, Int.reduceLE, Nat.reduceAdd]
end
def partsOf (p : List Int) : List Int := if 4 < (p.drop 1).length ∧ (p.drop 1).headD 0 = 2 then 2 :: (p.drop 1).drop 2 else p.drop 1
def takenOf : List Int → Int
  | [] => 0
  | a :: _ => if a = 5 then 2 else if a = 2 then 4 else 1
def longP : List (List Int) → Co × Int
  | [] => (Co.no, 0)
  | p :: rest => if 1 < p.length then (paintP (partsOf p), 0) else (paintP (rest.map fst0), min (takenOf (rest.map fst0)) ((rest.map fst0).length : Int))
theorem longP_cons (p : List Int) (rest : List (List Int)) : longP (p :: rest) = if 1 < p.length then (paintP (partsOf p), 0) else (paintP (rest.map fst0), min (takenOf (rest.map fst0)) ((rest.map fst0).length : Int)) := rfl
theorem partsOf_eq {p t : List Int} {a : Int} (h : p.drop 1 = a :: t) : partsOf p = if 4 < (a :: t).length ∧ a = 2 then 2 :: t.drop 1 else a :: t := by
  unfold partsOf; rw [h]; rfl
theorem takenOf_cons (a : Int) (t : List Int) : takenOf (a :: t) = if a = 5 then 2 else if a = 2 then 4 else 1 := rfl
theorem ints_one (l : List Int) : (l.map (AV.int .i64)).all AV.one = true := List.all_eq_true.2 fun x hx => by
  obtain ⟨_, _, rfl⟩ := List.mem_map.1 hx; rfl
section
variable {Q : Prog} (aq : AtQ Q) {H : AHeap}
include aq
set_option maxHeartbeats 8000000 in
theorem long_spec {v : AV} {p : List Int} {rest : List (List Int)} (hv : IsL H v (p :: rest)) (hp : p.length ≤ 100000) (hL : rest.length ≤ 100000) (hf : Fr H) : FnTo Q 30 [v] H (fun r H' => r = .tup [(longP (p :: rest)).1.col, .int .i64 (longP (p :: rest)).2, .bool (longP (p :: rest)).1.ok] ∧ Gr H H') := by
  refine fn_wp (aq.ho 30 rfl _) aq.q30 (by simp [A30]) ?_
  obtain ⟨H1, s1, h1, k1⟩ := (Hp.nil H hf).make [.int .u8 0, .int .u32 0] 2
  have g1 : Gr H H1 := h1.gr k1
  have hv1 := hv.grow hf g1
  have x0 := hv1.at (i := 0) (by omega) (by simp) .i64
  obtain ⟨c, lc, hc⟩ := hv1.get (i := 0) (a := p) rfl
  have lp := IsS.len hc
  have fin : ∀ (co : Co) (H' : AHeap), Gr H1 H' → ∃ H'', storeE H' 2 (.ptr H.next 0) co.col = some (.undef, H'') ∧ loadV H'' (some 2) (.ptr H.next 0) = some co.col ∧ ∃ H3, storeE H'' 2 (.ptr H.next 0) co.col = some (.undef, H3) ∧ loadV H3 (some 2) (.ptr H.next 0) = some co.col ∧ Gr H H3 := by
    intro co H' g
    have hj := h1.keep g.keep g.next g.fr
    obtain ⟨H'', s, hh, k, n⟩ := hj.storeN (n := 2) (new := [.int .u8 co.k, .int .u32 co.n]) rfl rfl rfl
    obtain ⟨H3, s3, hh3, k3, n3⟩ := hh.storeN (n := 2) (new := [.int .u8 co.k, .int .u32 co.n]) rfl rfl rfl
    exact ⟨H'', s, hh.loadN (List.mem_cons_self ..) rfl, H3, s3, hh3.loadN (List.mem_cons_self ..) rfl, hh3.gr (((k1.trans (g.keep.le g1.next)).trans k).trans k3)⟩
  by_cases c1 : 1 < p.length
  · have d1 : decide ((1 : Int) < p.length) = true := by simp only [decide_eq_true_eq]; omega
    have hlg : longP (p :: rest) = (paintP (partsOf p), 0) := by rw [longP_cons, if_pos c1]
    rw [hlg]
    obtain ⟨w, sc, hw⟩ := IsS.drop hc (n := 1) (by omega) .i64
    have sc : slSV H1 1 c (some (.int .i64 1)) Option.none = some w := sc
    have lw := hw.len
    obtain ⟨q, hq⟩ : ∃ q, p.drop 1 = q := ⟨_, rfl⟩
    rw [hq] at hw lw
    have hqn : q ≠ [] := by rw [← hq]; intro h; have := congrArg List.length h; simp at this; omega
    obtain ⟨a, t, rfl⟩ : ∃ a t, q = a :: t := by cases q with
      | nil => exact absurd rfl hqn
      | cons a t => exact ⟨a, t, rfl⟩
    have xw := hw.at (i := 0) (by omega) (by simp) .i64
    have l0 := hw.int (i := 0) (a := a) rfl
    have hql : (a :: t).length ≤ 100000 := by rw [← hq]; simp; omega
    have tail : ∀ (H' : AHeap) (u : AV) (l : List Int), Gr H1 H' → IsS IsI H' u l → partsOf p = l → l.length ≤ 1000000 → ∀ (K : AV → AHeap → Prop), (∀ H'', Gr H' H'' → K (.tup [(paintP l).col, .bool (paintP l).ok]) H'') → FnTo Q 48 [u] H' K := by
      intro H' u l g hu hl hll K hK
      refine (paint_spec aq hu hll g.fr).mono ?_
      rintro r H'' ⟨rfl, g2⟩
      exact hK H'' g2
    by_cases c2 : 4 < (a :: t).length ∧ a = 2
    · have hpt : partsOf p = 2 :: t.drop 1 := by rw [partsOf_eq hq, if_pos c2]
      have d2 : decide ((4 : Int) < ((a :: t).length : Nat)) = true := by simp only [decide_eq_true_eq]; omega
      have d3 : decide (a = 2) = true := by simpa using c2.2
      obtain ⟨H2, s2, h2, k2⟩ := (Hp.nil H1 h1.fr).make [.int .i64 2] 1
      have g2 : Gr H1 H2 := h2.gr k2
      obtain ⟨w2, sc2, hw2⟩ := hw.dropG h1.fr g2 (n := 2) (by omega) .i64
      have sc2 : slSV H2 1 w (some (.int .i64 2)) Option.none = some w2 := sc2
      have hw22 : IsS IsI H2 w2 ((a :: t).drop 2) := hw2.grow (fun _ _ h => h) h1.fr g2
      have hlt : ((a :: t).drop 2).length = t.length - 1 := by simp
      obtain ⟨H3, s3, h3, k3⟩ := Hp.appendK (pre := []) (k := 1) (o := 0) (n := 1) (bytes := 8) (xs := [.int .i64 2]) (by simpa using h2) rfl rfl (by omega) hw22.src (by rw [hlt]; have := c2.1; simp at this; omega) (ints_one _) (by omega) (by rw [hlt]; simp at hql; omega)
      have e3 : [AV.int .i64 2] ++ ((a :: t).drop 2).map (.int .i64) = ints (2 :: t.drop 1) := by simp
      rw [e3] at h3
      have len3 : 1 + ((a :: t).drop 2).length = (2 :: t.drop 1).length := by simp; omega
      rw [len3] at s3
      have g3 : Gr H1 H3 := h3.gr (k2.trans k3)
      have own3 : IsS IsI H3 (.slc H2.next 0 (2 :: t.drop 1).length (2 :: t.drop 1).length) (2 :: t.drop 1) := h3.isS (List.mem_cons_self ..) (Nat.le_refl _) fun i x hx => ⟨_, by rw [List.getElem?_map, hx]; rfl, rfl⟩
      simp only [A30, run_allocL, s1, x0, lc, lp, d1, sc, Option.map_some, Option.map_none, lw, d2, xw, l0, d3, s2, sc2, s3, wantV_undef, SX, Opd.ev, resVal, resVals, ARes.val, Bool.false_eq_true, Bool.not_false, Bool.not_true, List.getD_cons_succ, List.getD_cons_zero, List.map_cons, List.map_nil, Nat.add_zero, Nat.zero_add, Option.map_none, Option.map_some, Option.some.injEq, and_true, decide_false, decide_true, true_and, reduceCtorEq, Nat.reduceEqDiff, ↓reduceIte, Int.reduceEq, Int.reduceLT, Int.reduceLE, Nat.reduceAdd]
      refine tail H3 _ _ g3 own3 hpt (by simp; simp at hql; omega) _ ?_
      intro H4 g4
      obtain ⟨H5, s5, l5, H6, s6, l6, g6⟩ := fin (paintP (2 :: t.drop 1)) H4 (g3.trans g4)
      simp only [ex0, ex1, s5, l5, s6, l6, resVal, resVals, ARes.val, SX, Opd.ev, resVal, resVals, ARes.val, Bool.false_eq_true, Bool.not_false, Bool.not_true, List.getD_cons_succ, List.getD_cons_zero, List.map_cons, List.map_nil, Nat.add_zero, Nat.zero_add, Option.map_none, Option.map_some, Option.some.injEq, and_true, decide_false, decide_true, true_and, reduceCtorEq, Nat.reduceEqDiff, ↓reduceIte, Int.reduceEq, Int.reduceLT, Int.reduceLE, Nat.reduceAdd]
      rw [hpt]
      exact ⟨rfl, g6⟩
    · have hpt : partsOf p = a :: t := by rw [partsOf_eq hq, if_neg c2]
      by_cases c3 : 4 < (a :: t).length
      · have d2 : decide ((4 : Int) < ((a :: t).length : Nat)) = true := by simp only [decide_eq_true_eq]; omega
        have d3 : decide (a = 2) = false := by simp only [decide_eq_false_iff_not]; exact fun h => c2 ⟨c3, h⟩
        simp only [A30, run_allocL, s1, x0, lc, lp, d1, sc, Option.map_some, Option.map_none, lw, d2, xw, l0, d3, wantV_undef, SX, Opd.ev, resVal, resVals, ARes.val, Bool.false_eq_true, Bool.not_false, Bool.not_true, List.getD_cons_succ, List.getD_cons_zero, List.map_cons, List.map_nil, Nat.add_zero, Nat.zero_add, Option.map_none, Option.map_some, Option.some.injEq, and_true, decide_false, decide_true, true_and, reduceCtorEq, Nat.reduceEqDiff, ↓reduceIte, Int.reduceEq, Int.reduceLT, Int.reduceLE, Nat.reduceAdd]
        refine tail H1 _ _ (Gr.refl h1.fr) hw hpt (by omega) _ ?_
        intro H4 g4
        obtain ⟨H5, s5, l5, H6, s6, l6, g6⟩ := fin (paintP (a :: t)) H4 g4
        simp only [ex0, ex1, s5, l5, s6, l6, resVal, resVals, ARes.val, SX, Opd.ev, resVal, resVals, ARes.val, Bool.false_eq_true, Bool.not_false, Bool.not_true, List.getD_cons_succ, List.getD_cons_zero, List.map_cons, List.map_nil, Nat.add_zero, Nat.zero_add, Option.map_none, Option.map_some, Option.some.injEq, and_true, decide_false, decide_true, true_and, reduceCtorEq, Nat.reduceEqDiff, ↓reduceIte, Int.reduceEq, Int.reduceLT, Int.reduceLE, Nat.reduceAdd]
        rw [hpt]
        exact ⟨rfl, g6⟩
      · have d2 : decide ((4 : Int) < ((a :: t).length : Nat)) = false := by simp only [decide_eq_false_iff_not]; omega
        simp only [A30, run_allocL, s1, x0, lc, lp, d1, sc, Option.map_some, Option.map_none, lw, d2, wantV_undef, SX, Opd.ev, resVal, resVals, ARes.val, Bool.false_eq_true, Bool.not_false, Bool.not_true, List.getD_cons_succ, List.getD_cons_zero, List.map_cons, List.map_nil, Nat.add_zero, Nat.zero_add, Option.map_none, Option.map_some, Option.some.injEq, and_true, decide_false, decide_true, true_and, reduceCtorEq, Nat.reduceEqDiff, ↓reduceIte, Int.reduceEq, Int.reduceLT, Int.reduceLE, Nat.reduceAdd]
        refine tail H1 _ _ (Gr.refl h1.fr) hw hpt (by omega) _ ?_
        intro H4 g4
        obtain ⟨H5, s5, l5, H6, s6, l6, g6⟩ := fin (paintP (a :: t)) H4 g4
        simp only [ex0, ex1, s5, l5, s6, l6, resVal, resVals, ARes.val, SX, Opd.ev, resVal, resVals, ARes.val, Bool.false_eq_true, Bool.not_false, Bool.not_true, List.getD_cons_succ, List.getD_cons_zero, List.map_cons, List.map_nil, Nat.add_zero, Nat.zero_add, Option.map_none, Option.map_some, Option.some.injEq, and_true, decide_false, decide_true, true_and, reduceCtorEq, Nat.reduceEqDiff, ↓reduceIte, Int.reduceEq, Int.reduceLT, Int.reduceLE, Nat.reduceAdd]
        rw [hpt]
        exact ⟨rfl, g6⟩
  · have d1 : decide ((1 : Int) < p.length) = false := by simp only [decide_eq_false_iff_not]; omega
    obtain ⟨l, hl⟩ : ∃ l, rest.map fst0 = l := ⟨_, rfl⟩
    have hlg : longP (p :: rest) = (paintP l, min (takenOf l) (l.length : Int)) := by rw [longP_cons, if_neg c1, hl]
    rw [hlg]
    have hll : l.length = rest.length := by rw [← hl]; simp
    obtain ⟨w, sc, hw⟩ := IsS.drop hv1 (n := 1) (by simp) .i64
    have sc : slSV H1 1 v (some (.int .i64 1)) Option.none = some w := sc
    have hw : IsL H1 w rest := hw
    simp only [A30, run_allocL, s1, x0, lc, lp, d1, sc, Option.map_some, Option.map_none, SX, Opd.ev, resVal, resVals, ARes.val, Bool.false_eq_true, Bool.not_false, Bool.not_true, List.getD_cons_succ, List.getD_cons_zero, List.map_cons, List.map_nil, Nat.add_zero, Nat.zero_add, Option.map_none, Option.map_some, Option.some.injEq, and_true, decide_false, decide_true, true_and, reduceCtorEq, Nat.reduceEqDiff, ↓reduceIte, Int.reduceEq, Int.reduceLT, Int.reduceLE, Nat.reduceAdd]
    refine (firsts_spec aq hw (by omega) h1.fr).mono ?_
    rintro r H2 ⟨own, g2⟩
    rw [hl] at own
    have hr := own.isS
    simp only [SX, Opd.ev, resVal, resVals, ARes.val, Bool.false_eq_true, Bool.not_false, Bool.not_true, List.getD_cons_succ, List.getD_cons_zero, List.map_cons, List.map_nil, Nat.add_zero, Nat.zero_add, Option.map_none, Option.map_some, Option.some.injEq, and_true, decide_false, decide_true, true_and, reduceCtorEq, Nat.reduceEqDiff, ↓reduceIte, Int.reduceEq, Int.reduceLT, Int.reduceLE, Nat.reduceAdd]
    refine (paint_spec aq hr (by omega) g2.fr).mono ?_
    rintro r2 H3 ⟨rfl, g3⟩
    have hr3 : IsS IsI H3 r l := hr.grow (fun _ _ h => h) g2.fr g3
    obtain ⟨H5, s5, l5, H6, s6, l6, g6⟩ := fin (paintP l) H3 (g2.trans g3)
    have hj := h1.keep (g2.trans g3).keep (g2.trans g3).next (g2.trans g3).fr
    have hr5 : IsS IsI H5 r l ∧ lngV H5 1 r = some (.int .i64 l.length) := by
      rcases own with ⟨rfl, rfl, _⟩ | ⟨b, rfl, hb⟩
      · exact ⟨.inl ⟨rfl, rfl⟩, rfl⟩
      · obtain ⟨es, e1, e2⟩ := hb.has _ (List.mem_cons_self ..)
        have hlo := hb.lo _ (List.mem_cons_self ..)
        refine ⟨.inr ⟨b, 0, l.length, ⟨ints l, es, false, true⟩, rfl, ?_, rfl, e2, Nat.le_refl _, fun i x hx => ⟨_, by rw [Nat.zero_add, List.getElem?_map, hx]; rfl, rfl⟩⟩, rfl⟩
        have hbne : b ≠ H.next := by
          have : H1.next ≤ b := hlo
          have h1n : H.next < H1.next := h1.lt (List.mem_cons_self ..)
          omega
        rw [store_other s5 hbne]
        exact g3.get g2.fr e1
    have tk : ∀ x : Int, takenOf l = x → 0 ≤ x ∧ x ≤ 4 := by
      intro x hx; rw [← hx]; unfold takenOf; split
      · omega
      · (repeat' split) <;> omega
    cases l with
    | nil =>
      have d0 : decide ((0 : Int) < (([] : List Int).length : Nat)) = false := rfl
      simp only [ex0, ex1, s5, hr5.2, d0, l5, s6, l6, wantV_undef, mnmxV2min, resVal, resVals, ARes.val, SX, Opd.ev, resVal, resVals, ARes.val, Bool.false_eq_true, Bool.not_false, Bool.not_true, List.getD_cons_succ, List.getD_cons_zero, List.map_cons, List.map_nil, Nat.add_zero, Nat.zero_add, Option.map_none, Option.map_some, Option.some.injEq, and_true, decide_false, decide_true, true_and, reduceCtorEq, Nat.reduceEqDiff, ↓reduceIte, Int.reduceEq, Int.reduceLT, Int.reduceLE, Nat.reduceAdd]
      exact ⟨rfl, g6⟩
    | cons a t =>
      have d0 : decide ((0 : Int) < ((a :: t).length : Nat)) = true := by simp only [List.length_cons, decide_eq_true_eq]; omega
      have xr := hr5.1.at (i := 0) (by omega) (by simp) .i64
      have lr := hr5.1.int (i := 0) (a := a) rfl
      by_cases a5 : a = 5
      · have a5' : decide (a = 5) = true := by simpa using a5
        have ht : takenOf (a :: t) = 2 := by rw [takenOf_cons, if_pos a5]
        simp only [ex0, ex1, s5, hr5.2, d0, xr, lr, a5', l5, s6, l6, wantV_undef, mnmxV2min, resVal, resVals, ARes.val, SX, Opd.ev, resVal, resVals, ARes.val, Bool.false_eq_true, Bool.not_false, Bool.not_true, List.getD_cons_succ, List.getD_cons_zero, List.map_cons, List.map_nil, Nat.add_zero, Nat.zero_add, Option.map_none, Option.map_some, Option.some.injEq, and_true, decide_false, decide_true, true_and, reduceCtorEq, Nat.reduceEqDiff, ↓reduceIte, Int.reduceEq, Int.reduceLT, Int.reduceLE, Nat.reduceAdd]
        rw [ht]; exact ⟨rfl, g6⟩
      have a5' : decide (a = 5) = false := by simpa using a5
      by_cases a2 : a = 2
      · have a2' : decide (a = 2) = true := by simpa using a2
        have ht : takenOf (a :: t) = 4 := by rw [takenOf_cons, if_neg a5, if_pos a2]
        simp only [ex0, ex1, s5, hr5.2, d0, xr, lr, a5', a2', l5, s6, l6, wantV_undef, mnmxV2min, resVal, resVals, ARes.val, SX, Opd.ev, resVal, resVals, ARes.val, Bool.false_eq_true, Bool.not_false, Bool.not_true, List.getD_cons_succ, List.getD_cons_zero, List.map_cons, List.map_nil, Nat.add_zero, Nat.zero_add, Option.map_none, Option.map_some, Option.some.injEq, and_true, decide_false, decide_true, true_and, reduceCtorEq, Nat.reduceEqDiff, ↓reduceIte, Int.reduceEq, Int.reduceLT, Int.reduceLE, Nat.reduceAdd]
        rw [ht]; exact ⟨rfl, g6⟩
      · have a2' : decide (a = 2) = false := by simpa using a2
        have ht : takenOf (a :: t) = 1 := by rw [takenOf_cons, if_neg a5, if_neg a2]
        simp only [ex0, ex1, s5, hr5.2, d0, xr, lr, a5', a2', l5, s6, l6, wantV_undef, mnmxV2min, resVal, resVals, ARes.val, SX, Opd.ev, resVal, resVals, ARes.val, Bool.false_eq_true, Bool.not_false, Bool.not_true, List.getD_cons_succ, List.getD_cons_zero, List.map_cons, List.map_nil, Nat.add_zero, Nat.zero_add, Option.map_none, Option.map_some, Option.some.injEq, and_true, decide_false, decide_true, true_and, reduceCtorEq, Nat.reduceEqDiff, ↓reduceIte, Int.reduceEq, Int.reduceLT, Int.reduceLE, Nat.reduceAdd]
        rw [ht]; exact ⟨rfl, g6⟩
end
def orU (a b : Int) : Int := IntKind.wrap .u16 (((BitVec.ofInt 16 a ||| BitVec.ofInt 16 b).toNat : Nat) : Int)
def notU (a b : Int) : Int := IntKind.wrap .u16 (((BitVec.ofInt 16 a &&& ~~~BitVec.ofInt 16 b).toNat : Nat) : Int)
theorem bin_orU (a b : Int) : binV .or (.int .u16 a) (.int .u16 b) = some (.int .u16 (orU a b)) := rfl
theorem bin_notU (a b : Int) : binV .andNot (.int .u16 a) (.int .u16 b) = some (.int .u16 (notU a b)) := rfl
def pow2 (i : Nat) : Int := IntKind.wrap .u16 (1 * 2 ^ (min i 16))
theorem shlU (k : IntKind) (i : Nat) : binV .shl (.int .u16 1) (.int k (i : Int)) = some (.int .u16 (pow2 i)) := by
  simp only [binV, shiftBin, IntKind.bits, Int.toNat_natCast, pow2]
  rw [if_neg (by omega)]
def fin22 (n fl : Int) : Int := if n = 22 then notU fl 1 else fl
/-- flags by one number: the flags, and whether it says something of them -/
def flagL (fl n : Int) (off : Bool) : List Int → Nat → Int × Bool
  | [], _ => (fl, false)
  | k :: zs, i => if (n = k ∧ off = true ∧ n = 4) ∨ (n = k + 20 ∧ n ≠ 21) then (fin22 n (notU fl (pow2 i)), true) else if n = k then (fin22 n (orU fl (pow2 i)), true) else flagL fl n off zs (i + 1)
def flagP (fl n : Int) (off : Bool) : Int × Bool := flagL fl n off zflags 0
theorem row_tab {H : AHeap} (h : hasTabs H TT = true) : loadV H (some 8) (.ptr 0 0) = some (.agg (zflags.map (.int .i64))) := by
  have h1 := List.all_eq_true.1 h ⟨0, .i64, zflags⟩ (by simp [TT])
  split at h1
  · rename_i B hB
    simp only [Bool.and_eq_true] at h1
    have hc := sameL_eq1 h1.2
    have hr : H.row 0 = some B := by simp only [AHeap.row, hB, h1.1, if_true]
    simp only [loadV, ROp.run, Opd.ev, hr, hc]
    rfl
  · cases h1
theorem idx_tab {i : Nat} {k : Int} (h : zflags[i]? = some k) : idxArrV 8 1 none (.agg (zflags.map (.int .i64))) (.int .i64 (i : Int)) = some (.int .i64 k) := by
  have hi := (List.getElem?_eq_some_iff.1 h).1
  have h8 : zflags.length = 8 := rfl
  simp only [idxArrV, ROp.run, Opd.ev, inIndex, if_pos (show 0 ≤ (i : Int) ∧ (i : Int) < ((8 : Nat) : Int) by omega), Int.toNat_natCast, Nat.mul_one, sub, List.getElem?_map, h, Option.map_some]
structure At where
  fl : Int
  fk : Int
  fn : Int
  bk : Int
  bn : Int
def At.cs (a : At) : List AV := [.int .u16 a.fl, .int .u8 a.fk, .int .u32 a.fn, .int .u8 a.bk, .int .u32 a.bn]
def At.val (a : At) : AV := .agg a.cs
def At.zero : At := ⟨0, 0, 0, 0, 0⟩
def shortP (n : Int) : Option (Int × Int) := if 30 ≤ n ∧ n ≤ 37 then some (1, n - 30) else if 90 ≤ n ∧ n ≤ 97 then some (1, n - 82) else if n = 39 then some (0, 0) else none
section
variable {Q : Prog} (aq : AtQ Q) {base : Nat} {H : AHeap} {l : List Cel}
include aq
set_option maxHeartbeats 8000000 in
theorem flag_spec {p k0 : Nat} {fl n : Int} {off : Bool} {R : List AV} (h : Hp base H (⟨p, k0, .int .u16 fl :: R⟩ :: l)) (ht : hasTabs H TT = true) : FnTo Q 31 [.ptr p 0, .int .i64 n, .bool off] H (fun r H' => r = .bool (flagP fl n off).2 ∧ Hp base H' (⟨p, k0, .int .u16 (flagP fl n off).1 :: R⟩ :: l) ∧ Keep base H H' ∧ H'.next = H.next) := by
  refine fn_wp (aq.ho 31 rfl _) aq.q31 (by simp [A31]) ?_
  have rt := row_tab ht
  simp only [A31, rt, SX, Opd.ev, resVal, resVals, ARes.val, Bool.false_eq_true, Bool.not_false, Bool.not_true, List.getD_cons_succ, List.getD_cons_zero, List.map_cons, List.map_nil, Nat.add_zero, Nat.zero_add, Option.map_none, Option.map_some, Option.some.injEq, and_true, decide_false, decide_true, true_and, reduceCtorEq, Nat.reduceEqDiff, ↓reduceIte, Int.reduceEq, Int.reduceLT, Int.reduceLE, Nat.reduceAdd]
  obtain ⟨I, hI⟩ : ∃ I : Nat → Env → AHeap → Prop, ∀ m e H', I m e H' ↔ (H' = H ∧ ∃ i : Nat, m = 8 - i ∧ i ≤ 8 ∧ flagL fl n off (zflags.drop i) i = flagP fl n off ∧ Env.get e 0 = .ptr p 0 ∧ Env.get e 1 = .int .i64 n ∧ Env.get e 2 = .bool off ∧ Env.get e 9 = .agg (zflags.map (.int .i64)) ∧ Env.get e 10 = .int .i64 i) := ⟨_, fun _ _ _ => Iff.rfl⟩
  refine loop_by I 8 ?_ ?_
  · refine (hI _ _ _).2 ⟨rfl, 0, rfl, by omega, rfl, ?_⟩
    simp only [SX, Opd.ev, resVal, resVals, ARes.val, Bool.false_eq_true, Bool.not_false, Bool.not_true, List.getD_cons_succ, List.getD_cons_zero, List.map_cons, List.map_nil, Nat.add_zero, Nat.zero_add, Option.map_none, Option.map_some, Option.some.injEq, and_true, decide_false, decide_true, true_and, reduceCtorEq, Nat.reduceEqDiff, ↓reduceIte, Int.reduceEq, Int.reduceLT, Int.reduceLE, Nat.reduceAdd]; rfl
  · intro m e H' hinv
    obtain ⟨rfl, i, rfl, hi, hfl, e0, e1, e2, e9, e10⟩ := (hI _ _ _).1 hinv
    have h8 : zflags.length = 8 := rfl
    by_cases d : (i : Int) < 8
    · obtain ⟨k, hk⟩ : ∃ k, zflags[i]? = some k := ⟨_, List.getElem?_eq_getElem (by omega)⟩
      have hdrop : zflags.drop i = k :: zflags.drop (i + 1) := by
        rw [List.drop_eq_getElem_cons (by omega), (List.getElem?_eq_some_iff.1 hk).2]
      have hkr : 1 ≤ k ∧ k ≤ 9 := by
        have hm := List.mem_of_getElem? hk
        simp only [zflags, List.mem_cons, List.not_mem_nil, or_false] at hm
        omega
      rw [hdrop, flagL] at hfl
      have it := idx_tab hk
      have w20 : IntKind.wrap .i64 (k + 20) = k + 20 := wrapI64 (by omega) (by omega)
      have w1 : IntKind.wrap .i64 ((i : Int) + 1) = ((i + 1 : Nat) : Int) := by rw [wrapI64 (by omega) (by omega)]; rfl
      have l0 := h.load (b := p) (k := k0) (List.mem_cons_self ..) (o := 0) (v := .int .u16 fl) rfl
      have sh := shlU .i64 i
      have upd : ∀ f1 : Int, ∃ H1, storeE H' 1 (.ptr p 0) (.int .u16 f1) = some (.undef, H1) ∧ Hp base H1 (⟨p, k0, .int .u16 f1 :: R⟩ :: l) ∧ Keep base H' H1 ∧ H1.next = H'.next ∧ loadV H1 Option.none (.ptr p 0) = some (.int .u16 f1) ∧ ∃ H2, storeE H1 1 (.ptr p 0) (.int .u16 (notU f1 1)) = some (.undef, H2) ∧ Hp base H2 (⟨p, k0, .int .u16 (notU f1 1) :: R⟩ :: l) ∧ Keep base H' H2 ∧ H2.next = H'.next := by
        intro f1
        obtain ⟨H1, s1, h1, k1, n1⟩ := h.store (o := 0) (v := .int .u16 f1) rfl (by simp)
        have h1 : Hp base H1 (⟨p, k0, .int .u16 f1 :: R⟩ :: l) := h1
        obtain ⟨H2, s2, h2, k2, n2⟩ := h1.store (o := 0) (v := .int .u16 (notU f1 1)) rfl (by simp)
        exact ⟨H1, s1, h1, k1, n1, h1.load (List.mem_cons_self ..) rfl, H2, s2, h2, k1.trans k2, by rw [n2, n1]⟩
      by_cases c22 : n = 22
      · have c22' : decide (n = 22) = true := by simpa using c22
        by_cases ca : n = k + 20
        · have ca' : decide (n = k + 20) = true := by simpa using ca
          have cb : decide (n = k) = false := by simp only [decide_eq_false_iff_not]; omega
          have c21 : (!decide (n = 21)) = true := by simp [c22]
          rw [if_pos (.inr ⟨ca, by omega⟩)] at hfl
          obtain ⟨H1, s1, h1, k1, n1, l1, H2, s2, h2, k2, n2⟩ := upd (notU fl (pow2 i))
          simp only [e0, e1, e2, e9, e10, d, it, cb, w20, ca', c21, c22', l0, sh, bin_notU, s1, l1, s2, wantV_undef, SX, Opd.ev, resVal, resVals, ARes.val, Bool.false_eq_true, Bool.not_false, Bool.not_true, List.getD_cons_succ, List.getD_cons_zero, List.map_cons, List.map_nil, Nat.add_zero, Nat.zero_add, Option.map_none, Option.map_some, Option.some.injEq, and_true, decide_false, decide_true, true_and, reduceCtorEq, Nat.reduceEqDiff, ↓reduceIte, Int.reduceEq, Int.reduceLT, Int.reduceLE, Nat.reduceAdd]
          have e22 : fin22 n (notU fl (pow2 i)) = notU (notU fl (pow2 i)) 1 := if_pos c22
          rw [← hfl, e22]
          exact ⟨rfl, h2, k2, n2⟩
        · have ca' : decide (n = k + 20) = false := by simpa using ca
          have cb : decide (n = k) = false := by simp only [decide_eq_false_iff_not]; omega
          rw [if_neg (by omega), if_neg (by omega)] at hfl
          simp only [e0, e1, e2, e9, e10, d, it, cb, w20, ca', w1, wantV_undef, SX, Opd.ev, resVal, resVals, ARes.val, Bool.false_eq_true, Bool.not_false, Bool.not_true, List.getD_cons_succ, List.getD_cons_zero, List.map_cons, List.map_nil, Nat.add_zero, Nat.zero_add, Option.map_none, Option.map_some, Option.some.injEq, and_true, decide_false, decide_true, true_and, reduceCtorEq, Nat.reduceEqDiff, ↓reduceIte, Int.reduceEq, Int.reduceLT, Int.reduceLE, Nat.reduceAdd]
          refine ⟨8 - (i + 1), by omega, (hI _ _ _).2 ⟨rfl, i + 1, rfl, by omega, hfl, ?_⟩⟩
          simp only [e0, e1, e2, e9, e10, SX, Opd.ev, resVal, resVals, ARes.val, Bool.false_eq_true, Bool.not_false, Bool.not_true, List.getD_cons_succ, List.getD_cons_zero, List.map_cons, List.map_nil, Nat.add_zero, Nat.zero_add, Option.map_none, Option.map_some, Option.some.injEq, and_true, decide_false, decide_true, true_and, reduceCtorEq, Nat.reduceEqDiff, ↓reduceIte, Int.reduceEq, Int.reduceLT, Int.reduceLE, Nat.reduceAdd]
      · have c22' : decide (n = 22) = false := by simpa using c22
        have f22 : ∀ f, fin22 n f = f := fun f => by unfold fin22; rw [if_neg c22]
        by_cases cb : n = k
        · have cb' : decide (n = k) = true := by simpa using cb
          have ca' : decide (n = k + 20) = false := by simp only [decide_eq_false_iff_not]; omega
          by_cases co : off = true ∧ n = 4
          · have c4 : decide (n = 4) = true := by simpa using co.2
            rw [if_pos (.inl ⟨cb, co⟩), f22] at hfl
            obtain ⟨H1, s1, h1, k1, n1, l1, _⟩ := upd (notU fl (pow2 i))
            rw [co.1] at e2
            simp only [e0, e1, e2, e9, e10, d, it, cb', c4, c22', l0, sh, bin_notU, s1, wantV_undef, SX, Opd.ev, resVal, resVals, ARes.val, Bool.false_eq_true, Bool.not_false, Bool.not_true, List.getD_cons_succ, List.getD_cons_zero, List.map_cons, List.map_nil, Nat.add_zero, Nat.zero_add, Option.map_none, Option.map_some, Option.some.injEq, and_true, decide_false, decide_true, true_and, reduceCtorEq, Nat.reduceEqDiff, ↓reduceIte, Int.reduceEq, Int.reduceLT, Int.reduceLE, Nat.reduceAdd]
            rw [← hfl]
            exact ⟨rfl, h1, k1, n1⟩
          · rw [if_neg (fun hh => hh.elim (fun x => co x.2) (fun x => by omega)), if_pos cb, f22] at hfl
            obtain ⟨H1, s1, h1, k1, n1, l1, _⟩ := upd (orU fl (pow2 i))
            cases off with
            | false =>
              simp only [e0, e1, e2, e9, e10, d, it, cb', w20, ca', c22', l0, sh, bin_orU, s1, wantV_undef, SX, Opd.ev, resVal, resVals, ARes.val, Bool.false_eq_true, Bool.not_false, Bool.not_true, List.getD_cons_succ, List.getD_cons_zero, List.map_cons, List.map_nil, Nat.add_zero, Nat.zero_add, Option.map_none, Option.map_some, Option.some.injEq, and_true, decide_false, decide_true, true_and, reduceCtorEq, Nat.reduceEqDiff, ↓reduceIte, Int.reduceEq, Int.reduceLT, Int.reduceLE, Nat.reduceAdd]
              rw [← hfl]
              exact ⟨rfl, h1, k1, n1⟩
            | true =>
              have c4 : decide (n = 4) = false := by simp only [decide_eq_false_iff_not]; exact fun h => co ⟨rfl, h⟩
              simp only [e0, e1, e2, e9, e10, d, it, cb', c4, w20, ca', c22', l0, sh, bin_orU, s1, wantV_undef, SX, Opd.ev, resVal, resVals, ARes.val, Bool.false_eq_true, Bool.not_false, Bool.not_true, List.getD_cons_succ, List.getD_cons_zero, List.map_cons, List.map_nil, Nat.add_zero, Nat.zero_add, Option.map_none, Option.map_some, Option.some.injEq, and_true, decide_false, decide_true, true_and, reduceCtorEq, Nat.reduceEqDiff, ↓reduceIte, Int.reduceEq, Int.reduceLT, Int.reduceLE, Nat.reduceAdd]
              rw [← hfl]
              exact ⟨rfl, h1, k1, n1⟩
        · have cb' : decide (n = k) = false := by simpa using cb
          by_cases ca : n = k + 20
          · have ca' : decide (n = k + 20) = true := by simpa using ca
            by_cases c21 : n = 21
            · have c21' : (!decide (n = 21)) = false := by simp [c21]
              rw [if_neg (by omega), if_neg cb] at hfl
              simp only [e0, e1, e2, e9, e10, d, it, cb', w20, ca', c21', w1, wantV_undef, SX, Opd.ev, resVal, resVals, ARes.val, Bool.false_eq_true, Bool.not_false, Bool.not_true, List.getD_cons_succ, List.getD_cons_zero, List.map_cons, List.map_nil, Nat.add_zero, Nat.zero_add, Option.map_none, Option.map_some, Option.some.injEq, and_true, decide_false, decide_true, true_and, reduceCtorEq, Nat.reduceEqDiff, ↓reduceIte, Int.reduceEq, Int.reduceLT, Int.reduceLE, Nat.reduceAdd]
              refine ⟨8 - (i + 1), by omega, (hI _ _ _).2 ⟨rfl, i + 1, rfl, by omega, hfl, ?_⟩⟩
              simp only [e0, e1, e2, e9, e10, SX, Opd.ev, resVal, resVals, ARes.val, Bool.false_eq_true, Bool.not_false, Bool.not_true, List.getD_cons_succ, List.getD_cons_zero, List.map_cons, List.map_nil, Nat.add_zero, Nat.zero_add, Option.map_none, Option.map_some, Option.some.injEq, and_true, decide_false, decide_true, true_and, reduceCtorEq, Nat.reduceEqDiff, ↓reduceIte, Int.reduceEq, Int.reduceLT, Int.reduceLE, Nat.reduceAdd]
            · have c21' : (!decide (n = 21)) = true := by simp [c21]
              rw [if_pos (.inr ⟨ca, c21⟩), f22] at hfl
              obtain ⟨H1, s1, h1, k1, n1, l1, _⟩ := upd (notU fl (pow2 i))
              simp only [e0, e1, e2, e9, e10, d, it, cb', w20, ca', c21', c22', l0, sh, bin_notU, s1, wantV_undef, SX, Opd.ev, resVal, resVals, ARes.val, Bool.false_eq_true, Bool.not_false, Bool.not_true, List.getD_cons_succ, List.getD_cons_zero, List.map_cons, List.map_nil, Nat.add_zero, Nat.zero_add, Option.map_none, Option.map_some, Option.some.injEq, and_true, decide_false, decide_true, true_and, reduceCtorEq, Nat.reduceEqDiff, ↓reduceIte, Int.reduceEq, Int.reduceLT, Int.reduceLE, Nat.reduceAdd]
              rw [← hfl]
              exact ⟨rfl, h1, k1, n1⟩
          · have ca' : decide (n = k + 20) = false := by simpa using ca
            rw [if_neg (by omega), if_neg cb] at hfl
            simp only [e0, e1, e2, e9, e10, d, it, cb', w20, ca', w1, wantV_undef, SX, Opd.ev, resVal, resVals, ARes.val, Bool.false_eq_true, Bool.not_false, Bool.not_true, List.getD_cons_succ, List.getD_cons_zero, List.map_cons, List.map_nil, Nat.add_zero, Nat.zero_add, Option.map_none, Option.map_some, Option.some.injEq, and_true, decide_false, decide_true, true_and, reduceCtorEq, Nat.reduceEqDiff, ↓reduceIte, Int.reduceEq, Int.reduceLT, Int.reduceLE, Nat.reduceAdd]
            refine ⟨8 - (i + 1), by omega, (hI _ _ _).2 ⟨rfl, i + 1, rfl, by omega, hfl, ?_⟩⟩
            simp only [e0, e1, e2, e9, e10, SX, Opd.ev, resVal, resVals, ARes.val, Bool.false_eq_true, Bool.not_false, Bool.not_true, List.getD_cons_succ, List.getD_cons_zero, List.map_cons, List.map_nil, Nat.add_zero, Nat.zero_add, Option.map_none, Option.map_some, Option.some.injEq, and_true, decide_false, decide_true, true_and, reduceCtorEq, Nat.reduceEqDiff, ↓reduceIte, Int.reduceEq, Int.reduceLT, Int.reduceLE, Nat.reduceAdd]
    · have hi8 : i = 8 := by omega
      rw [hi8] at hfl
      have hfl : (fl, false) = flagP fl n off := hfl
      simp only [e0, e1, e2, e9, e10, d, SX, Opd.ev, resVal, resVals, ARes.val, Bool.false_eq_true, Bool.not_false, Bool.not_true, List.getD_cons_succ, List.getD_cons_zero, List.map_cons, List.map_nil, Nat.add_zero, Nat.zero_add, Option.map_none, Option.map_some, Option.some.injEq, and_true, decide_false, decide_true, true_and, reduceCtorEq, Nat.reduceEqDiff, ↓reduceIte, Int.reduceEq, Int.reduceLT, Int.reduceLE, Nat.reduceAdd]
      rw [← hfl]
      exact ⟨rfl, h, Keep.refl _ _⟩
set_option maxHeartbeats 4000000 in
theorem short_spec {p k0 o : Nat} {n c d : Int} {A C : List AV} (h : Hp base H (⟨p, k0, A ++ ([.int .u8 c, .int .u32 d] ++ C)⟩ :: l)) (ho : A.length = o) : FnTo Q 32 [.ptr p o, .int .i64 n] H (fun r H' => Hp base H' (⟨p, k0, A ++ ([.int .u8 ((shortP n).getD (c, d)).1, .int .u32 ((shortP n).getD (c, d)).2] ++ C)⟩ :: l) ∧ Keep base H H' ∧ H'.next = H.next) := by
  refine fn_wp (aq.ho 32 rfl _) aq.q32 (by simp [A32]) ?_
  have b1 : ∀ x : Int, buildV [AV.int .u8 0, .int .u32 0] [(0, 1, .int .u8 1), (1, 1, .int .u32 x)] = some (.agg [.int .u8 1, .int .u32 x]) := fun x => rfl
  have b0 : buildV [AV.int .u8 0, .int .u32 0] [] = some (.agg [.int .u8 0, .int .u32 0]) := rfl
  have st : ∀ x y : Int, ∃ H1, storeE H 2 (.ptr p o) (.agg [.int .u8 x, .int .u32 y]) = some (.undef, H1) ∧ Hp base H1 (⟨p, k0, A ++ ([.int .u8 x, .int .u32 y] ++ C)⟩ :: l) ∧ Keep base H H1 ∧ H1.next = H.next := fun x y => h.storeO rfl ho rfl (new := [.int .u8 x, .int .u32 y]) rfl rfl
  by_cases c1 : 30 ≤ n ∧ n ≤ 37
  · obtain ⟨H1, s1, h1, k1, n1⟩ := st 1 (n - 30)
    have d1 : decide (30 ≤ n) = true := by simpa using c1.1
    have d2 : decide (n ≤ 37) = true := by simpa using c1.2
    have w1 : IntKind.wrap .i64 (n - 30) = n - 30 := wrapI64 (by omega) (by omega)
    have w2 : IntKind.wrap .u32 (n - 30) = n - 30 := wrapU32 (by omega) (by omega)
    simp only [A32, d1, d2, w1, w2, run_build, b1, s1, resNil, SX, Opd.ev, resVal, resVals, ARes.val, Bool.false_eq_true, Bool.not_false, Bool.not_true, List.getD_cons_succ, List.getD_cons_zero, List.map_cons, List.map_nil, Nat.add_zero, Nat.zero_add, Option.map_none, Option.map_some, Option.some.injEq, and_true, decide_false, decide_true, true_and, reduceCtorEq, Nat.reduceEqDiff, ↓reduceIte, Int.reduceEq, Int.reduceLT, Int.reduceLE, Nat.reduceAdd]
    unfold shortP; rw [if_pos c1]; exact ⟨h1, k1, n1⟩
  by_cases c2 : 90 ≤ n ∧ n ≤ 97
  · obtain ⟨H1, s1, h1, k1, n1⟩ := st 1 (n - 82)
    have d1 : decide (30 ≤ n) = true := by simp only [decide_eq_true_eq]; omega
    have d2 : decide (n ≤ 37) = false := by simp only [decide_eq_false_iff_not]; omega
    have d3 : decide (90 ≤ n) = true := by simpa using c2.1
    have d4 : decide (n ≤ 97) = true := by simpa using c2.2
    have w1 : IntKind.wrap .i64 (n - 82) = n - 82 := wrapI64 (by omega) (by omega)
    have w2 : IntKind.wrap .u32 (n - 82) = n - 82 := wrapU32 (by omega) (by omega)
    simp only [A32, d1, d2, d3, d4, w1, w2, run_build, b1, s1, resNil, wantV_undef, SX, Opd.ev, resVal, resVals, ARes.val, Bool.false_eq_true, Bool.not_false, Bool.not_true, List.getD_cons_succ, List.getD_cons_zero, List.map_cons, List.map_nil, Nat.add_zero, Nat.zero_add, Option.map_none, Option.map_some, Option.some.injEq, and_true, decide_false, decide_true, true_and, reduceCtorEq, Nat.reduceEqDiff, ↓reduceIte, Int.reduceEq, Int.reduceLT, Int.reduceLE, Nat.reduceAdd]
    unfold shortP; rw [if_neg c1, if_pos c2]; exact ⟨h1, k1, n1⟩
  by_cases c3 : n = 39
  · obtain ⟨H1, s1, h1, k1, n1⟩ := st 0 0
    subst c3
    have d1 : decide ((30 : Int) ≤ 39) = true := rfl
    have d2 : decide ((39 : Int) ≤ 37) = false := rfl
    have d3 : decide ((90 : Int) ≤ 39) = false := rfl
    simp only [A32, d1, d2, d3, run_build, b0, s1, resNil, wantV_undef, SX, Opd.ev, resVal, resVals, ARes.val, Bool.false_eq_true, Bool.not_false, Bool.not_true, List.getD_cons_succ, List.getD_cons_zero, List.map_cons, List.map_nil, Nat.add_zero, Nat.zero_add, Option.map_none, Option.map_some, Option.some.injEq, and_true, decide_false, decide_true, true_and, reduceCtorEq, Nat.reduceEqDiff, ↓reduceIte, Int.reduceEq, Int.reduceLT, Int.reduceLE, Nat.reduceAdd]
    exact ⟨h1, k1, n1⟩
  · have c3' : decide (n = 39) = false := by simpa using c3
    have fin : Hp base H (⟨p, k0, A ++ ([.int .u8 ((shortP n).getD (c, d)).1, .int .u32 ((shortP n).getD (c, d)).2] ++ C)⟩ :: l) ∧ Keep base H H := by
      unfold shortP; rw [if_neg c1, if_neg c2, if_neg c3]; exact ⟨h, Keep.refl _ _⟩
    by_cases x1 : 30 ≤ n
    · have d1 : decide (30 ≤ n) = true := by simpa using x1
      have d2 : decide (n ≤ 37) = false := by simp only [decide_eq_false_iff_not]; omega
      by_cases x2 : 90 ≤ n
      · have d3 : decide (90 ≤ n) = true := by simpa using x2
        have d4 : decide (n ≤ 97) = false := by simp only [decide_eq_false_iff_not]; omega
        simp only [A32, d1, d2, d3, d4, c3', resNil, wantV_undef, SX, Opd.ev, resVal, resVals, ARes.val, Bool.false_eq_true, Bool.not_false, Bool.not_true, List.getD_cons_succ, List.getD_cons_zero, List.map_cons, List.map_nil, Nat.add_zero, Nat.zero_add, Option.map_none, Option.map_some, Option.some.injEq, and_true, decide_false, decide_true, true_and, reduceCtorEq, Nat.reduceEqDiff, ↓reduceIte, Int.reduceEq, Int.reduceLT, Int.reduceLE, Nat.reduceAdd]
        exact fin
      · have d3 : decide (90 ≤ n) = false := by simpa using x2
        simp only [A32, d1, d2, d3, c3', resNil, wantV_undef, SX, Opd.ev, resVal, resVals, ARes.val, Bool.false_eq_true, Bool.not_false, Bool.not_true, List.getD_cons_succ, List.getD_cons_zero, List.map_cons, List.map_nil, Nat.add_zero, Nat.zero_add, Option.map_none, Option.map_some, Option.some.injEq, and_true, decide_false, decide_true, true_and, reduceCtorEq, Nat.reduceEqDiff, ↓reduceIte, Int.reduceEq, Int.reduceLT, Int.reduceLE, Nat.reduceAdd]
        exact fin
    · have d1 : decide (30 ≤ n) = false := by simpa using x1
      have d3 : decide (90 ≤ n) = false := by simp only [decide_eq_false_iff_not]; omega
      simp only [A32, d1, d3, c3', resNil, wantV_undef, SX, Opd.ev, resVal, resVals, ARes.val, Bool.false_eq_true, Bool.not_false, Bool.not_true, List.getD_cons_succ, List.getD_cons_zero, List.map_cons, List.map_nil, Nat.add_zero, Nat.zero_add, Option.map_none, Option.map_some, Option.some.injEq, and_true, decide_false, decide_true, true_and, reduceCtorEq, Nat.reduceEqDiff, ↓reduceIte, Int.reduceEq, Int.reduceLT, Int.reduceLE, Nat.reduceAdd]
      exact fin
end
def offOf (p : List Int) : Bool := decide (1 < p.length ∧ p.getD 1 0 = 0)
def shortA (a : At) (n : Int) : At := { a with fk := ((shortP n).getD (a.fk, a.fn)).1, fn := ((shortP n).getD (a.fk, a.fn)).2 }
def shortB (a : At) (n : Int) : At := { a with bk := ((shortP n).getD (a.bk, a.bn)).1, bn := ((shortP n).getD (a.bk, a.bn)).2 }
def stepA (a : At) (p : List Int) (rest : List (List Int)) : At × Nat :=
  if fst0 p = 0 then (At.zero, 0)
  else if fst0 p = 38 ∨ fst0 p = 48 then
    (if (longP (p :: rest)).1.ok = true ∧ fst0 p = 38 then { a with fk := (longP (p :: rest)).1.k, fn := (longP (p :: rest)).1.n } else if (longP (p :: rest)).1.ok = true then { a with bk := (longP (p :: rest)).1.k, bn := (longP (p :: rest)).1.n } else a, (longP (p :: rest)).2.toNat)
  else if (flagP a.fl (fst0 p) (offOf p)).2 = true then ({ a with fl := (flagP a.fl (fst0 p) (offOf p)).1 }, 0)
  else (shortB (shortA { a with fl := (flagP a.fl (fst0 p) (offOf p)).1 } (fst0 p)) (IntKind.wrap .i64 (fst0 p - 10)), 0)
def applyF : Nat → At → List (List Int) → At
  | 0, a, _ => a
  | _ + 1, a, [] => a
  | f + 1, a, p :: rest => applyF f (stepA a p rest).1 (rest.drop (stepA a p rest).2)
def applyP (a : At) (L : List (List Int)) : At := if L = [] then At.zero else applyF L.length a L
theorem long_tk (p : List Int) (rest : List (List Int)) : 0 ≤ (longP (p :: rest)).2 ∧ (longP (p :: rest)).2 ≤ rest.length := by
  rw [longP_cons]
  split
  · simp only; omega
  · have : 0 ≤ takenOf (rest.map fst0) := by
      unfold takenOf
      split
      · omega
      · (repeat' split) <;> omega
    simp only [List.length_map]
    omega
theorem applyF_nil (f : Nat) (a : At) : applyF f a [] = a := by cases f <;> rfl
theorem box_at (a : At) : boxV a.val = some (.row ⟨a.cs, 0, false, true⟩, .ptr) := rfl
theorem z5 : AV.agg [.int .u16 0, .int .u8 0, .int .u32 0, .int .u8 0, .int .u32 0] = At.zero.val := rfl
theorem z5l : [AV.int .u16 0, .int .u8 0, .int .u32 0, .int .u8 0, .int .u32 0] = At.zero.cs := rfl
section
variable {Q : Prog} (aq : AtQ Q) {H : AHeap}
include aq
set_option maxHeartbeats 16000000 in
theorem apply_spec {a : At} {v : AV} {L : List (List Int)} (hv : IsL H v L) (hL : L.length ≤ 10000) (hp : ∀ p ∈ L, p.length ≤ 10000) (hf : Fr H) (ht : hasTabs H TT = true) : FnTo Q 15 [a.val, v] H (fun r H' => r = (applyP a L).val ∧ Gr H H') := by
  refine fn_wp (aq.ho 15 rfl _) aq.q15 (by simp [A15]) ?_
  obtain ⟨H1, s1, h1, k1⟩ := (Hp.nil H hf).make a.cs 5
  obtain ⟨H2, s2, h2, k2⟩ := h1.make At.zero.cs 5
  have g2 : Gr H H2 := h2.gr (k1.trans k2)
  have hv2 := hv.grow hf g2
  have lv2 := hv2.len
  cases L with
  | nil =>
    obtain ⟨H3, s3, h3, k3, n3⟩ := h2.storeN (n := 5) (new := At.zero.cs) rfl rfl rfl
    have s3 : storeE H2 5 (.ptr H1.next 0) (.agg At.zero.cs) = some (.undef, H3) := s3
    have l3 : loadV H3 (some 5) (.ptr H1.next 0) = some At.zero.val := h3.loadN (List.mem_cons_self ..) rfl
    have d0 : decide ((([] : List (List Int)).length : Int) = 0) = true := rfl
    simp only [A15, box_at, z5l, run_box, run_allocL, s1, s2, lv2, d0, run_build0, s3, l3, resVal, resVals, ARes.val, SX, Opd.ev, resVal, resVals, ARes.val, Bool.false_eq_true, Bool.not_false, Bool.not_true, List.getD_cons_succ, List.getD_cons_zero, List.map_cons, List.map_nil, Nat.add_zero, Nat.zero_add, Option.map_none, Option.map_some, Option.some.injEq, and_true, decide_false, decide_true, true_and, reduceCtorEq, Nat.reduceEqDiff, ↓reduceIte, Int.reduceEq, Int.reduceLT, Int.reduceLE, Nat.reduceAdd]
    exact ⟨rfl, h3.gr ((k1.trans k2).trans k3)⟩
  | cons p0 L0 =>
  obtain ⟨L, hLe⟩ : ∃ L, p0 :: L0 = L := ⟨_, rfl⟩
  have hne : L ≠ [] := by rw [← hLe]; simp
  rw [hLe] at hv hL hp hv2 lv2 ⊢
  have hres : applyP a L = applyF L.length a L := by unfold applyP; rw [if_neg hne]
  have d0 : decide ((L.length : Int) = 0) = false := by
    simp only [decide_eq_false_iff_not]; intro hh
    exact hne (List.eq_nil_of_length_eq_zero (by omega))
  simp only [A15, box_at, z5l, run_box, run_allocL, s1, s2, lv2, d0, SX, Opd.ev, resVal, resVals, ARes.val, Bool.false_eq_true, Bool.not_false, Bool.not_true, List.getD_cons_succ, List.getD_cons_zero, List.map_cons, List.map_nil, Nat.add_zero, Nat.zero_add, Option.map_none, Option.map_some, Option.some.injEq, and_true, decide_false, decide_true, true_and, reduceCtorEq, Nat.reduceEqDiff, ↓reduceIte, Int.reduceEq, Int.reduceLT, Int.reduceLE, Nat.reduceAdd]
  refine (firsts_spec aq hv2 (by omega) h2.fr).mono ?_
  rintro r H3 ⟨own, g3⟩
  obtain ⟨b, rfl, hb⟩ : ∃ b, r = .slc b 0 (L.map fst0).length (L.map fst0).length ∧ Hp H2.next H3 [⟨b, 1, ints (L.map fst0)⟩] := by
    rcases own with ⟨hh, _, _⟩ | ⟨b, h1, h2⟩
    · exact absurd (List.map_eq_nil_iff.1 hh) hne
    · exact ⟨b, h1, h2⟩
  have h3 : Hp H.next H3 (⟨H.next, 5, a.cs⟩ :: [⟨b, 1, ints (L.map fst0)⟩, ⟨H1.next, 5, At.zero.cs⟩]) := (h2.joinG g3 hb).rot3
  have hfl : (L.map fst0).length = L.length := by simp
  rw [hfl]
  simp only [SX, Opd.ev, resVal, resVals, ARes.val, Bool.false_eq_true, Bool.not_false, Bool.not_true, List.getD_cons_succ, List.getD_cons_zero, List.map_cons, List.map_nil, Nat.add_zero, Nat.zero_add, Option.map_none, Option.map_some, Option.some.injEq, and_true, decide_false, decide_true, true_and, reduceCtorEq, Nat.reduceEqDiff, ↓reduceIte, Int.reduceEq, Int.reduceLT, Int.reduceLE, Nat.reduceAdd]
  obtain ⟨I, hI⟩ : ∃ I : Nat → Env → AHeap → Prop, ∀ m e H', I m e H' ↔ (Keep H.next H H' ∧ ∃ (i f : Nat) (a' : At), m = L.length - i ∧ i ≤ L.length ∧ L.length - i ≤ f ∧ applyF f a' (L.drop i) = applyF L.length a L ∧ Hp H.next H' (⟨H.next, 5, a'.cs⟩ :: [⟨b, 1, ints (L.map fst0)⟩, ⟨H1.next, 5, At.zero.cs⟩]) ∧ Env.get e 1 = v ∧ Env.get e 2 = .ptr H.next 0 ∧ Env.get e 4 = .ptr H1.next 0 ∧ Env.get e 5 = .slc b 0 L.length L.length ∧ Env.get e 6 = .int .i64 i) := ⟨_, fun _ _ _ => Iff.rfl⟩
  refine loop_by I L.length ?_ ?_
  · refine (hI _ _ _).2 ⟨(k1.trans k2).trans (g3.keep.le g2.next), 0, L.length, a, rfl, by omega, by omega, rfl, h3, ?_⟩
    simp only [SX, Opd.ev, resVal, resVals, ARes.val, Bool.false_eq_true, Bool.not_false, Bool.not_true, List.getD_cons_succ, List.getD_cons_zero, List.map_cons, List.map_nil, Nat.add_zero, Nat.zero_add, Option.map_none, Option.map_some, Option.some.injEq, and_true, decide_false, decide_true, true_and, reduceCtorEq, Nat.reduceEqDiff, ↓reduceIte, Int.reduceEq, Int.reduceLT, Int.reduceLE, Nat.reduceAdd]; rfl
  · intro m e H4 hinv
    obtain ⟨k4, i, f, a', rfl, hi, hf4, hap, h4, e1, e2, e4, e5, e6⟩ := (hI _ _ _).1 hinv
    have g4 : Gr H H4 := h4.gr k4
    have hv4 := hv.grow hf g4
    have hr4 : IsS IsI H4 (.slc b 0 L.length L.length) (L.map fst0) := by
      have := h4.isS (R := IsI) (b := b) (cs := ints (L.map fst0)) (by simp) (xs := L.map fst0) (cap := L.length) (by simp) (fun i x hx => ⟨_, by rw [List.getElem?_map, hx]; rfl, rfl⟩)
      rw [hfl] at this; exact this
    by_cases d : (i : Int) < L.length
    · obtain ⟨p, hpi⟩ : ∃ p, L[i]? = some p := ⟨_, List.getElem?_eq_getElem (by omega)⟩
      obtain ⟨rest, hrest⟩ : ∃ rest, L.drop (i + 1) = rest := ⟨_, rfl⟩
      have hdrop : L.drop i = p :: rest := by
        rw [List.drop_eq_getElem_cons (by omega), (List.getElem?_eq_some_iff.1 hpi).2, hrest]
      have hrl : rest.length = L.length - (i + 1) := by rw [← hrest]; simp
      obtain ⟨f', rfl⟩ : ∃ f', f = f' + 1 := ⟨f - 1, by omega⟩
      rw [hdrop, applyF] at hap
      obtain ⟨n, hn⟩ : ∃ n, fst0 p = n := ⟨_, rfl⟩
      have xr := hr4.at (i := (i : Int)) (by omega) (by rw [hfl]; omega) .i64
      have lr := hr4.int (i := (i : Int)) (a := n) (by rw [List.getElem?_map]; simp only [Int.toNat_natCast]; rw [hpi, ← hn]; rfl)
      have next : ∀ (e' : Env) (H' : AHeap) (a2 : At) (tk : Nat), stepA a' p rest = (a2, tk) → tk ≤ rest.length → Keep H.next H H' → Hp H.next H' (⟨H.next, 5, a2.cs⟩ :: [⟨b, 1, ints (L.map fst0)⟩, ⟨H1.next, 5, At.zero.cs⟩]) → (Env.get e' 1 = v ∧ Env.get e' 2 = .ptr H.next 0 ∧ Env.get e' 4 = .ptr H1.next 0 ∧ Env.get e' 5 = .slc b 0 L.length L.length ∧ Env.get e' 6 = .int .i64 ((i + tk + 1 : Nat) : Int)) → ∃ m', m' < L.length - i ∧ I m' e' H' := by
        intro e' H' a2 tk hs htk kk hh he
        rw [hs] at hap
        refine ⟨L.length - (i + tk + 1), by omega, (hI _ _ _).2 ⟨kk, i + tk + 1, f', a2, rfl, by omega, by omega, ?_, hh, he⟩⟩
        rw [← hap, ← hrest, List.drop_drop]
        congr 2; omega
      have w0 : IntKind.wrap .i64 ((i : Int) + 1) = ((i + 0 + 1 : Nat) : Int) := by rw [wrapI64 (by omega) (by omega)]; rfl
      by_cases c0 : n = 0
      · have c0' : decide (n = 0) = true := by simpa using c0
        obtain ⟨H5, s5, h5, k5, n5⟩ := h4.storeN (n := 5) (new := At.zero.cs) rfl rfl rfl
        have s5 : storeE H4 5 (.ptr H.next 0) (.agg At.zero.cs) = some (.undef, H5) := s5
        simp only [e1, e2, e4, e5, e6, lngV_slc, d, xr, lr, c0', run_build0, z5l, s5, w0, SX, Opd.ev, resVal, resVals, ARes.val, Bool.false_eq_true, Bool.not_false, Bool.not_true, List.getD_cons_succ, List.getD_cons_zero, List.map_cons, List.map_nil, Nat.add_zero, Nat.zero_add, Option.map_none, Option.map_some, Option.some.injEq, and_true, decide_false, decide_true, true_and, reduceCtorEq, Nat.reduceEqDiff, ↓reduceIte, Int.reduceEq, Int.reduceLT, Int.reduceLE, Nat.reduceAdd]
        refine next _ H5 At.zero 0 (by unfold stepA; rw [hn, if_pos c0]) (by omega) (k4.trans k5) h5 ?_
        simp only [e1, e2, e4, e5, e6, SX, Opd.ev, resVal, resVals, ARes.val, Bool.false_eq_true, Bool.not_false, Bool.not_true, List.getD_cons_succ, List.getD_cons_zero, List.map_cons, List.map_nil, Nat.add_zero, Nat.zero_add, Option.map_none, Option.map_some, Option.some.injEq, and_true, decide_false, decide_true, true_and, reduceCtorEq, Nat.reduceEqDiff, ↓reduceIte, Int.reduceEq, Int.reduceLT, Int.reduceLE, Nat.reduceAdd]
      have c0' : decide (n = 0) = false := by simpa using c0
      by_cases c1 : n = 38 ∨ n = 48
      · obtain ⟨w, sc, hw⟩ := hv4.drop (n := i) (by omega) .i64
        rw [hdrop] at hw
        have tk := long_tk p rest
        have hst : stepA a' p rest = (if (longP (p :: rest)).1.ok = true ∧ n = 38 then { a' with fk := (longP (p :: rest)).1.k, fn := (longP (p :: rest)).1.n } else if (longP (p :: rest)).1.ok = true then { a' with bk := (longP (p :: rest)).1.k, bn := (longP (p :: rest)).1.n } else a', (longP (p :: rest)).2.toNat) := by
          unfold stepA; rw [hn, if_neg c0, if_pos c1]
        have hc1 : ∀ (K : AV → AHeap → Prop), (∀ H', Gr H4 H' → K (.tup [(longP (p :: rest)).1.col, .int .i64 (longP (p :: rest)).2, .bool (longP (p :: rest)).1.ok]) H') → FnTo Q 30 [w] H4 K := by
          intro K hK
          refine (long_spec aq hw (by have := hp p (List.mem_of_getElem? hpi); omega) (by omega) h4.fr).mono ?_
          rintro r H' ⟨rfl, g⟩
          exact hK H' g
        obtain ⟨co, hco⟩ : ∃ co, (longP (p :: rest)).1 = co := ⟨_, rfl⟩
        obtain ⟨tkn, htk⟩ : ∃ t : Nat, (longP (p :: rest)).2 = t := ⟨(longP (p :: rest)).2.toNat, by omega⟩
        rw [hco, htk] at hst hc1
        rw [htk] at tk
        have wt : IntKind.wrap .i64 ((i : Int) + tkn) = ((i + tkn : Nat) : Int) := by rw [wrapI64 (by omega) (by omega)]; rfl
        have w1 : IntKind.wrap .i64 (((i + tkn : Nat) : Int) + 1) = ((i + tkn + 1 : Nat) : Int) := by rw [wrapI64 (by omega) (by omega)]; rfl
        have tail : ∀ H5, Gr H4 H5 → ∃ H6, H5.alloc (.row ⟨[.int .u8 0, .int .u32 0], 0, false, true⟩) = H6 ∧ ∃ H7, storeE H6 2 (.ptr H5.next 0) co.col = some (.undef, H7) ∧ loadV H7 (some 2) (.ptr H5.next 0) = some co.col ∧ Keep H.next H H7 ∧ Hp H.next H7 (⟨H.next, 5, a'.cs⟩ :: [⟨b, 1, ints (L.map fst0)⟩, ⟨H1.next, 5, At.zero.cs⟩]) ∧
            (∃ H8, storeE H7 2 (.ptr H.next 1) co.col = some (.undef, H8) ∧ Keep H.next H H8 ∧ Hp H.next H8 (⟨H.next, 5, ({ a' with fk := co.k, fn := co.n } : At).cs⟩ :: [⟨b, 1, ints (L.map fst0)⟩, ⟨H1.next, 5, At.zero.cs⟩])) ∧
            (∃ H8, storeE H7 2 (.ptr H.next 3) co.col = some (.undef, H8) ∧ Keep H.next H H8 ∧ Hp H.next H8 (⟨H.next, 5, ({ a' with bk := co.k, bn := co.n } : At).cs⟩ :: [⟨b, 1, ints (L.map fst0)⟩, ⟨H1.next, 5, At.zero.cs⟩])) := by
          intro H5 g5
          have h5 := h4.keep g5.keep g5.next g5.fr
          have k5 : Keep H.next H H5 := k4.trans (g5.keep.le g4.next)
          obtain ⟨H6, s6, h6, k6⟩ := h5.make [.int .u8 0, .int .u32 0] 2
          obtain ⟨H7, s7, h7, k7, n7⟩ := h6.storeN (n := 2) (new := [.int .u8 co.k, .int .u32 co.n]) rfl rfl rfl
          obtain ⟨H8, s8, h8, k8, n8⟩ := (h7.drop).storeO (a := [.int .u16 a'.fl]) (x := [.int .u8 a'.fk, .int .u32 a'.fn]) (c := [.int .u8 a'.bk, .int .u32 a'.bn]) (o := 1) (n := 2) rfl rfl rfl (new := [.int .u8 co.k, .int .u32 co.n]) rfl rfl
          obtain ⟨H9, s9, h9, k9, n9⟩ := (h7.drop).storeO (a := [.int .u16 a'.fl, .int .u8 a'.fk, .int .u32 a'.fn]) (x := [.int .u8 a'.bk, .int .u32 a'.bn]) (c := []) (o := 3) (n := 2) rfl rfl rfl (new := [.int .u8 co.k, .int .u32 co.n]) rfl rfl
          exact ⟨H6, s6, H7, s7, h7.loadN (List.mem_cons_self ..) rfl, (k5.trans k6).trans k7, h7.drop, ⟨H8, s8, ((k5.trans k6).trans k7).trans k8, h8⟩, ⟨H9, s9, ((k5.trans k6).trans k7).trans k9, h9⟩⟩
        by_cases c38 : n = 38
        · have c38' : decide (n = 38) = true := by simpa using c38
          simp only [e1, e2, e4, e5, e6, lngV_slc, d, xr, lr, c0', c38', wantV_undef, sc, Option.map_some, Option.map_none, SX, Opd.ev, resVal, resVals, ARes.val, Bool.false_eq_true, Bool.not_false, Bool.not_true, List.getD_cons_succ, List.getD_cons_zero, List.map_cons, List.map_nil, Nat.add_zero, Nat.zero_add, Option.map_none, Option.map_some, Option.some.injEq, and_true, decide_false, decide_true, true_and, reduceCtorEq, Nat.reduceEqDiff, ↓reduceIte, Int.reduceEq, Int.reduceLT, Int.reduceLE, Nat.reduceAdd]
          refine hc1 _ ?_
          intro H5 g5
          obtain ⟨H6, s6, H7, s7, l7, k7, h7, ⟨H8, s8, k8, h8⟩, _⟩ := tail H5 g5
          cases hok : co.ok with
          | true =>
            simp only [e1, e2, e4, e5, e6, ex30, ex31, ex32, hok, c38', run_allocL, s6, s7, l7, s8, wt, w1, wantV_undef, SX, Opd.ev, resVal, resVals, ARes.val, Bool.false_eq_true, Bool.not_false, Bool.not_true, List.getD_cons_succ, List.getD_cons_zero, List.map_cons, List.map_nil, Nat.add_zero, Nat.zero_add, Option.map_none, Option.map_some, Option.some.injEq, and_true, decide_false, decide_true, true_and, reduceCtorEq, Nat.reduceEqDiff, ↓reduceIte, Int.reduceEq, Int.reduceLT, Int.reduceLE, Nat.reduceAdd]
            refine next _ H8 _ tkn (by rw [hst, if_pos ⟨hok, c38⟩]; rfl) (by omega) k8 h8 ?_
            simp only [e1, e2, e4, e5, e6, SX, Opd.ev, resVal, resVals, ARes.val, Bool.false_eq_true, Bool.not_false, Bool.not_true, List.getD_cons_succ, List.getD_cons_zero, List.map_cons, List.map_nil, Nat.add_zero, Nat.zero_add, Option.map_none, Option.map_some, Option.some.injEq, and_true, decide_false, decide_true, true_and, reduceCtorEq, Nat.reduceEqDiff, ↓reduceIte, Int.reduceEq, Int.reduceLT, Int.reduceLE, Nat.reduceAdd]
          | false =>
            simp only [e1, e2, e4, e5, e6, ex30, ex31, ex32, hok, run_allocL, s6, s7, wt, w1, wantV_undef, SX, Opd.ev, resVal, resVals, ARes.val, Bool.false_eq_true, Bool.not_false, Bool.not_true, List.getD_cons_succ, List.getD_cons_zero, List.map_cons, List.map_nil, Nat.add_zero, Nat.zero_add, Option.map_none, Option.map_some, Option.some.injEq, and_true, decide_false, decide_true, true_and, reduceCtorEq, Nat.reduceEqDiff, ↓reduceIte, Int.reduceEq, Int.reduceLT, Int.reduceLE, Nat.reduceAdd]
            refine next _ H7 _ tkn (by rw [hst, if_neg (by simp [hok]), if_neg (by simp [hok])]; rfl) (by omega) k7 h7 ?_
            simp only [e1, e2, e4, e5, e6, SX, Opd.ev, resVal, resVals, ARes.val, Bool.false_eq_true, Bool.not_false, Bool.not_true, List.getD_cons_succ, List.getD_cons_zero, List.map_cons, List.map_nil, Nat.add_zero, Nat.zero_add, Option.map_none, Option.map_some, Option.some.injEq, and_true, decide_false, decide_true, true_and, reduceCtorEq, Nat.reduceEqDiff, ↓reduceIte, Int.reduceEq, Int.reduceLT, Int.reduceLE, Nat.reduceAdd]
        · have c38' : decide (n = 38) = false := by simpa using c38
          have c48' : decide (n = 48) = true := by simpa using c1.resolve_left c38
          simp only [e1, e2, e4, e5, e6, lngV_slc, d, xr, lr, c0', c38', c48', wantV_undef, sc, Option.map_some, Option.map_none, SX, Opd.ev, resVal, resVals, ARes.val, Bool.false_eq_true, Bool.not_false, Bool.not_true, List.getD_cons_succ, List.getD_cons_zero, List.map_cons, List.map_nil, Nat.add_zero, Nat.zero_add, Option.map_none, Option.map_some, Option.some.injEq, and_true, decide_false, decide_true, true_and, reduceCtorEq, Nat.reduceEqDiff, ↓reduceIte, Int.reduceEq, Int.reduceLT, Int.reduceLE, Nat.reduceAdd]
          refine hc1 _ ?_
          intro H5 g5
          obtain ⟨H6, s6, H7, s7, l7, k7, h7, _, ⟨H8, s8, k8, h8⟩⟩ := tail H5 g5
          cases hok : co.ok with
          | true =>
            simp only [e1, e2, e4, e5, e6, ex30, ex31, ex32, hok, c38', run_allocL, s6, s7, l7, s8, wt, w1, wantV_undef, SX, Opd.ev, resVal, resVals, ARes.val, Bool.false_eq_true, Bool.not_false, Bool.not_true, List.getD_cons_succ, List.getD_cons_zero, List.map_cons, List.map_nil, Nat.add_zero, Nat.zero_add, Option.map_none, Option.map_some, Option.some.injEq, and_true, decide_false, decide_true, true_and, reduceCtorEq, Nat.reduceEqDiff, ↓reduceIte, Int.reduceEq, Int.reduceLT, Int.reduceLE, Nat.reduceAdd]
            refine next _ H8 _ tkn (by rw [hst, if_neg (fun hh => c38 hh.2), if_pos hok]; rfl) (by omega) k8 h8 ?_
            simp only [e1, e2, e4, e5, e6, SX, Opd.ev, resVal, resVals, ARes.val, Bool.false_eq_true, Bool.not_false, Bool.not_true, List.getD_cons_succ, List.getD_cons_zero, List.map_cons, List.map_nil, Nat.add_zero, Nat.zero_add, Option.map_none, Option.map_some, Option.some.injEq, and_true, decide_false, decide_true, true_and, reduceCtorEq, Nat.reduceEqDiff, ↓reduceIte, Int.reduceEq, Int.reduceLT, Int.reduceLE, Nat.reduceAdd]
          | false =>
            simp only [e1, e2, e4, e5, e6, ex30, ex31, ex32, hok, run_allocL, s6, s7, wt, w1, wantV_undef, SX, Opd.ev, resVal, resVals, ARes.val, Bool.false_eq_true, Bool.not_false, Bool.not_true, List.getD_cons_succ, List.getD_cons_zero, List.map_cons, List.map_nil, Nat.add_zero, Nat.zero_add, Option.map_none, Option.map_some, Option.some.injEq, and_true, decide_false, decide_true, true_and, reduceCtorEq, Nat.reduceEqDiff, ↓reduceIte, Int.reduceEq, Int.reduceLT, Int.reduceLE, Nat.reduceAdd]
            refine next _ H7 _ tkn (by rw [hst, if_neg (by simp [hok]), if_neg (by simp [hok])]; rfl) (by omega) k7 h7 ?_
            simp only [e1, e2, e4, e5, e6, SX, Opd.ev, resVal, resVals, ARes.val, Bool.false_eq_true, Bool.not_false, Bool.not_true, List.getD_cons_succ, List.getD_cons_zero, List.map_cons, List.map_nil, Nat.add_zero, Nat.zero_add, Option.map_none, Option.map_some, Option.some.injEq, and_true, decide_false, decide_true, true_and, reduceCtorEq, Nat.reduceEqDiff, ↓reduceIte, Int.reduceEq, Int.reduceLT, Int.reduceLE, Nat.reduceAdd]
      · have c38' : decide (n = 38) = false := by simp only [decide_eq_false_iff_not]; exact fun h => c1 (.inl h)
        have c48' : decide (n = 48) = false := by simp only [decide_eq_false_iff_not]; exact fun h => c1 (.inr h)
        have xv := hv4.at (i := (i : Int)) (by omega) (by omega) .i64
        obtain ⟨c, lc, hc⟩ := hv4.get (i := (i : Int)) (a := p) (by simpa using hpi)
        have lp := IsS.len hc
        have g4t := g4.tabs hf ht
        have hst : stepA a' p rest = if (flagP a'.fl n (offOf p)).2 = true then ({ a' with fl := (flagP a'.fl n (offOf p)).1 }, 0) else (shortB (shortA { a' with fl := (flagP a'.fl n (offOf p)).1 } n) (IntKind.wrap .i64 (n - 10)), 0) := by
          unfold stepA; rw [hn, if_neg c0, if_neg c1]
        by_cases cl : 1 < p.length
        · obtain ⟨x, y, t, rfl⟩ : ∃ x y t, p = x :: y :: t := by
            match p, cl with
            | x :: y :: t, _ => exact ⟨x, y, t, rfl⟩
          have dl : decide ((1 : Int) < ((x :: y :: t).length : Nat)) = true := by simp only [decide_eq_true_eq]; simp; omega
          have x1 := IsS.at hc (i := 1) (by omega) (by simp; omega) .i64
          have l1 := IsS.int hc (i := 1) (a := y) rfl
          by_cases cy : y = 0
          · have dy : decide (y = 0) = true := by simpa using cy
            have hoff : offOf (x :: y :: t) = true := by simp [offOf, cy]
            simp only [e1, e2, e4, e5, e6, lngV_slc, d, xr, lr, c0', c38', c48', wantV_undef, xv, lc, lp, dl, x1, l1, dy, SX, Opd.ev, resVal, resVals, ARes.val, Bool.false_eq_true, Bool.not_false, Bool.not_true, List.getD_cons_succ, List.getD_cons_zero, List.map_cons, List.map_nil, Nat.add_zero, Nat.zero_add, Option.map_none, Option.map_some, Option.some.injEq, and_true, decide_false, decide_true, true_and, reduceCtorEq, Nat.reduceEqDiff, ↓reduceIte, Int.reduceEq, Int.reduceLT, Int.reduceLE, Nat.reduceAdd]
            refine (flag_spec aq (p := H.next) (k0 := 5) (fl := a'.fl) (n := n) (off := true) (R := [.int .u8 a'.fk, .int .u32 a'.fn, .int .u8 a'.bk, .int .u32 a'.bn]) (l := [⟨b, 1, ints (L.map fst0)⟩, ⟨H1.next, 5, At.zero.cs⟩]) h4 g4t).mono ?_
            rintro r H5 ⟨rfl, h5, k5, n5⟩
            obtain ⟨fl', hfl'⟩ : ∃ fl', (flagP a'.fl n true).1 = fl' := ⟨_, rfl⟩
            rw [hoff, hfl'] at hst
            rw [hfl'] at h5
            cases hs : (flagP a'.fl n true).2 with
            | true =>
              simp only [e1, e2, e4, e5, e6, hs, w0, SX, Opd.ev, resVal, resVals, ARes.val, Bool.false_eq_true, Bool.not_false, Bool.not_true, List.getD_cons_succ, List.getD_cons_zero, List.map_cons, List.map_nil, Nat.add_zero, Nat.zero_add, Option.map_none, Option.map_some, Option.some.injEq, and_true, decide_false, decide_true, true_and, reduceCtorEq, Nat.reduceEqDiff, ↓reduceIte, Int.reduceEq, Int.reduceLT, Int.reduceLE, Nat.reduceAdd]
              refine next _ H5 { a' with fl := fl' } 0 (by rw [hst, if_pos hs]) (by omega) (k4.trans k5) h5 ?_
              simp only [e1, e2, e4, e5, e6, SX, Opd.ev, resVal, resVals, ARes.val, Bool.false_eq_true, Bool.not_false, Bool.not_true, List.getD_cons_succ, List.getD_cons_zero, List.map_cons, List.map_nil, Nat.add_zero, Nat.zero_add, Option.map_none, Option.map_some, Option.some.injEq, and_true, decide_false, decide_true, true_and, reduceCtorEq, Nat.reduceEqDiff, ↓reduceIte, Int.reduceEq, Int.reduceLT, Int.reduceLE, Nat.reduceAdd]
            | false =>
              simp only [e1, e2, e4, e5, e6, hs, SX, Opd.ev, resVal, resVals, ARes.val, Bool.false_eq_true, Bool.not_false, Bool.not_true, List.getD_cons_succ, List.getD_cons_zero, List.map_cons, List.map_nil, Nat.add_zero, Nat.zero_add, Option.map_none, Option.map_some, Option.some.injEq, and_true, decide_false, decide_true, true_and, reduceCtorEq, Nat.reduceEqDiff, ↓reduceIte, Int.reduceEq, Int.reduceLT, Int.reduceLE, Nat.reduceAdd]
              refine (short_spec aq (A := [.int .u16 fl']) (C := [.int .u8 a'.bk, .int .u32 a'.bn]) (p := H.next) (k0 := 5) (n := n) (c := a'.fk) (d := a'.fn) h5 rfl).mono ?_
              rintro r H6 ⟨h6, k6, n6⟩
              simp only [e1, e2, e4, e5, e6, SX, Opd.ev, resVal, resVals, ARes.val, Bool.false_eq_true, Bool.not_false, Bool.not_true, List.getD_cons_succ, List.getD_cons_zero, List.map_cons, List.map_nil, Nat.add_zero, Nat.zero_add, Option.map_none, Option.map_some, Option.some.injEq, and_true, decide_false, decide_true, true_and, reduceCtorEq, Nat.reduceEqDiff, ↓reduceIte, Int.reduceEq, Int.reduceLT, Int.reduceLE, Nat.reduceAdd]
              refine (short_spec aq (A := [.int .u16 fl', .int .u8 ((shortP n).getD (a'.fk, a'.fn)).1, .int .u32 ((shortP n).getD (a'.fk, a'.fn)).2]) (C := []) (p := H.next) (k0 := 5) (n := IntKind.wrap .i64 (n - 10)) (c := a'.bk) (d := a'.bn) h6 rfl).mono ?_
              rintro r H7 ⟨h7, k7, n7⟩
              simp only [e1, e2, e4, e5, e6, w0, SX, Opd.ev, resVal, resVals, ARes.val, Bool.false_eq_true, Bool.not_false, Bool.not_true, List.getD_cons_succ, List.getD_cons_zero, List.map_cons, List.map_nil, Nat.add_zero, Nat.zero_add, Option.map_none, Option.map_some, Option.some.injEq, and_true, decide_false, decide_true, true_and, reduceCtorEq, Nat.reduceEqDiff, ↓reduceIte, Int.reduceEq, Int.reduceLT, Int.reduceLE, Nat.reduceAdd]
              refine next _ H7 (shortB (shortA { a' with fl := fl' } n) (IntKind.wrap .i64 (n - 10))) 0 (by rw [hst, if_neg (by simp [hs])]) (by omega) (((k4.trans k5).trans k6).trans k7) h7 ?_
              simp only [e1, e2, e4, e5, e6, SX, Opd.ev, resVal, resVals, ARes.val, Bool.false_eq_true, Bool.not_false, Bool.not_true, List.getD_cons_succ, List.getD_cons_zero, List.map_cons, List.map_nil, Nat.add_zero, Nat.zero_add, Option.map_none, Option.map_some, Option.some.injEq, and_true, decide_false, decide_true, true_and, reduceCtorEq, Nat.reduceEqDiff, ↓reduceIte, Int.reduceEq, Int.reduceLT, Int.reduceLE, Nat.reduceAdd]
          · have dy : decide (y = 0) = false := by simpa using cy
            have hoff : offOf (x :: y :: t) = false := by simp [offOf, cy]
            simp only [e1, e2, e4, e5, e6, lngV_slc, d, xr, lr, c0', c38', c48', wantV_undef, xv, lc, lp, dl, x1, l1, dy, SX, Opd.ev, resVal, resVals, ARes.val, Bool.false_eq_true, Bool.not_false, Bool.not_true, List.getD_cons_succ, List.getD_cons_zero, List.map_cons, List.map_nil, Nat.add_zero, Nat.zero_add, Option.map_none, Option.map_some, Option.some.injEq, and_true, decide_false, decide_true, true_and, reduceCtorEq, Nat.reduceEqDiff, ↓reduceIte, Int.reduceEq, Int.reduceLT, Int.reduceLE, Nat.reduceAdd]
            refine (flag_spec aq (p := H.next) (k0 := 5) (fl := a'.fl) (n := n) (off := false) (R := [.int .u8 a'.fk, .int .u32 a'.fn, .int .u8 a'.bk, .int .u32 a'.bn]) (l := [⟨b, 1, ints (L.map fst0)⟩, ⟨H1.next, 5, At.zero.cs⟩]) h4 g4t).mono ?_
            rintro r H5 ⟨rfl, h5, k5, n5⟩
            obtain ⟨fl', hfl'⟩ : ∃ fl', (flagP a'.fl n false).1 = fl' := ⟨_, rfl⟩
            rw [hoff, hfl'] at hst
            rw [hfl'] at h5
            cases hs : (flagP a'.fl n false).2 with
            | true =>
              simp only [e1, e2, e4, e5, e6, hs, w0, SX, Opd.ev, resVal, resVals, ARes.val, Bool.false_eq_true, Bool.not_false, Bool.not_true, List.getD_cons_succ, List.getD_cons_zero, List.map_cons, List.map_nil, Nat.add_zero, Nat.zero_add, Option.map_none, Option.map_some, Option.some.injEq, and_true, decide_false, decide_true, true_and, reduceCtorEq, Nat.reduceEqDiff, ↓reduceIte, Int.reduceEq, Int.reduceLT, Int.reduceLE, Nat.reduceAdd]
              refine next _ H5 { a' with fl := fl' } 0 (by rw [hst, if_pos hs]) (by omega) (k4.trans k5) h5 ?_
              simp only [e1, e2, e4, e5, e6, SX, Opd.ev, resVal, resVals, ARes.val, Bool.false_eq_true, Bool.not_false, Bool.not_true, List.getD_cons_succ, List.getD_cons_zero, List.map_cons, List.map_nil, Nat.add_zero, Nat.zero_add, Option.map_none, Option.map_some, Option.some.injEq, and_true, decide_false, decide_true, true_and, reduceCtorEq, Nat.reduceEqDiff, ↓reduceIte, Int.reduceEq, Int.reduceLT, Int.reduceLE, Nat.reduceAdd]
            | false =>
              simp only [e1, e2, e4, e5, e6, hs, SX, Opd.ev, resVal, resVals, ARes.val, Bool.false_eq_true, Bool.not_false, Bool.not_true, List.getD_cons_succ, List.getD_cons_zero, List.map_cons, List.map_nil, Nat.add_zero, Nat.zero_add, Option.map_none, Option.map_some, Option.some.injEq, and_true, decide_false, decide_true, true_and, reduceCtorEq, Nat.reduceEqDiff, ↓reduceIte, Int.reduceEq, Int.reduceLT, Int.reduceLE, Nat.reduceAdd]
              refine (short_spec aq (A := [.int .u16 fl']) (C := [.int .u8 a'.bk, .int .u32 a'.bn]) (p := H.next) (k0 := 5) (n := n) (c := a'.fk) (d := a'.fn) h5 rfl).mono ?_
              rintro r H6 ⟨h6, k6, n6⟩
              simp only [e1, e2, e4, e5, e6, SX, Opd.ev, resVal, resVals, ARes.val, Bool.false_eq_true, Bool.not_false, Bool.not_true, List.getD_cons_succ, List.getD_cons_zero, List.map_cons, List.map_nil, Nat.add_zero, Nat.zero_add, Option.map_none, Option.map_some, Option.some.injEq, and_true, decide_false, decide_true, true_and, reduceCtorEq, Nat.reduceEqDiff, ↓reduceIte, Int.reduceEq, Int.reduceLT, Int.reduceLE, Nat.reduceAdd]
              refine (short_spec aq (A := [.int .u16 fl', .int .u8 ((shortP n).getD (a'.fk, a'.fn)).1, .int .u32 ((shortP n).getD (a'.fk, a'.fn)).2]) (C := []) (p := H.next) (k0 := 5) (n := IntKind.wrap .i64 (n - 10)) (c := a'.bk) (d := a'.bn) h6 rfl).mono ?_
              rintro r H7 ⟨h7, k7, n7⟩
              simp only [e1, e2, e4, e5, e6, w0, SX, Opd.ev, resVal, resVals, ARes.val, Bool.false_eq_true, Bool.not_false, Bool.not_true, List.getD_cons_succ, List.getD_cons_zero, List.map_cons, List.map_nil, Nat.add_zero, Nat.zero_add, Option.map_none, Option.map_some, Option.some.injEq, and_true, decide_false, decide_true, true_and, reduceCtorEq, Nat.reduceEqDiff, ↓reduceIte, Int.reduceEq, Int.reduceLT, Int.reduceLE, Nat.reduceAdd]
              refine next _ H7 (shortB (shortA { a' with fl := fl' } n) (IntKind.wrap .i64 (n - 10))) 0 (by rw [hst, if_neg (by simp [hs])]) (by omega) (((k4.trans k5).trans k6).trans k7) h7 ?_
              simp only [e1, e2, e4, e5, e6, SX, Opd.ev, resVal, resVals, ARes.val, Bool.false_eq_true, Bool.not_false, Bool.not_true, List.getD_cons_succ, List.getD_cons_zero, List.map_cons, List.map_nil, Nat.add_zero, Nat.zero_add, Option.map_none, Option.map_some, Option.some.injEq, and_true, decide_false, decide_true, true_and, reduceCtorEq, Nat.reduceEqDiff, ↓reduceIte, Int.reduceEq, Int.reduceLT, Int.reduceLE, Nat.reduceAdd]
        · have dl : decide ((1 : Int) < (p.length : Nat)) = false := by simp only [decide_eq_false_iff_not]; omega
          have hoff : offOf p = false := by simp only [offOf, decide_eq_false_iff_not]; exact fun h => cl h.1
          simp only [e1, e2, e4, e5, e6, lngV_slc, d, xr, lr, c0', c38', c48', wantV_undef, xv, lc, lp, dl, SX, Opd.ev, resVal, resVals, ARes.val, Bool.false_eq_true, Bool.not_false, Bool.not_true, List.getD_cons_succ, List.getD_cons_zero, List.map_cons, List.map_nil, Nat.add_zero, Nat.zero_add, Option.map_none, Option.map_some, Option.some.injEq, and_true, decide_false, decide_true, true_and, reduceCtorEq, Nat.reduceEqDiff, ↓reduceIte, Int.reduceEq, Int.reduceLT, Int.reduceLE, Nat.reduceAdd]
          refine (flag_spec aq (p := H.next) (k0 := 5) (fl := a'.fl) (n := n) (off := false) (R := [.int .u8 a'.fk, .int .u32 a'.fn, .int .u8 a'.bk, .int .u32 a'.bn]) (l := [⟨b, 1, ints (L.map fst0)⟩, ⟨H1.next, 5, At.zero.cs⟩]) h4 g4t).mono ?_
          rintro r H5 ⟨rfl, h5, k5, n5⟩
          obtain ⟨fl', hfl'⟩ : ∃ fl', (flagP a'.fl n false).1 = fl' := ⟨_, rfl⟩
          rw [hoff, hfl'] at hst
          rw [hfl'] at h5
          cases hs : (flagP a'.fl n false).2 with
          | true =>
            simp only [e1, e2, e4, e5, e6, hs, w0, SX, Opd.ev, resVal, resVals, ARes.val, Bool.false_eq_true, Bool.not_false, Bool.not_true, List.getD_cons_succ, List.getD_cons_zero, List.map_cons, List.map_nil, Nat.add_zero, Nat.zero_add, Option.map_none, Option.map_some, Option.some.injEq, and_true, decide_false, decide_true, true_and, reduceCtorEq, Nat.reduceEqDiff, ↓reduceIte, Int.reduceEq, Int.reduceLT, Int.reduceLE, Nat.reduceAdd]
            refine next _ H5 { a' with fl := fl' } 0 (by rw [hst, if_pos hs]) (by omega) (k4.trans k5) h5 ?_
            simp only [e1, e2, e4, e5, e6, SX, Opd.ev, resVal, resVals, ARes.val, Bool.false_eq_true, Bool.not_false, Bool.not_true, List.getD_cons_succ, List.getD_cons_zero, List.map_cons, List.map_nil, Nat.add_zero, Nat.zero_add, Option.map_none, Option.map_some, Option.some.injEq, and_true, decide_false, decide_true, true_and, reduceCtorEq, Nat.reduceEqDiff, ↓reduceIte, Int.reduceEq, Int.reduceLT, Int.reduceLE, Nat.reduceAdd]
          | false =>
            simp only [e1, e2, e4, e5, e6, hs, SX, Opd.ev, resVal, resVals, ARes.val, Bool.false_eq_true, Bool.not_false, Bool.not_true, List.getD_cons_succ, List.getD_cons_zero, List.map_cons, List.map_nil, Nat.add_zero, Nat.zero_add, Option.map_none, Option.map_some, Option.some.injEq, and_true, decide_false, decide_true, true_and, reduceCtorEq, Nat.reduceEqDiff, ↓reduceIte, Int.reduceEq, Int.reduceLT, Int.reduceLE, Nat.reduceAdd]
            refine (short_spec aq (A := [.int .u16 fl']) (C := [.int .u8 a'.bk, .int .u32 a'.bn]) (p := H.next) (k0 := 5) (n := n) (c := a'.fk) (d := a'.fn) h5 rfl).mono ?_
            rintro r H6 ⟨h6, k6, n6⟩
            simp only [e1, e2, e4, e5, e6, SX, Opd.ev, resVal, resVals, ARes.val, Bool.false_eq_true, Bool.not_false, Bool.not_true, List.getD_cons_succ, List.getD_cons_zero, List.map_cons, List.map_nil, Nat.add_zero, Nat.zero_add, Option.map_none, Option.map_some, Option.some.injEq, and_true, decide_false, decide_true, true_and, reduceCtorEq, Nat.reduceEqDiff, ↓reduceIte, Int.reduceEq, Int.reduceLT, Int.reduceLE, Nat.reduceAdd]
            refine (short_spec aq (A := [.int .u16 fl', .int .u8 ((shortP n).getD (a'.fk, a'.fn)).1, .int .u32 ((shortP n).getD (a'.fk, a'.fn)).2]) (C := []) (p := H.next) (k0 := 5) (n := IntKind.wrap .i64 (n - 10)) (c := a'.bk) (d := a'.bn) h6 rfl).mono ?_
            rintro r H7 ⟨h7, k7, n7⟩
            simp only [e1, e2, e4, e5, e6, w0, SX, Opd.ev, resVal, resVals, ARes.val, Bool.false_eq_true, Bool.not_false, Bool.not_true, List.getD_cons_succ, List.getD_cons_zero, List.map_cons, List.map_nil, Nat.add_zero, Nat.zero_add, Option.map_none, Option.map_some, Option.some.injEq, and_true, decide_false, decide_true, true_and, reduceCtorEq, Nat.reduceEqDiff, ↓reduceIte, Int.reduceEq, Int.reduceLT, Int.reduceLE, Nat.reduceAdd]
            refine next _ H7 (shortB (shortA { a' with fl := fl' } n) (IntKind.wrap .i64 (n - 10))) 0 (by rw [hst, if_neg (by simp [hs])]) (by omega) (((k4.trans k5).trans k6).trans k7) h7 ?_
            simp only [e1, e2, e4, e5, e6, SX, Opd.ev, resVal, resVals, ARes.val, Bool.false_eq_true, Bool.not_false, Bool.not_true, List.getD_cons_succ, List.getD_cons_zero, List.map_cons, List.map_nil, Nat.add_zero, Nat.zero_add, Option.map_none, Option.map_some, Option.some.injEq, and_true, decide_false, decide_true, true_and, reduceCtorEq, Nat.reduceEqDiff, ↓reduceIte, Int.reduceEq, Int.reduceLT, Int.reduceLE, Nat.reduceAdd]
    · have hil : i = L.length := by omega
      rw [hil, List.drop_length, applyF_nil] at hap
      have ld : loadV H4 (some 5) (.ptr H.next 0) = some a'.val := h4.loadN (List.mem_cons_self ..) rfl
      have h4' : Hp H.next H4 (⟨H1.next, 5, At.zero.cs⟩ :: ⟨H.next, 5, a'.cs⟩ :: [⟨b, 1, ints (L.map fst0)⟩]) := h4.rot3
      obtain ⟨H5, s5, h5, k5, n5⟩ := h4'.storeN (n := 5) (new := a'.cs) rfl rfl rfl
      have s5 : storeE H4 5 (.ptr H1.next 0) a'.val = some (.undef, H5) := s5
      have l5 : loadV H5 (some 5) (.ptr H1.next 0) = some a'.val := h5.loadN (List.mem_cons_self ..) rfl
      simp only [e1, e2, e4, e5, e6, lngV_slc, d, ld, s5, l5, resVal, resVals, ARes.val, SX, Opd.ev, resVal, resVals, ARes.val, Bool.false_eq_true, Bool.not_false, Bool.not_true, List.getD_cons_succ, List.getD_cons_zero, List.map_cons, List.map_nil, Nat.add_zero, Nat.zero_add, Option.map_none, Option.map_some, Option.some.injEq, and_true, decide_false, decide_true, true_and, reduceCtorEq, Nat.reduceEqDiff, ↓reduceIte, Int.reduceEq, Int.reduceLT, Int.reduceLE, Nat.reduceAdd]
      rw [hres, ← hap]
      exact ⟨rfl, h5.gr (k4.trans k5)⟩
end
def bitP (n : Int) : Int := if n = 1 then 1 else if n = 2 then 2 else if n = 3 then 4 else if n = 4 then 8 else if n = 5 then 16 else if n = 7 then 32 else if n = 8 then 64 else if n = 9 then 128 else 0
def colorP (k n : Int) : Bool := decide ((k = 0 ∧ n = 0) ∨ (k = 1 ∧ n ≤ 255) ∨ (k = 2 ∧ n < 16777216))
def rightP (a : At) : Bool := decide (a.fl ≤ 255) && (colorP a.fk a.fn && colorP a.bk a.bn)
section
variable {Q : Prog} (aq : AtQ Q) {H : AHeap}
include aq
set_option maxRecDepth 100000 in
theorem bit_run {n : Int} (hn : n = 1 ∨ n = 2 ∨ n = 3 ∨ n = 4 ∨ n = 5 ∨ n = 7 ∨ n = 8 ∨ n = 9) : FnTo Q 37 [.int .i64 n] H (fun r H' => r = .int .u16 (bitP n) ∧ H' = H) := by
  rcases hn with rfl | rfl | rfl | rfl | rfl | rfl | rfl | rfl
  all_goals
    refine ⟨10, _, _, fun k hk => ?_, rfl, rfl⟩
    obtain ⟨m, rfl⟩ : ∃ m, k = m + 10 := ⟨k - 10, by omega⟩
    simp only [callF, aq.ho 37 rfl, aq.q37]
    kernel_rfl
set_option maxHeartbeats 4000000 in
theorem bit_spec (n : Int) : FnTo Q 37 [.int .i64 n] H (fun r H' => r = .int .u16 (bitP n) ∧ H' = H) := by
  by_cases hn : n = 1 ∨ n = 2 ∨ n = 3 ∨ n = 4 ∨ n = 5 ∨ n = 7 ∨ n = 8 ∨ n = 9
  · exact bit_run aq hn
  · refine fn_wp (aq.ho 37 rfl _) aq.q37 (by simp [A37]) ?_
    have d1 : decide (n = 1) = false := by simp only [decide_eq_false_iff_not]; omega
    have d2 : decide (n = 2) = false := by simp only [decide_eq_false_iff_not]; omega
    have d3 : decide (n = 3) = false := by simp only [decide_eq_false_iff_not]; omega
    have d4 : decide (n = 4) = false := by simp only [decide_eq_false_iff_not]; omega
    have d5 : decide (n = 5) = false := by simp only [decide_eq_false_iff_not]; omega
    have d7 : decide (n = 7) = false := by simp only [decide_eq_false_iff_not]; omega
    have d8 : decide (n = 8) = false := by simp only [decide_eq_false_iff_not]; omega
    have d9 : decide (n = 9) = false := by simp only [decide_eq_false_iff_not]; omega
    simp only [A37, d1, d2, d3, d4, d5, d7, d8, d9, SX, Opd.ev, resVal, resVals, ARes.val, Bool.false_eq_true, Bool.not_false, Bool.not_true, List.getD_cons_succ, List.getD_cons_zero, List.map_cons, List.map_nil, Nat.add_zero, Nat.zero_add, Option.map_none, Option.map_some, Option.some.injEq, and_true, decide_false, decide_true, true_and, reduceCtorEq, Nat.reduceEqDiff, ↓reduceIte, Int.reduceEq, Int.reduceLT, Int.reduceLE, Nat.reduceAdd]
    unfold bitP
    (repeat' split) <;> first | rfl | (exfalso; omega)
theorem part_spec {c : AV} {p : List Int} (hc : IsS IsI H c p) : FnTo Q 35 [c, .int .i64 0] H (fun r H' => r = .int .i64 (fst0 p) ∧ H' = H) := by
  refine fn_wp (aq.ho 35 rfl _) aq.q35 (by simp [A35]) ?_
  have lp := hc.len
  cases p with
  | nil =>
    have d0 : decide ((0 : Int) < (([] : List Int).length : Nat)) = false := rfl
    simp only [A35, lp, d0, SX, Opd.ev, resVal, resVals, ARes.val, Bool.false_eq_true, Bool.not_false, Bool.not_true, List.getD_cons_succ, List.getD_cons_zero, List.map_cons, List.map_nil, Nat.add_zero, Nat.zero_add, Option.map_none, Option.map_some, Option.some.injEq, and_true, decide_false, decide_true, true_and, reduceCtorEq, Nat.reduceEqDiff, ↓reduceIte, Int.reduceEq, Int.reduceLT, Int.reduceLE, Nat.reduceAdd]
    rfl
  | cons a p =>
    have d0 : decide ((0 : Int) < ((a :: p).length : Nat)) = true := by simp only [List.length_cons, decide_eq_true_eq]; omega
    have x0 := hc.at (i := 0) (by omega) (by simp) .i64
    have l0 := hc.int (i := 0) (a := a) rfl
    simp only [A35, lp, d0, x0, l0, SX, Opd.ev, resVal, resVals, ARes.val, Bool.false_eq_true, Bool.not_false, Bool.not_true, List.getD_cons_succ, List.getD_cons_zero, List.map_cons, List.map_nil, Nat.add_zero, Nat.zero_add, Option.map_none, Option.map_some, Option.some.injEq, and_true, decide_false, decide_true, true_and, reduceCtorEq, Nat.reduceEqDiff, ↓reduceIte, Int.reduceEq, Int.reduceLT, Int.reduceLE, Nat.reduceAdd]
    rfl
theorem fits_spec (n : Int) : FnTo Q 50 [.int .i64 n] H (fun r H' => r = .bool (decide (inB n)) ∧ H' = H) := by
  refine fn_wp (aq.ho 50 rfl _) aq.q50 (by simp [A50]) ?_
  by_cases c1 : 0 ≤ n
  · have d1 : decide (0 ≤ n) = true := by simpa using c1
    simp only [A50, d1, SX, Opd.ev, resVal, resVals, ARes.val, Bool.false_eq_true, Bool.not_false, Bool.not_true, List.getD_cons_succ, List.getD_cons_zero, List.map_cons, List.map_nil, Nat.add_zero, Nat.zero_add, Option.map_none, Option.map_some, Option.some.injEq, and_true, decide_false, decide_true, true_and, reduceCtorEq, Nat.reduceEqDiff, ↓reduceIte, Int.reduceEq, Int.reduceLT, Int.reduceLE, Nat.reduceAdd]
    simp [inB, c1]
  · have d1 : decide (0 ≤ n) = false := by simpa using c1
    simp only [A50, d1, wantV_undef, SX, Opd.ev, resVal, resVals, ARes.val, Bool.false_eq_true, Bool.not_false, Bool.not_true, List.getD_cons_succ, List.getD_cons_zero, List.map_cons, List.map_nil, Nat.add_zero, Nat.zero_add, Option.map_none, Option.map_some, Option.some.injEq, and_true, decide_false, decide_true, true_and, reduceCtorEq, Nat.reduceEqDiff, ↓reduceIte, Int.reduceEq, Int.reduceLT, Int.reduceLE, Nat.reduceAdd]
    simp [inB, c1]
set_option maxHeartbeats 4000000 in
theorem shortR_spec (n : Int) (hf : Fr H) : FnTo Q 38 [.int .i64 n] H (fun r H' => r = .tup [.agg [.int .u8 ((shortP n).getD (0, 0)).1, .int .u32 ((shortP n).getD (0, 0)).2], .bool (shortP n).isSome] ∧ Gr H H') := by
  refine fn_wp (aq.ho 38 rfl _) aq.q38 (by simp [A38]) ?_
  obtain ⟨H1, s1, h1, k1⟩ := (Hp.nil H hf).make [.int .u8 0, .int .u32 0] 2
  have b1 : ∀ x : Int, buildV [AV.int .u8 0, .int .u32 0] [(0, 1, .int .u8 1), (1, 1, .int .u32 x)] = some (.agg [.int .u8 1, .int .u32 x]) := fun x => rfl
  have b0 : buildV [AV.int .u8 0, .int .u32 0] [] = some (.agg [.int .u8 0, .int .u32 0]) := rfl
  have st : ∀ x y : Int, ∃ H2, storeE H1 2 (.ptr H.next 0) (.agg [.int .u8 x, .int .u32 y]) = some (.undef, H2) ∧ loadV H2 (some 2) (.ptr H.next 0) = some (.agg [.int .u8 x, .int .u32 y]) ∧ Gr H H2 := fun x y => by
    obtain ⟨H2, s, h, k, n⟩ := h1.storeN (n := 2) (new := [.int .u8 x, .int .u32 y]) rfl rfl rfl
    exact ⟨H2, s, h.loadN (List.mem_cons_self ..) rfl, h.gr (k1.trans k)⟩
  by_cases c1 : 30 ≤ n ∧ n ≤ 37
  · obtain ⟨H2, s2, l2, g2⟩ := st 1 (n - 30)
    have d1 : decide (30 ≤ n) = true := by simpa using c1.1
    have d2 : decide (n ≤ 37) = true := by simpa using c1.2
    have w1 : IntKind.wrap .i64 (n - 30) = n - 30 := wrapI64 (by omega) (by omega)
    have w2 : IntKind.wrap .u32 (n - 30) = n - 30 := wrapU32 (by omega) (by omega)
    simp only [A38, run_allocL, s1, d1, d2, w1, w2, run_build, b1, s2, l2, resVal, resVals, ARes.val, SX, Opd.ev, resVal, resVals, ARes.val, Bool.false_eq_true, Bool.not_false, Bool.not_true, List.getD_cons_succ, List.getD_cons_zero, List.map_cons, List.map_nil, Nat.add_zero, Nat.zero_add, Option.map_none, Option.map_some, Option.some.injEq, and_true, decide_false, decide_true, true_and, reduceCtorEq, Nat.reduceEqDiff, ↓reduceIte, Int.reduceEq, Int.reduceLT, Int.reduceLE, Nat.reduceAdd]
    unfold shortP; rw [if_pos c1]; exact ⟨rfl, g2⟩
  by_cases c2 : 90 ≤ n ∧ n ≤ 97
  · obtain ⟨H2, s2, l2, g2⟩ := st 1 (n - 82)
    have d1 : decide (30 ≤ n) = true := by simp only [decide_eq_true_eq]; omega
    have d2 : decide (n ≤ 37) = false := by simp only [decide_eq_false_iff_not]; omega
    have d3 : decide (90 ≤ n) = true := by simpa using c2.1
    have d4 : decide (n ≤ 97) = true := by simpa using c2.2
    have w1 : IntKind.wrap .i64 (n - 82) = n - 82 := wrapI64 (by omega) (by omega)
    have w2 : IntKind.wrap .u32 (n - 82) = n - 82 := wrapU32 (by omega) (by omega)
    simp only [A38, run_allocL, s1, d1, d2, d3, d4, w1, w2, run_build, b1, s2, l2, wantV_undef, resVal, resVals, ARes.val, SX, Opd.ev, resVal, resVals, ARes.val, Bool.false_eq_true, Bool.not_false, Bool.not_true, List.getD_cons_succ, List.getD_cons_zero, List.map_cons, List.map_nil, Nat.add_zero, Nat.zero_add, Option.map_none, Option.map_some, Option.some.injEq, and_true, decide_false, decide_true, true_and, reduceCtorEq, Nat.reduceEqDiff, ↓reduceIte, Int.reduceEq, Int.reduceLT, Int.reduceLE, Nat.reduceAdd]
    unfold shortP; rw [if_neg c1, if_pos c2]; exact ⟨rfl, g2⟩
  obtain ⟨H2, s2, l2, g2⟩ := st 0 0
  have hr : AV.tup [.agg [.int .u8 0, .int .u32 0], .bool (decide (n = 39))] = .tup [.agg [.int .u8 ((shortP n).getD (0, 0)).1, .int .u32 ((shortP n).getD (0, 0)).2], .bool (shortP n).isSome] := by
    unfold shortP; rw [if_neg c1, if_neg c2]
    by_cases c3 : n = 39
    · rw [if_pos c3]; simp [c3]
    · rw [if_neg c3]; simp [c3]
  by_cases x1 : 30 ≤ n
  · have d1 : decide (30 ≤ n) = true := by simpa using x1
    have d2 : decide (n ≤ 37) = false := by simp only [decide_eq_false_iff_not]; omega
    by_cases x2 : 90 ≤ n
    · have d3 : decide (90 ≤ n) = true := by simpa using x2
      have d4 : decide (n ≤ 97) = false := by simp only [decide_eq_false_iff_not]; omega
      simp only [A38, run_allocL, s1, d1, d2, d3, d4, run_build, b0, s2, l2, wantV_undef, resVal, resVals, ARes.val, SX, Opd.ev, resVal, resVals, ARes.val, Bool.false_eq_true, Bool.not_false, Bool.not_true, List.getD_cons_succ, List.getD_cons_zero, List.map_cons, List.map_nil, Nat.add_zero, Nat.zero_add, Option.map_none, Option.map_some, Option.some.injEq, and_true, decide_false, decide_true, true_and, reduceCtorEq, Nat.reduceEqDiff, ↓reduceIte, Int.reduceEq, Int.reduceLT, Int.reduceLE, Nat.reduceAdd]
      exact ⟨hr, g2⟩
    · have d3 : decide (90 ≤ n) = false := by simpa using x2
      simp only [A38, run_allocL, s1, d1, d2, d3, run_build, b0, s2, l2, wantV_undef, resVal, resVals, ARes.val, SX, Opd.ev, resVal, resVals, ARes.val, Bool.false_eq_true, Bool.not_false, Bool.not_true, List.getD_cons_succ, List.getD_cons_zero, List.map_cons, List.map_nil, Nat.add_zero, Nat.zero_add, Option.map_none, Option.map_some, Option.some.injEq, and_true, decide_false, decide_true, true_and, reduceCtorEq, Nat.reduceEqDiff, ↓reduceIte, Int.reduceEq, Int.reduceLT, Int.reduceLE, Nat.reduceAdd]
      exact ⟨hr, g2⟩
  · have d1 : decide (30 ≤ n) = false := by simpa using x1
    have d3 : decide (90 ≤ n) = false := by simp only [decide_eq_false_iff_not]; omega
    simp only [A38, run_allocL, s1, d1, d3, run_build, b0, s2, l2, wantV_undef, resVal, resVals, ARes.val, SX, Opd.ev, resVal, resVals, ARes.val, Bool.false_eq_true, Bool.not_false, Bool.not_true, List.getD_cons_succ, List.getD_cons_zero, List.map_cons, List.map_nil, Nat.add_zero, Nat.zero_add, Option.map_none, Option.map_some, Option.some.injEq, and_true, decide_false, decide_true, true_and, reduceCtorEq, Nat.reduceEqDiff, ↓reduceIte, Int.reduceEq, Int.reduceLT, Int.reduceLE, Nat.reduceAdd]
    exact ⟨hr, g2⟩
omit aq in
theorem box2 (k n : Int) : boxV (.agg [.int .u8 k, .int .u32 n]) = some (.row ⟨[.int .u8 k, .int .u32 n], 0, false, true⟩, .ptr) := rfl
set_option maxHeartbeats 4000000 in
theorem color_spec (k n : Int) (hf : Fr H) : FnTo Q 34 [.agg [.int .u8 k, .int .u32 n]] H (fun r H' => r = .bool (colorP k n) ∧ Gr H H') := by
  refine fn_wp (aq.ho 34 rfl _) aq.q34 (by simp [A34]) ?_
  obtain ⟨H1, s1, h1, k1⟩ := (Hp.nil H hf).make [.int .u8 k, .int .u32 n] 2
  have l0 := h1.load (b := H.next) (k := 2) (List.mem_cons_self ..) (o := 0) (v := .int .u8 k) rfl
  have l1 := h1.load (b := H.next) (k := 2) (List.mem_cons_self ..) (o := 1) (v := .int .u32 n) rfl
  have g1 := h1.gr k1
  by_cases c0 : k = 0
  · subst c0
    have d0 : decide ((0 : Int) = 0) = true := rfl
    by_cases n0 : n = 0
    · have e0 : decide (n = 0) = true := by simpa using n0
      simp only [A34, run_box, box2, s1, l0, l1, d0, e0, wantV_undef, SX, Opd.ev, resVal, resVals, ARes.val, Bool.false_eq_true, Bool.not_false, Bool.not_true, List.getD_cons_succ, List.getD_cons_zero, List.map_cons, List.map_nil, Nat.add_zero, Nat.zero_add, Option.map_none, Option.map_some, Option.some.injEq, and_true, decide_false, decide_true, true_and, reduceCtorEq, Nat.reduceEqDiff, ↓reduceIte, Int.reduceEq, Int.reduceLT, Int.reduceLE, Nat.reduceAdd]
      exact ⟨by simp [colorP, n0], g1⟩
    · have e0 : decide (n = 0) = false := by simpa using n0
      have d1 : decide ((0 : Int) = 1) = false := rfl
      have d2 : decide ((0 : Int) = 2) = false := rfl
      simp only [A34, run_box, box2, s1, l0, l1, d0, d1, d2, e0, wantV_undef, SX, Opd.ev, resVal, resVals, ARes.val, Bool.false_eq_true, Bool.not_false, Bool.not_true, List.getD_cons_succ, List.getD_cons_zero, List.map_cons, List.map_nil, Nat.add_zero, Nat.zero_add, Option.map_none, Option.map_some, Option.some.injEq, and_true, decide_false, decide_true, true_and, reduceCtorEq, Nat.reduceEqDiff, ↓reduceIte, Int.reduceEq, Int.reduceLT, Int.reduceLE, Nat.reduceAdd]
      exact ⟨by simp [colorP, n0], g1⟩
  have d0 : decide (k = 0) = false := by simpa using c0
  by_cases c1 : k = 1
  · subst c1
    have d1 : decide ((1 : Int) = 1) = true := rfl
    have d2 : decide ((1 : Int) = 2) = false := rfl
    by_cases n0 : n ≤ 255
    · have e0 : decide (n ≤ 255) = true := by simpa using n0
      simp only [A34, run_box, box2, s1, l0, l1, d0, d1, e0, wantV_undef, SX, Opd.ev, resVal, resVals, ARes.val, Bool.false_eq_true, Bool.not_false, Bool.not_true, List.getD_cons_succ, List.getD_cons_zero, List.map_cons, List.map_nil, Nat.add_zero, Nat.zero_add, Option.map_none, Option.map_some, Option.some.injEq, and_true, decide_false, decide_true, true_and, reduceCtorEq, Nat.reduceEqDiff, ↓reduceIte, Int.reduceEq, Int.reduceLT, Int.reduceLE, Nat.reduceAdd]
      exact ⟨by simp [colorP, n0], g1⟩
    · have e0 : decide (n ≤ 255) = false := by simpa using n0
      simp only [A34, run_box, box2, s1, l0, l1, d0, d1, d2, e0, wantV_undef, SX, Opd.ev, resVal, resVals, ARes.val, Bool.false_eq_true, Bool.not_false, Bool.not_true, List.getD_cons_succ, List.getD_cons_zero, List.map_cons, List.map_nil, Nat.add_zero, Nat.zero_add, Option.map_none, Option.map_some, Option.some.injEq, and_true, decide_false, decide_true, true_and, reduceCtorEq, Nat.reduceEqDiff, ↓reduceIte, Int.reduceEq, Int.reduceLT, Int.reduceLE, Nat.reduceAdd]
      exact ⟨by simp [colorP, n0], g1⟩
  have d1 : decide (k = 1) = false := by simpa using c1
  by_cases c2 : k = 2
  · have d2 : decide (k = 2) = true := by simpa using c2
    simp only [A34, run_box, box2, s1, l0, l1, d0, d1, d2, wantV_undef, SX, Opd.ev, resVal, resVals, ARes.val, Bool.false_eq_true, Bool.not_false, Bool.not_true, List.getD_cons_succ, List.getD_cons_zero, List.map_cons, List.map_nil, Nat.add_zero, Nat.zero_add, Option.map_none, Option.map_some, Option.some.injEq, and_true, decide_false, decide_true, true_and, reduceCtorEq, Nat.reduceEqDiff, ↓reduceIte, Int.reduceEq, Int.reduceLT, Int.reduceLE, Nat.reduceAdd]
    exact ⟨by simp [colorP, c0, c1, c2], g1⟩
  · have d2 : decide (k = 2) = false := by simpa using c2
    simp only [A34, run_box, box2, s1, l0, l1, d0, d1, d2, wantV_undef, SX, Opd.ev, resVal, resVals, ARes.val, Bool.false_eq_true, Bool.not_false, Bool.not_true, List.getD_cons_succ, List.getD_cons_zero, List.map_cons, List.map_nil, Nat.add_zero, Nat.zero_add, Option.map_none, Option.map_some, Option.some.injEq, and_true, decide_false, decide_true, true_and, reduceCtorEq, Nat.reduceEqDiff, ↓reduceIte, Int.reduceEq, Int.reduceLT, Int.reduceLE, Nat.reduceAdd]
    exact ⟨by simp [colorP, c0, c1, c2], g1⟩
set_option maxHeartbeats 4000000 in
theorem colorR_spec (k n : Int) (hf : Fr H) : FnTo Q 39 [.agg [.int .u8 k, .int .u32 n]] H (fun r H' => r = .bool (colorP k n) ∧ Gr H H') := by
  refine fn_wp (aq.ho 39 rfl _) aq.q39 (by simp [A39]) ?_
  obtain ⟨H1, s1, h1, k1⟩ := (Hp.nil H hf).make [.int .u8 k, .int .u32 n] 2
  have l0 := h1.load (b := H.next) (k := 2) (List.mem_cons_self ..) (o := 0) (v := .int .u8 k) rfl
  have l1 := h1.load (b := H.next) (k := 2) (List.mem_cons_self ..) (o := 1) (v := .int .u32 n) rfl
  have g1 := h1.gr k1
  by_cases c0 : k = 0
  · have d0 : decide (k = 0) = true := by simpa using c0
    simp only [A39, run_box, box2, s1, l0, l1, d0, SX, Opd.ev, resVal, resVals, ARes.val, Bool.false_eq_true, Bool.not_false, Bool.not_true, List.getD_cons_succ, List.getD_cons_zero, List.map_cons, List.map_nil, Nat.add_zero, Nat.zero_add, Option.map_none, Option.map_some, Option.some.injEq, and_true, decide_false, decide_true, true_and, reduceCtorEq, Nat.reduceEqDiff, ↓reduceIte, Int.reduceEq, Int.reduceLT, Int.reduceLE, Nat.reduceAdd]
    exact ⟨by simp [colorP, c0], g1⟩
  have d0 : decide (k = 0) = false := by simpa using c0
  by_cases c1 : k = 1
  · have d1 : decide (k = 1) = true := by simpa using c1
    simp only [A39, run_box, box2, s1, l0, l1, d0, d1, SX, Opd.ev, resVal, resVals, ARes.val, Bool.false_eq_true, Bool.not_false, Bool.not_true, List.getD_cons_succ, List.getD_cons_zero, List.map_cons, List.map_nil, Nat.add_zero, Nat.zero_add, Option.map_none, Option.map_some, Option.some.injEq, and_true, decide_false, decide_true, true_and, reduceCtorEq, Nat.reduceEqDiff, ↓reduceIte, Int.reduceEq, Int.reduceLT, Int.reduceLE, Nat.reduceAdd]
    exact ⟨by simp [colorP, c1], g1⟩
  have d1 : decide (k = 1) = false := by simpa using c1
  by_cases c2 : k = 2
  · have d2 : decide (k = 2) = true := by simpa using c2
    simp only [A39, run_box, box2, s1, l0, l1, d0, d1, d2, SX, Opd.ev, resVal, resVals, ARes.val, Bool.false_eq_true, Bool.not_false, Bool.not_true, List.getD_cons_succ, List.getD_cons_zero, List.map_cons, List.map_nil, Nat.add_zero, Nat.zero_add, Option.map_none, Option.map_some, Option.some.injEq, and_true, decide_false, decide_true, true_and, reduceCtorEq, Nat.reduceEqDiff, ↓reduceIte, Int.reduceEq, Int.reduceLT, Int.reduceLE, Nat.reduceAdd]
    refine ⟨?_, g1⟩
    simp only [colorP, c2]
    congr 1
    have : (n ≤ 16777215) ↔ (n < 16777216) := by omega
    simp [this]
  · have d2 : decide (k = 2) = false := by simpa using c2
    simp only [A39, run_box, box2, s1, l0, l1, d0, d1, d2, SX, Opd.ev, resVal, resVals, ARes.val, Bool.false_eq_true, Bool.not_false, Bool.not_true, List.getD_cons_succ, List.getD_cons_zero, List.map_cons, List.map_nil, Nat.add_zero, Nat.zero_add, Option.map_none, Option.map_some, Option.some.injEq, and_true, decide_false, decide_true, true_and, reduceCtorEq, Nat.reduceEqDiff, ↓reduceIte, Int.reduceEq, Int.reduceLT, Int.reduceLE, Nat.reduceAdd]
    exact ⟨by simp [colorP, c0, c1, c2], g1⟩
end
theorem paint5 (n : Int) (t : List Int) : paintP (5 :: n :: t) = if inB n then ⟨1, n, true⟩ else Co.no := by
  have hw : wantN 5 = 2 := rfl
  rw [paintP_cons, hw, if_neg (by simp)]
  have ht : (n :: t).take (2 - 1) = [n] := rfl
  rw [ht]
  by_cases h : inB n
  · rw [if_pos (by simpa using h), if_pos h]
    have : acc8 [n] = n := by simp [acc8]
    rw [this]; rfl
  · rw [if_neg (fun hh => h (hh n (by simp))), if_neg h]
theorem paint2 (r g b : Int) (t : List Int) : paintP (2 :: r :: g :: b :: t) = if inB r ∧ inB g ∧ inB b then ⟨2, 65536 * r + 256 * g + b, true⟩ else Co.no := by
  have hw : wantN 2 = 4 := rfl
  rw [paintP_cons, hw, if_neg (by simp)]
  have ht : (r :: g :: b :: t).take (4 - 1) = [r, g, b] := rfl
  rw [ht]
  by_cases h : inB r ∧ inB g ∧ inB b
  · have hall : ∀ x ∈ [r, g, b], inB x := by
      intro x hx
      simp only [List.mem_cons, List.not_mem_nil, or_false] at hx
      rcases hx with rfl | rfl | rfl
      · exact h.1
      · exact h.2.1
      · exact h.2.2
    rw [if_pos hall, if_pos h]
    have : acc8 [r, g, b] = 65536 * r + 256 * g + b := by simp [acc8]; omega
    rw [this]; rfl
  · rw [if_neg (fun hh => h ⟨hh r (by simp), hh g (by simp), hh b (by simp)⟩), if_neg h]
theorem paintS {a : Int} {t : List Int} (h : wantN a = 0 ∨ (a :: t).length < wantN a) : paintP (a :: t) = Co.no := by rw [paintP_cons, if_pos h]
theorem IsS.same {α : Type} {R : AHeap → α → AV → Prop} {H : AHeap} {v : AV} {l : List α} (h : IsS R H v l) : AV.same v v = true := by
  rcases h with ⟨rfl, rfl⟩ | ⟨b, o, cap, B, rfl, _⟩
  · rfl
  · simp [AV.same, AV.same1]
section
variable {Q : Prog} (aq : AtQ Q) {H : AHeap}
include aq
set_option maxRecDepth 100000 in
set_option maxHeartbeats 16000000 in
theorem longR_spec {v : AV} {L : List (List Int)} {i : Nat} {p : List Int} {rest : List (List Int)} (hv : IsL H v L) (hL : L.length ≤ 10000) (hdrop : L.drop i = p :: rest) (hp : p.length ≤ 10000) (hf : Fr H) : FnTo Q 36 [v, .int .i64 (i : Int)] H (fun r H' => r = .tup [(longP (p :: rest)).1.col, .int .i64 (longP (p :: rest)).2, .bool (longP (p :: rest)).1.ok] ∧ Gr H H') := by
  refine fn_wp (aq.ho 36 rfl _) aq.q36 (by simp [A36]) ?_
  obtain ⟨H1, s1, h1, k1⟩ := (Hp.nil H hf).make [.int .u8 0, .int .u32 0] 2
  have g1 : Gr H H1 := h1.gr k1
  have hv1 := hv.grow hf g1
  have lv := hv1.len
  have hlen : L.length = i + 1 + rest.length := by
    have := congrArg List.length hdrop
    simp at this; omega
  have hpi : L[i]? = some p := by
    have := congrArg (·[0]?) hdrop
    simpa using this
  have hri : ∀ (j : Nat) (q : List Int), rest[j]? = some q → L[i + 1 + j]? = some q := by
    intro j q hq
    have : (L.drop i)[j + 1]? = some q := by rw [hdrop]; simpa using hq
    rw [List.getElem?_drop] at this
    rw [← this]; congr 1; omega
  have xi := hv1.at (i := (i : Int)) (by omega) (by omega) .i64
  obtain ⟨c, lc, hc⟩ := hv1.get (i := (i : Int)) (a := p) (by simpa using hpi)
  have lp := IsS.len hc
  have st : ∀ x y : Int, ∃ H2, storeE H1 2 (.ptr H.next 0) (.agg [.int .u8 x, .int .u32 y]) = some (.undef, H2) ∧ loadV H2 (some 2) (.ptr H.next 0) = some (.agg [.int .u8 x, .int .u32 y]) ∧ Gr H H2 := fun x y => by
    obtain ⟨H2, s, h, k, n⟩ := h1.storeN (n := 2) (new := [.int .u8 x, .int .u32 y]) rfl rfl rfl
    exact ⟨H2, s, h.loadN (List.mem_cons_self ..) rfl, h.gr (k1.trans k)⟩
  have b0 : buildV [AV.int .u8 0, .int .u32 0] [] = some (.agg [.int .u8 0, .int .u32 0]) := rfl
  have b2 : ∀ k n : Int, buildV [AV.int .u8 0, .int .u32 0] [(0, 1, .int .u8 k), (1, 1, .int .u32 n)] = some (.agg [.int .u8 k, .int .u32 n]) := fun _ _ => rfl
  obtain ⟨H0, s0, l0', g0⟩ := st 0 0
  have fail : ∀ (tk : Int), longP (p :: rest) = (Co.no, tk) → AV.tup [.agg [.int .u8 0, .int .u32 0], .int .i64 tk, .bool false] = .tup [(longP (p :: rest)).1.col, .int .i64 (longP (p :: rest)).2, .bool (longP (p :: rest)).1.ok] := fun tk h => by rw [h]; rfl
  have good : ∀ (k n tk : Int), longP (p :: rest) = (⟨k, n, true⟩, tk) → AV.tup [.agg [.int .u8 k, .int .u32 n], .int .i64 tk, .bool true] = .tup [(longP (p :: rest)).1.col, .int .i64 (longP (p :: rest)).2, .bool (longP (p :: rest)).1.ok] := fun k n tk h => by rw [h]; rfl
  have wu : ∀ x : Int, inB x → IntKind.wrap .u32 x = x := fun x hx => wrapU32 hx.1 (by have := hx.2; omega)
  have rgb : ∀ r g b : Int, inB r → inB g → inB b → IntKind.wrap .i64 (65536 * r) = 65536 * r ∧ IntKind.wrap .i64 (256 * g) = 256 * g ∧ IntKind.wrap .i64 (65536 * r + 256 * g) = 65536 * r + 256 * g ∧ IntKind.wrap .i64 (65536 * r + 256 * g + b) = 65536 * r + 256 * g + b ∧ IntKind.wrap .u32 (65536 * r + 256 * g + b) = 65536 * r + 256 * g + b := by
    intro r g b ⟨r0, r1⟩ ⟨g0, g1⟩ ⟨b0, b1⟩
    exact ⟨wrapI64 (by omega) (by omega), wrapI64 (by omega) (by omega), wrapI64 (by omega) (by omega), wrapI64 (by omega) (by omega), wrapU32 (by omega) (by omega)⟩
  by_cases c1 : 1 < p.length
  · have d1 : decide ((1 : Int) < p.length) = true := by simp only [decide_eq_true_eq]; omega
    have hlg : longP (p :: rest) = (paintP (partsOf p), 0) := by rw [longP_cons, if_pos c1]
    obtain ⟨p0, p1, t, rfl⟩ : ∃ p0 p1 t, p = p0 :: p1 :: t := by
      match p, c1 with
      | p0 :: p1 :: t, _ => exact ⟨p0, p1, t, rfl⟩
    have hparts := partsOf_eq (p := p0 :: p1 :: t) (a := p1) (t := t) rfl
    have x1 := IsS.at hc (i := 1) (by omega) (by simp; omega) .i64
    have l1 := IsS.int hc (i := 1) (a := p1) rfl
    have d5l : ∀ b : Bool, decide (5 < t.length + 2) = b → decide ((5 : Int) < ((p0 :: p1 :: t).length : Nat)) = b := fun b hb => by rw [← hb]; simp only [List.length_cons]; congr 1; apply propext; omega
    by_cases a5 : p1 = 5
    · have e5 : decide (p1 = 5) = true := by simpa using a5
      have e2 : decide (p1 = 2) = false := by simp only [decide_eq_false_iff_not]; omega
      have hpt : partsOf (p0 :: p1 :: t) = 5 :: t := by rw [hparts, if_neg (fun hh => by omega), a5]
      rw [hpt] at hlg
      have second : ∀ e : Env, True := fun _ => trivial
      cases t with
      | nil =>
        have d2 : decide ((2 : Int) < (([p0, p1] : List Int).length : Nat)) = false := rfl
        have d5 : decide ((5 : Int) < (([p0, p1] : List Int).length : Nat)) = false := rfl
        simp only [A36, run_allocL, s1, xi, lc, lp, d1, x1, l1, e5, e2, d2, d5, wantV_undef, run_build, b0, s0, l0', resVal, resVals, ARes.val, SX, Opd.ev, resVal, resVals, ARes.val, Bool.false_eq_true, Bool.not_false, Bool.not_true, List.getD_cons_succ, List.getD_cons_zero, List.map_cons, List.map_nil, Nat.add_zero, Nat.zero_add, Option.map_none, Option.map_some, Option.some.injEq, and_true, decide_false, decide_true, true_and, reduceCtorEq, Nat.reduceEqDiff, ↓reduceIte, Int.reduceEq, Int.reduceLT, Int.reduceLE, Nat.reduceAdd]
        exact ⟨fail 0 (by rw [hlg, paintS (.inr (by simp [wantN]))]), g0⟩
      | cons p2 t =>
        have d2 : decide ((2 : Int) < ((p0 :: p1 :: p2 :: t).length : Nat)) = true := by simp only [decide_eq_true_eq, List.length_cons]; omega
        have x2 := IsS.at hc (i := 2) (by omega) (by simp; omega) .i64
        have l2 := IsS.int hc (i := 2) (a := p2) rfl
        rw [paint5] at hlg
        simp only [A36, run_allocL, s1, xi, lc, lp, d1, x1, l1, e5, d2, x2, l2, wantV_undef, SX, Opd.ev, resVal, resVals, ARes.val, Bool.false_eq_true, Bool.not_false, Bool.not_true, List.getD_cons_succ, List.getD_cons_zero, List.map_cons, List.map_nil, Nat.add_zero, Nat.zero_add, Option.map_none, Option.map_some, Option.some.injEq, and_true, decide_false, decide_true, true_and, reduceCtorEq, Nat.reduceEqDiff, ↓reduceIte, Int.reduceEq, Int.reduceLT, Int.reduceLE, Nat.reduceAdd]
        refine (fits_spec aq p2).mono ?_
        rintro r H2 ⟨rfl, rfl⟩
        by_cases f2 : inB p2
        · have df : decide (inB p2) = true := decide_eq_true f2
          obtain ⟨H3, s3, l3, g3⟩ := st 1 p2
          rw [if_pos f2] at hlg
          simp only [df, x2, l2, wu p2 f2, run_build, b2, s3, l3, resVal, resVals, ARes.val, SX, Opd.ev, resVal, resVals, ARes.val, Bool.false_eq_true, Bool.not_false, Bool.not_true, List.getD_cons_succ, List.getD_cons_zero, List.map_cons, List.map_nil, Nat.add_zero, Nat.zero_add, Option.map_none, Option.map_some, Option.some.injEq, and_true, decide_false, decide_true, true_and, reduceCtorEq, Nat.reduceEqDiff, ↓reduceIte, Int.reduceEq, Int.reduceLT, Int.reduceLE, Nat.reduceAdd]
          exact ⟨good 1 p2 0 hlg, g3⟩
        · have df : decide (inB p2) = false := decide_eq_false f2
          rw [if_neg f2] at hlg
          by_cases z5 : 5 < t.length + 3
          · have d5 : decide ((5 : Int) < ((p0 :: p1 :: p2 :: t).length : Nat)) = true := by simp only [decide_eq_true_eq, List.length_cons]; omega
            simp only [df, lp, d5, x1, l1, e2, wantV_undef, run_build, b0, s0, l0', resVal, resVals, ARes.val, SX, Opd.ev, resVal, resVals, ARes.val, Bool.false_eq_true, Bool.not_false, Bool.not_true, List.getD_cons_succ, List.getD_cons_zero, List.map_cons, List.map_nil, Nat.add_zero, Nat.zero_add, Option.map_none, Option.map_some, Option.some.injEq, and_true, decide_false, decide_true, true_and, reduceCtorEq, Nat.reduceEqDiff, ↓reduceIte, Int.reduceEq, Int.reduceLT, Int.reduceLE, Nat.reduceAdd]
            exact ⟨fail 0 hlg, g0⟩
          · have d5 : decide ((5 : Int) < ((p0 :: p1 :: p2 :: t).length : Nat)) = false := by simp only [decide_eq_false_iff_not, List.length_cons]; omega
            simp only [df, lp, d5, x1, l1, e2, wantV_undef, run_build, b0, s0, l0', resVal, resVals, ARes.val, SX, Opd.ev, resVal, resVals, ARes.val, Bool.false_eq_true, Bool.not_false, Bool.not_true, List.getD_cons_succ, List.getD_cons_zero, List.map_cons, List.map_nil, Nat.add_zero, Nat.zero_add, Option.map_none, Option.map_some, Option.some.injEq, and_true, decide_false, decide_true, true_and, reduceCtorEq, Nat.reduceEqDiff, ↓reduceIte, Int.reduceEq, Int.reduceLT, Int.reduceLE, Nat.reduceAdd]
            exact ⟨fail 0 hlg, g0⟩
    have e5 : decide (p1 = 5) = false := by simpa using a5
    by_cases a2 : p1 = 2
    · have e2 : decide (p1 = 2) = true := by simpa using a2
      by_cases z4 : 4 < t.length + 2
      · have d4 : decide ((4 : Int) < ((p0 :: p1 :: t).length : Nat)) = true := by simp only [decide_eq_true_eq, List.length_cons]; omega

        by_cases z5 : 5 < t.length + 2
        · obtain ⟨p2, r, g, b, t', rfl⟩ : ∃ p2 r g b t', t = p2 :: r :: g :: b :: t' := by
            match t, z5 with
            | p2 :: r :: g :: b :: t', _ => exact ⟨_, _, _, _, _, rfl⟩
          have hpt : partsOf (p0 :: p1 :: p2 :: r :: g :: b :: t') = 2 :: r :: g :: b :: t' := by rw [hparts, if_pos ⟨by simp only [List.length_cons]; omega, a2⟩]; rfl
          have d5 : decide ((5 : Int) < ((p0 :: p1 :: p2 :: r :: g :: b :: t').length : Nat)) = true := by simp only [List.length_cons, decide_eq_true_eq]; omega
          rw [hpt, paint2] at hlg
          have wk1 : IntKind.wrap .i64 (3 + 1) = 4 := wrapI64 (by omega) (by omega)
          have wk2 : IntKind.wrap .i64 (3 + 2) = 5 := wrapI64 (by omega) (by omega)
          have y0 := IsS.at hc (i := 3) (by omega) (by simp only [List.length_cons]; omega) .i64
          have m0 := IsS.int hc (i := 3) (a := r) rfl
          have y1 := IsS.at hc (i := 4) (by omega) (by simp only [List.length_cons]; omega) .i64
          have m1 := IsS.int hc (i := 4) (a := g) rfl
          have y2 := IsS.at hc (i := 5) (by omega) (by simp only [List.length_cons]; omega) .i64
          have m2 := IsS.int hc (i := 5) (a := b) rfl
          simp only [A36, run_allocL, s1, xi, lc, lp, d1, x1, l1, e5, e2, d4, d5, wantV_undef, wk1, wk2, y0, m0, y1, m1, y2, m2, SX, Opd.ev, resVal, resVals, ARes.val, Bool.false_eq_true, Bool.not_false, Bool.not_true, List.getD_cons_succ, List.getD_cons_zero, List.map_cons, List.map_nil, Nat.add_zero, Nat.zero_add, Option.map_none, Option.map_some, Option.some.injEq, and_true, decide_false, decide_true, true_and, reduceCtorEq, Nat.reduceEqDiff, ↓reduceIte, Int.reduceEq, Int.reduceLT, Int.reduceLE, Nat.reduceAdd]
          refine (fits_spec aq r).mono ?_
          rintro _ H2 ⟨rfl, rfl⟩
          by_cases f0 : inB r
          · have df0 : decide (inB r) = true := decide_eq_true f0
            simp only [df0, wantV_undef, wk1, wk2, y0, m0, y1, m1, y2, m2, SX, Opd.ev, resVal, resVals, ARes.val, Bool.false_eq_true, Bool.not_false, Bool.not_true, List.getD_cons_succ, List.getD_cons_zero, List.map_cons, List.map_nil, Nat.add_zero, Nat.zero_add, Option.map_none, Option.map_some, Option.some.injEq, and_true, decide_false, decide_true, true_and, reduceCtorEq, Nat.reduceEqDiff, ↓reduceIte, Int.reduceEq, Int.reduceLT, Int.reduceLE, Nat.reduceAdd]
            refine (fits_spec aq g).mono ?_
            rintro _ H3 ⟨rfl, rfl⟩
            by_cases f1 : inB g
            · have df1 : decide (inB g) = true := decide_eq_true f1
              simp only [df1, wantV_undef, wk1, wk2, y0, m0, y1, m1, y2, m2, SX, Opd.ev, resVal, resVals, ARes.val, Bool.false_eq_true, Bool.not_false, Bool.not_true, List.getD_cons_succ, List.getD_cons_zero, List.map_cons, List.map_nil, Nat.add_zero, Nat.zero_add, Option.map_none, Option.map_some, Option.some.injEq, and_true, decide_false, decide_true, true_and, reduceCtorEq, Nat.reduceEqDiff, ↓reduceIte, Int.reduceEq, Int.reduceLT, Int.reduceLE, Nat.reduceAdd]
              refine (fits_spec aq b).mono ?_
              rintro _ H4 ⟨rfl, rfl⟩
              by_cases f2 : inB b
              · have df2 : decide (inB b) = true := decide_eq_true f2
                obtain ⟨q1, q2, q3, q4, q5⟩ := rgb r g b f0 f1 f2
                obtain ⟨H5, s5, l5, g5⟩ := st 2 (65536 * r + 256 * g + b)
                rw [if_pos ⟨f0, f1, f2⟩] at hlg
                simp only [df2, wantV_undef, wk1, wk2, y0, m0, y1, m1, y2, m2, q1, q2, q3, q4, q5, run_build, b2, s5, l5, resVal, resVals, ARes.val, SX, Opd.ev, resVal, resVals, ARes.val, Bool.false_eq_true, Bool.not_false, Bool.not_true, List.getD_cons_succ, List.getD_cons_zero, List.map_cons, List.map_nil, Nat.add_zero, Nat.zero_add, Option.map_none, Option.map_some, Option.some.injEq, and_true, decide_false, decide_true, true_and, reduceCtorEq, Nat.reduceEqDiff, ↓reduceIte, Int.reduceEq, Int.reduceLT, Int.reduceLE, Nat.reduceAdd]
                exact ⟨good 2 _ 0 hlg, g5⟩
              · have df2 : decide (inB b) = false := decide_eq_false f2
                rw [if_neg (fun hh => f2 hh.2.2)] at hlg
                simp only [df2, wantV_undef, run_build, b0, s0, l0', resVal, resVals, ARes.val, SX, Opd.ev, resVal, resVals, ARes.val, Bool.false_eq_true, Bool.not_false, Bool.not_true, List.getD_cons_succ, List.getD_cons_zero, List.map_cons, List.map_nil, Nat.add_zero, Nat.zero_add, Option.map_none, Option.map_some, Option.some.injEq, and_true, decide_false, decide_true, true_and, reduceCtorEq, Nat.reduceEqDiff, ↓reduceIte, Int.reduceEq, Int.reduceLT, Int.reduceLE, Nat.reduceAdd]
                exact ⟨fail 0 hlg, g0⟩
            · have df1 : decide (inB g) = false := decide_eq_false f1
              rw [if_neg (fun hh => f1 hh.2.1)] at hlg
              simp only [df1, wantV_undef, run_build, b0, s0, l0', resVal, resVals, ARes.val, SX, Opd.ev, resVal, resVals, ARes.val, Bool.false_eq_true, Bool.not_false, Bool.not_true, List.getD_cons_succ, List.getD_cons_zero, List.map_cons, List.map_nil, Nat.add_zero, Nat.zero_add, Option.map_none, Option.map_some, Option.some.injEq, and_true, decide_false, decide_true, true_and, reduceCtorEq, Nat.reduceEqDiff, ↓reduceIte, Int.reduceEq, Int.reduceLT, Int.reduceLE, Nat.reduceAdd]
              exact ⟨fail 0 hlg, g0⟩
          · have df0 : decide (inB r) = false := decide_eq_false f0
            rw [if_neg (fun hh => f0 hh.1)] at hlg
            simp only [df0, wantV_undef, run_build, b0, s0, l0', resVal, resVals, ARes.val, SX, Opd.ev, resVal, resVals, ARes.val, Bool.false_eq_true, Bool.not_false, Bool.not_true, List.getD_cons_succ, List.getD_cons_zero, List.map_cons, List.map_nil, Nat.add_zero, Nat.zero_add, Option.map_none, Option.map_some, Option.some.injEq, and_true, decide_false, decide_true, true_and, reduceCtorEq, Nat.reduceEqDiff, ↓reduceIte, Int.reduceEq, Int.reduceLT, Int.reduceLE, Nat.reduceAdd]
            exact ⟨fail 0 hlg, g0⟩
        · obtain ⟨r, g, b, t', rfl⟩ : ∃ r g b t', t = r :: g :: b :: t' := by
            match t, z4 with
            | r :: g :: b :: t', _ => exact ⟨_, _, _, _, rfl⟩
          have hpt : partsOf (p0 :: p1 :: r :: g :: b :: t') = 2 :: r :: g :: b :: t' := by rw [hparts, if_neg (fun hh => by have := hh.1; simp only [List.length_cons] at this z5; omega), a2]
          have d5 : decide ((5 : Int) < ((p0 :: p1 :: r :: g :: b :: t').length : Nat)) = false := decide_eq_false (by simp only [List.length_cons] at z5 ⊢; omega)
          rw [hpt, paint2] at hlg
          have wk1 : IntKind.wrap .i64 (2 + 1) = 3 := wrapI64 (by omega) (by omega)
          have wk2 : IntKind.wrap .i64 (2 + 2) = 4 := wrapI64 (by omega) (by omega)
          have y0 := IsS.at hc (i := 2) (by omega) (by simp only [List.length_cons]; omega) .i64
          have m0 := IsS.int hc (i := 2) (a := r) rfl
          have y1 := IsS.at hc (i := 3) (by omega) (by simp only [List.length_cons]; omega) .i64
          have m1 := IsS.int hc (i := 3) (a := g) rfl
          have y2 := IsS.at hc (i := 4) (by omega) (by simp only [List.length_cons]; omega) .i64
          have m2 := IsS.int hc (i := 4) (a := b) rfl
          simp only [A36, run_allocL, s1, xi, lc, lp, d1, x1, l1, e5, e2, d4, d5, wantV_undef, wk1, wk2, y0, m0, y1, m1, y2, m2, SX, Opd.ev, resVal, resVals, ARes.val, Bool.false_eq_true, Bool.not_false, Bool.not_true, List.getD_cons_succ, List.getD_cons_zero, List.map_cons, List.map_nil, Nat.add_zero, Nat.zero_add, Option.map_none, Option.map_some, Option.some.injEq, and_true, decide_false, decide_true, true_and, reduceCtorEq, Nat.reduceEqDiff, ↓reduceIte, Int.reduceEq, Int.reduceLT, Int.reduceLE, Nat.reduceAdd]
          refine (fits_spec aq r).mono ?_
          rintro _ H2 ⟨rfl, rfl⟩
          by_cases f0 : inB r
          · have df0 : decide (inB r) = true := decide_eq_true f0
            simp only [df0, wantV_undef, wk1, wk2, y0, m0, y1, m1, y2, m2, SX, Opd.ev, resVal, resVals, ARes.val, Bool.false_eq_true, Bool.not_false, Bool.not_true, List.getD_cons_succ, List.getD_cons_zero, List.map_cons, List.map_nil, Nat.add_zero, Nat.zero_add, Option.map_none, Option.map_some, Option.some.injEq, and_true, decide_false, decide_true, true_and, reduceCtorEq, Nat.reduceEqDiff, ↓reduceIte, Int.reduceEq, Int.reduceLT, Int.reduceLE, Nat.reduceAdd]
            refine (fits_spec aq g).mono ?_
            rintro _ H3 ⟨rfl, rfl⟩
            by_cases f1 : inB g
            · have df1 : decide (inB g) = true := decide_eq_true f1
              simp only [df1, wantV_undef, wk1, wk2, y0, m0, y1, m1, y2, m2, SX, Opd.ev, resVal, resVals, ARes.val, Bool.false_eq_true, Bool.not_false, Bool.not_true, List.getD_cons_succ, List.getD_cons_zero, List.map_cons, List.map_nil, Nat.add_zero, Nat.zero_add, Option.map_none, Option.map_some, Option.some.injEq, and_true, decide_false, decide_true, true_and, reduceCtorEq, Nat.reduceEqDiff, ↓reduceIte, Int.reduceEq, Int.reduceLT, Int.reduceLE, Nat.reduceAdd]
              refine (fits_spec aq b).mono ?_
              rintro _ H4 ⟨rfl, rfl⟩
              by_cases f2 : inB b
              · have df2 : decide (inB b) = true := decide_eq_true f2
                obtain ⟨q1, q2, q3, q4, q5⟩ := rgb r g b f0 f1 f2
                obtain ⟨H5, s5, l5, g5⟩ := st 2 (65536 * r + 256 * g + b)
                rw [if_pos ⟨f0, f1, f2⟩] at hlg
                simp only [df2, wantV_undef, wk1, wk2, y0, m0, y1, m1, y2, m2, q1, q2, q3, q4, q5, run_build, b2, s5, l5, resVal, resVals, ARes.val, SX, Opd.ev, resVal, resVals, ARes.val, Bool.false_eq_true, Bool.not_false, Bool.not_true, List.getD_cons_succ, List.getD_cons_zero, List.map_cons, List.map_nil, Nat.add_zero, Nat.zero_add, Option.map_none, Option.map_some, Option.some.injEq, and_true, decide_false, decide_true, true_and, reduceCtorEq, Nat.reduceEqDiff, ↓reduceIte, Int.reduceEq, Int.reduceLT, Int.reduceLE, Nat.reduceAdd]
                exact ⟨good 2 _ 0 hlg, g5⟩
              · have df2 : decide (inB b) = false := decide_eq_false f2
                rw [if_neg (fun hh => f2 hh.2.2)] at hlg
                simp only [df2, wantV_undef, run_build, b0, s0, l0', resVal, resVals, ARes.val, SX, Opd.ev, resVal, resVals, ARes.val, Bool.false_eq_true, Bool.not_false, Bool.not_true, List.getD_cons_succ, List.getD_cons_zero, List.map_cons, List.map_nil, Nat.add_zero, Nat.zero_add, Option.map_none, Option.map_some, Option.some.injEq, and_true, decide_false, decide_true, true_and, reduceCtorEq, Nat.reduceEqDiff, ↓reduceIte, Int.reduceEq, Int.reduceLT, Int.reduceLE, Nat.reduceAdd]
                exact ⟨fail 0 hlg, g0⟩
            · have df1 : decide (inB g) = false := decide_eq_false f1
              rw [if_neg (fun hh => f1 hh.2.1)] at hlg
              simp only [df1, wantV_undef, run_build, b0, s0, l0', resVal, resVals, ARes.val, SX, Opd.ev, resVal, resVals, ARes.val, Bool.false_eq_true, Bool.not_false, Bool.not_true, List.getD_cons_succ, List.getD_cons_zero, List.map_cons, List.map_nil, Nat.add_zero, Nat.zero_add, Option.map_none, Option.map_some, Option.some.injEq, and_true, decide_false, decide_true, true_and, reduceCtorEq, Nat.reduceEqDiff, ↓reduceIte, Int.reduceEq, Int.reduceLT, Int.reduceLE, Nat.reduceAdd]
              exact ⟨fail 0 hlg, g0⟩
          · have df0 : decide (inB r) = false := decide_eq_false f0
            rw [if_neg (fun hh => f0 hh.1)] at hlg
            simp only [df0, wantV_undef, run_build, b0, s0, l0', resVal, resVals, ARes.val, SX, Opd.ev, resVal, resVals, ARes.val, Bool.false_eq_true, Bool.not_false, Bool.not_true, List.getD_cons_succ, List.getD_cons_zero, List.map_cons, List.map_nil, Nat.add_zero, Nat.zero_add, Option.map_none, Option.map_some, Option.some.injEq, and_true, decide_false, decide_true, true_and, reduceCtorEq, Nat.reduceEqDiff, ↓reduceIte, Int.reduceEq, Int.reduceLT, Int.reduceLE, Nat.reduceAdd]
            exact ⟨fail 0 hlg, g0⟩
      · have d4 : decide ((4 : Int) < ((p0 :: p1 :: t).length : Nat)) = false := by simp only [decide_eq_false_iff_not, List.length_cons]; omega
        have d5 : decide ((5 : Int) < ((p0 :: p1 :: t).length : Nat)) = false := by simp only [decide_eq_false_iff_not, List.length_cons]; omega
        have hpt : partsOf (p0 :: p1 :: t) = 2 :: t := by rw [hparts, if_neg (fun hh => by have := hh.1; simp only [List.length_cons] at this; omega), a2]
        rw [hpt, paintS (.inr (by simp [wantN]; omega))] at hlg
        simp only [A36, run_allocL, s1, xi, lc, lp, d1, x1, l1, e5, e2, d4, d5, wantV_undef, run_build, b0, s0, l0', resVal, resVals, ARes.val, SX, Opd.ev, resVal, resVals, ARes.val, Bool.false_eq_true, Bool.not_false, Bool.not_true, List.getD_cons_succ, List.getD_cons_zero, List.map_cons, List.map_nil, Nat.add_zero, Nat.zero_add, Option.map_none, Option.map_some, Option.some.injEq, and_true, decide_false, decide_true, true_and, reduceCtorEq, Nat.reduceEqDiff, ↓reduceIte, Int.reduceEq, Int.reduceLT, Int.reduceLE, Nat.reduceAdd]
        exact ⟨fail 0 hlg, g0⟩
    · have e2 : decide (p1 = 2) = false := by simpa using a2
      have hpt : partsOf (p0 :: p1 :: t) = p1 :: t := by rw [hparts, if_neg (fun hh => a2 hh.2)]
      rw [hpt, paintS (.inl (by unfold wantN; rw [if_neg a5, if_neg a2]))] at hlg
      by_cases z5 : 5 < t.length + 2
      · have d5 : decide ((5 : Int) < ((p0 :: p1 :: t).length : Nat)) = true := by simp only [decide_eq_true_eq, List.length_cons]; omega
        simp only [A36, run_allocL, s1, xi, lc, lp, d1, x1, l1, e5, e2, d5, wantV_undef, run_build, b0, s0, l0', resVal, resVals, ARes.val, SX, Opd.ev, resVal, resVals, ARes.val, Bool.false_eq_true, Bool.not_false, Bool.not_true, List.getD_cons_succ, List.getD_cons_zero, List.map_cons, List.map_nil, Nat.add_zero, Nat.zero_add, Option.map_none, Option.map_some, Option.some.injEq, and_true, decide_false, decide_true, true_and, reduceCtorEq, Nat.reduceEqDiff, ↓reduceIte, Int.reduceEq, Int.reduceLT, Int.reduceLE, Nat.reduceAdd]
        exact ⟨fail 0 hlg, g0⟩
      · have d5 : decide ((5 : Int) < ((p0 :: p1 :: t).length : Nat)) = false := by simp only [decide_eq_false_iff_not, List.length_cons]; omega
        simp only [A36, run_allocL, s1, xi, lc, lp, d1, x1, l1, e5, e2, d5, wantV_undef, run_build, b0, s0, l0', resVal, resVals, ARes.val, SX, Opd.ev, resVal, resVals, ARes.val, Bool.false_eq_true, Bool.not_false, Bool.not_true, List.getD_cons_succ, List.getD_cons_zero, List.map_cons, List.map_nil, Nat.add_zero, Nat.zero_add, Option.map_none, Option.map_some, Option.some.injEq, and_true, decide_false, decide_true, true_and, reduceCtorEq, Nat.reduceEqDiff, ↓reduceIte, Int.reduceEq, Int.reduceLT, Int.reduceLE, Nat.reduceAdd]
        exact ⟨fail 0 hlg, g0⟩
  · have d1 : decide ((1 : Int) < p.length) = false := by simp only [decide_eq_false_iff_not]; omega
    obtain ⟨n, hn⟩ : ∃ n, rest.length = n := ⟨_, rfl⟩
    have hlg : longP (p :: rest) = (paintP (rest.map fst0), min (takenOf (rest.map fst0)) (n : Int)) := by rw [longP_cons, if_neg c1, List.length_map, hn]
    have ws : IntKind.wrap .i64 ((L.length : Int) - (i : Int)) = ((1 + n : Nat) : Int) := by rw [wrapI64 (by omega) (by omega)]; omega
    have ws1 : IntKind.wrap .i64 (((1 + n : Nat) : Int) - 1) = (n : Int) := by rw [wrapI64 (by omega) (by omega)]; omega
    have wi1 : IntKind.wrap .i64 ((i : Int) + 1) = ((i + 1 : Nat) : Int) := by rw [wrapI64 (by omega) (by omega)]; rfl
    have wi2 : IntKind.wrap .i64 ((i : Int) + 2) = ((i + 2 : Nat) : Int) := by rw [wrapI64 (by omega) (by omega)]; rfl
    have wi3 : IntKind.wrap .i64 ((i : Int) + 3) = ((i + 3 : Nat) : Int) := by rw [wrapI64 (by omega) (by omega)]; rfl
    have wi4 : IntKind.wrap .i64 ((i : Int) + 4) = ((i + 4 : Nat) : Int) := by rw [wrapI64 (by omega) (by omega)]; rfl
    have rd : ∀ (m : Nat) (q : List Int), L[m]? = some q → ∃ a cq, idxSV 1 v (.int .i64 (m : Int)) = some a ∧ loadV H1 none a = some cq ∧ IsS IsI H1 cq q := by
      intro m q hq
      have hm : m < L.length := (List.getElem?_eq_some_iff.1 hq).1
      obtain ⟨cq, l1, l2⟩ := hv1.get (i := (m : Int)) (a := q) (by rw [Int.toNat_natCast]; exact hq)
      exact ⟨_, cq, hv1.at (i := (m : Int)) (by omega) (by omega) .i64, l1, l2⟩
    cases rest with
    | nil =>
      have hn0 : n = 0 := hn.symm
      have d0 : decide ((n : Int) = 0) = true := by simp only [decide_eq_true_eq]; omega
      simp only [A36, run_allocL, s1, xi, lc, lp, d1, lv, ws, ws1, d0, wantV_undef, run_build, b0, s0, l0', resVal, resVals, ARes.val, SX, Opd.ev, resVal, resVals, ARes.val, Bool.false_eq_true, Bool.not_false, Bool.not_true, List.getD_cons_succ, List.getD_cons_zero, List.map_cons, List.map_nil, Nat.add_zero, Nat.zero_add, Option.map_none, Option.map_some, Option.some.injEq, and_true, decide_false, decide_true, true_and, reduceCtorEq, Nat.reduceEqDiff, ↓reduceIte, Int.reduceEq, Int.reduceLT, Int.reduceLE, Nat.reduceAdd]
      exact ⟨fail 0 (by rw [hlg, hn0]; rfl), g0⟩
    | cons q0 rest' =>
      have hn1 : rest'.length + 1 = n := hn
      have d0 : decide ((n : Int) = 0) = false := by simp only [decide_eq_false_iff_not]; omega
      obtain ⟨a0, k0, y0, m0, hk0⟩ := rd (i + 1) q0 (hri 0 q0 rfl)
      have hlg : longP (p :: q0 :: rest') = (paintP (fst0 q0 :: rest'.map fst0), min (takenOf (fst0 q0 :: rest'.map fst0)) (n : Int)) := hlg
      simp only [A36, run_allocL, s1, xi, lc, lp, d1, lv, ws, ws1, d0, wi1, y0, m0, wantV_undef, SX, Opd.ev, resVal, resVals, ARes.val, Bool.false_eq_true, Bool.not_false, Bool.not_true, List.getD_cons_succ, List.getD_cons_zero, List.map_cons, List.map_nil, Nat.add_zero, Nat.zero_add, Option.map_none, Option.map_some, Option.some.injEq, and_true, decide_false, decide_true, true_and, reduceCtorEq, Nat.reduceEqDiff, ↓reduceIte, Int.reduceEq, Int.reduceLT, Int.reduceLE, Nat.reduceAdd]
      refine (part_spec aq hk0).mono ?_
      rintro _ H2 ⟨rfl, rfl⟩
      by_cases a5 : fst0 q0 = 5
      · have e5 : decide (fst0 q0 = 5) = true := decide_eq_true a5
        have t5 : takenOf (5 :: rest'.map fst0) = 2 := rfl
        rw [a5, t5] at hlg
        by_cases z2 : n < 2
        · have d2 : decide ((n : Int) < 2) = true := by simp only [decide_eq_true_eq]; omega
          rw [paintS (.inr (by simp [wantN]; omega)), Int.min_eq_right (by omega)] at hlg
          simp only [e5, d2, wantV_undef, run_build, b0, s0, l0', resVal, resVals, ARes.val, SX, Opd.ev, resVal, resVals, ARes.val, Bool.false_eq_true, Bool.not_false, Bool.not_true, List.getD_cons_succ, List.getD_cons_zero, List.map_cons, List.map_nil, Nat.add_zero, Nat.zero_add, Option.map_none, Option.map_some, Option.some.injEq, and_true, decide_false, decide_true, true_and, reduceCtorEq, Nat.reduceEqDiff, ↓reduceIte, Int.reduceEq, Int.reduceLT, Int.reduceLE, Nat.reduceAdd]
          exact ⟨fail n hlg, g0⟩
        · have d2 : decide ((n : Int) < 2) = false := by simp only [decide_eq_false_iff_not]; omega
          cases rest' with
          | nil => exact absurd hn1 (by simp; omega)
          | cons q1 rest2 =>
            obtain ⟨a1, k1', y1, m1, hk1⟩ := rd (i + 2) q1 (hri 1 q1 rfl)
            have hlg : longP (p :: q0 :: q1 :: rest2) = (paintP (5 :: fst0 q1 :: rest2.map fst0), min 2 (n : Int)) := hlg
            rw [paint5, Int.min_eq_left (by omega)] at hlg
            obtain ⟨H3, s3, l3, g3⟩ := st 1 (fst0 q1)
            simp only [e5, d2, wi2, y1, m1, wantV_undef, SX, Opd.ev, resVal, resVals, ARes.val, Bool.false_eq_true, Bool.not_false, Bool.not_true, List.getD_cons_succ, List.getD_cons_zero, List.map_cons, List.map_nil, Nat.add_zero, Nat.zero_add, Option.map_none, Option.map_some, Option.some.injEq, and_true, decide_false, decide_true, true_and, reduceCtorEq, Nat.reduceEqDiff, ↓reduceIte, Int.reduceEq, Int.reduceLT, Int.reduceLE, Nat.reduceAdd]
            refine (part_spec aq hk1).mono ?_
            rintro _ H2 ⟨rfl, rfl⟩
            simp only [wantV_undef, SX, Opd.ev, resVal, resVals, ARes.val, Bool.false_eq_true, Bool.not_false, Bool.not_true, List.getD_cons_succ, List.getD_cons_zero, List.map_cons, List.map_nil, Nat.add_zero, Nat.zero_add, Option.map_none, Option.map_some, Option.some.injEq, and_true, decide_false, decide_true, true_and, reduceCtorEq, Nat.reduceEqDiff, ↓reduceIte, Int.reduceEq, Int.reduceLT, Int.reduceLE, Nat.reduceAdd]
            refine (fits_spec aq (fst0 q1)).mono ?_
            rintro _ H2 ⟨rfl, rfl⟩
            by_cases f1 : inB (fst0 q1)
            · have df1 : decide (inB (fst0 q1)) = true := decide_eq_true f1
              rw [if_pos f1] at hlg
              simp only [df1, wu _ f1, b2, s3, l3, wantV_undef, run_build, b0, s0, l0', resVal, resVals, ARes.val, SX, Opd.ev, resVal, resVals, ARes.val, Bool.false_eq_true, Bool.not_false, Bool.not_true, List.getD_cons_succ, List.getD_cons_zero, List.map_cons, List.map_nil, Nat.add_zero, Nat.zero_add, Option.map_none, Option.map_some, Option.some.injEq, and_true, decide_false, decide_true, true_and, reduceCtorEq, Nat.reduceEqDiff, ↓reduceIte, Int.reduceEq, Int.reduceLT, Int.reduceLE, Nat.reduceAdd]
              exact ⟨good 1 _ 2 hlg, g3⟩
            · have df1 : decide (inB (fst0 q1)) = false := decide_eq_false f1
              rw [if_neg f1] at hlg
              simp only [df1, wantV_undef, run_build, b0, s0, l0', resVal, resVals, ARes.val, SX, Opd.ev, resVal, resVals, ARes.val, Bool.false_eq_true, Bool.not_false, Bool.not_true, List.getD_cons_succ, List.getD_cons_zero, List.map_cons, List.map_nil, Nat.add_zero, Nat.zero_add, Option.map_none, Option.map_some, Option.some.injEq, and_true, decide_false, decide_true, true_and, reduceCtorEq, Nat.reduceEqDiff, ↓reduceIte, Int.reduceEq, Int.reduceLT, Int.reduceLE, Nat.reduceAdd]
              exact ⟨fail 2 hlg, g0⟩
      have e5 : decide (fst0 q0 = 5) = false := decide_eq_false a5
      by_cases a2 : fst0 q0 = 2
      · have e2 : decide (fst0 q0 = 2) = true := decide_eq_true a2
        have t2 : takenOf (2 :: rest'.map fst0) = 4 := rfl
        rw [a2, t2] at hlg
        by_cases z4 : n < 4
        · have d4 : decide ((n : Int) < 4) = true := by simp only [decide_eq_true_eq]; omega
          rw [paintS (.inr (by simp [wantN]; omega)), Int.min_eq_right (by omega)] at hlg
          simp only [e5, e2, d4, wantV_undef, run_build, b0, s0, l0', resVal, resVals, ARes.val, SX, Opd.ev, resVal, resVals, ARes.val, Bool.false_eq_true, Bool.not_false, Bool.not_true, List.getD_cons_succ, List.getD_cons_zero, List.map_cons, List.map_nil, Nat.add_zero, Nat.zero_add, Option.map_none, Option.map_some, Option.some.injEq, and_true, decide_false, decide_true, true_and, reduceCtorEq, Nat.reduceEqDiff, ↓reduceIte, Int.reduceEq, Int.reduceLT, Int.reduceLE, Nat.reduceAdd]
          exact ⟨fail n hlg, g0⟩
        · have d4 : decide ((n : Int) < 4) = false := by simp only [decide_eq_false_iff_not]; omega
          obtain ⟨q1, q2, q3, rest4, rfl⟩ : ∃ q1 q2 q3 rest4, rest' = q1 :: q2 :: q3 :: rest4 := by
            have z3 : 3 ≤ rest'.length := by omega
            match rest', z3 with
            | q1 :: q2 :: q3 :: rest4, _ => exact ⟨_, _, _, _, rfl⟩
          obtain ⟨a1, k1', y1, m1, hk1⟩ := rd (i + 2) q1 (hri 1 q1 rfl)
          obtain ⟨a2', k2', y2, m2, hk2⟩ := rd (i + 3) q2 (hri 2 q2 rfl)
          obtain ⟨a3, k3', y3, m3, hk3⟩ := rd (i + 4) q3 (hri 3 q3 rfl)
          have hlg : longP (p :: q0 :: q1 :: q2 :: q3 :: rest4) = (paintP (2 :: fst0 q1 :: fst0 q2 :: fst0 q3 :: rest4.map fst0), min 4 (n : Int)) := hlg
          rw [paint2, Int.min_eq_left (by omega)] at hlg
          obtain ⟨r, hr⟩ : ∃ r, fst0 q1 = r := ⟨_, rfl⟩
          obtain ⟨g, hg⟩ : ∃ g, fst0 q2 = g := ⟨_, rfl⟩
          obtain ⟨b, hb⟩ : ∃ b, fst0 q3 = b := ⟨_, rfl⟩
          rw [hr, hg, hb] at hlg
          obtain ⟨H3, s3, l3, g3⟩ := st 2 (65536 * r + 256 * g + b)
          simp only [e5, e2, d4, wi2, wi3, wi4, y1, m1, y2, m2, y3, m3, wantV_undef, SX, Opd.ev, resVal, resVals, ARes.val, Bool.false_eq_true, Bool.not_false, Bool.not_true, List.getD_cons_succ, List.getD_cons_zero, List.map_cons, List.map_nil, Nat.add_zero, Nat.zero_add, Option.map_none, Option.map_some, Option.some.injEq, and_true, decide_false, decide_true, true_and, reduceCtorEq, Nat.reduceEqDiff, ↓reduceIte, Int.reduceEq, Int.reduceLT, Int.reduceLE, Nat.reduceAdd]
          refine (part_spec aq hk1).mono ?_
          rintro _ H2 ⟨rfl, rfl⟩
          refine ⟨by simp only [echoOk, SX, Opd.ev, resVal, resVals, ARes.val, Bool.false_eq_true, Bool.not_false, Bool.not_true, List.getD_cons_succ, List.getD_cons_zero, List.map_cons, List.map_nil, Nat.add_zero, Nat.zero_add, Option.map_none, Option.map_some, Option.some.injEq, and_true, decide_false, decide_true, true_and, reduceCtorEq, Nat.reduceEqDiff, ↓reduceIte, Int.reduceEq, Int.reduceLT, Int.reduceLE, Nat.reduceAdd, m2, m3]; simp [hk2.same, hk3.same], ?_⟩
          simp only [wantV_undef, SX, Opd.ev, resVal, resVals, ARes.val, Bool.false_eq_true, Bool.not_false, Bool.not_true, List.getD_cons_succ, List.getD_cons_zero, List.map_cons, List.map_nil, Nat.add_zero, Nat.zero_add, Option.map_none, Option.map_some, Option.some.injEq, and_true, decide_false, decide_true, true_and, reduceCtorEq, Nat.reduceEqDiff, ↓reduceIte, Int.reduceEq, Int.reduceLT, Int.reduceLE, Nat.reduceAdd]
          refine (part_spec aq hk2).mono ?_
          rintro _ H2 ⟨rfl, rfl⟩
          refine ⟨by simp only [echoOk, SX, Opd.ev, resVal, resVals, ARes.val, Bool.false_eq_true, Bool.not_false, Bool.not_true, List.getD_cons_succ, List.getD_cons_zero, List.map_cons, List.map_nil, Nat.add_zero, Nat.zero_add, Option.map_none, Option.map_some, Option.some.injEq, and_true, decide_false, decide_true, true_and, reduceCtorEq, Nat.reduceEqDiff, ↓reduceIte, Int.reduceEq, Int.reduceLT, Int.reduceLE, Nat.reduceAdd, m3]; simp [hk3.same], ?_⟩
          simp only [wantV_undef, SX, Opd.ev, resVal, resVals, ARes.val, Bool.false_eq_true, Bool.not_false, Bool.not_true, List.getD_cons_succ, List.getD_cons_zero, List.map_cons, List.map_nil, Nat.add_zero, Nat.zero_add, Option.map_none, Option.map_some, Option.some.injEq, and_true, decide_false, decide_true, true_and, reduceCtorEq, Nat.reduceEqDiff, ↓reduceIte, Int.reduceEq, Int.reduceLT, Int.reduceLE, Nat.reduceAdd]
          refine (part_spec aq hk3).mono ?_
          rintro _ H2 ⟨rfl, rfl⟩
          simp only [hr, hg, hb, wantV_undef, SX, Opd.ev, resVal, resVals, ARes.val, Bool.false_eq_true, Bool.not_false, Bool.not_true, List.getD_cons_succ, List.getD_cons_zero, List.map_cons, List.map_nil, Nat.add_zero, Nat.zero_add, Option.map_none, Option.map_some, Option.some.injEq, and_true, decide_false, decide_true, true_and, reduceCtorEq, Nat.reduceEqDiff, ↓reduceIte, Int.reduceEq, Int.reduceLT, Int.reduceLE, Nat.reduceAdd]
          refine (fits_spec aq r).mono ?_
          rintro _ H2 ⟨rfl, rfl⟩
          by_cases f0 : inB r
          · have df0 : decide (inB r) = true := decide_eq_true f0
            simp only [df0, wantV_undef, SX, Opd.ev, resVal, resVals, ARes.val, Bool.false_eq_true, Bool.not_false, Bool.not_true, List.getD_cons_succ, List.getD_cons_zero, List.map_cons, List.map_nil, Nat.add_zero, Nat.zero_add, Option.map_none, Option.map_some, Option.some.injEq, and_true, decide_false, decide_true, true_and, reduceCtorEq, Nat.reduceEqDiff, ↓reduceIte, Int.reduceEq, Int.reduceLT, Int.reduceLE, Nat.reduceAdd]
            refine (fits_spec aq g).mono ?_
            rintro _ H2 ⟨rfl, rfl⟩
            by_cases f1 : inB g
            · have df1 : decide (inB g) = true := decide_eq_true f1
              simp only [df1, wantV_undef, SX, Opd.ev, resVal, resVals, ARes.val, Bool.false_eq_true, Bool.not_false, Bool.not_true, List.getD_cons_succ, List.getD_cons_zero, List.map_cons, List.map_nil, Nat.add_zero, Nat.zero_add, Option.map_none, Option.map_some, Option.some.injEq, and_true, decide_false, decide_true, true_and, reduceCtorEq, Nat.reduceEqDiff, ↓reduceIte, Int.reduceEq, Int.reduceLT, Int.reduceLE, Nat.reduceAdd]
              refine (fits_spec aq b).mono ?_
              rintro _ H2 ⟨rfl, rfl⟩
              by_cases f2 : inB b
              · have df2 : decide (inB b) = true := decide_eq_true f2
                obtain ⟨u1, u2, u3, u4, u5⟩ := rgb r g b f0 f1 f2
                rw [if_pos ⟨f0, f1, f2⟩] at hlg
                simp only [df2, u1, u2, u3, u4, u5, b2, s3, l3, wantV_undef, run_build, b0, s0, l0', resVal, resVals, ARes.val, SX, Opd.ev, resVal, resVals, ARes.val, Bool.false_eq_true, Bool.not_false, Bool.not_true, List.getD_cons_succ, List.getD_cons_zero, List.map_cons, List.map_nil, Nat.add_zero, Nat.zero_add, Option.map_none, Option.map_some, Option.some.injEq, and_true, decide_false, decide_true, true_and, reduceCtorEq, Nat.reduceEqDiff, ↓reduceIte, Int.reduceEq, Int.reduceLT, Int.reduceLE, Nat.reduceAdd]
                exact ⟨good 2 _ 4 hlg, g3⟩
              · have df2 : decide (inB b) = false := decide_eq_false f2
                rw [if_neg (fun hh => f2 hh.2.2)] at hlg
                simp only [df2, wantV_undef, run_build, b0, s0, l0', resVal, resVals, ARes.val, SX, Opd.ev, resVal, resVals, ARes.val, Bool.false_eq_true, Bool.not_false, Bool.not_true, List.getD_cons_succ, List.getD_cons_zero, List.map_cons, List.map_nil, Nat.add_zero, Nat.zero_add, Option.map_none, Option.map_some, Option.some.injEq, and_true, decide_false, decide_true, true_and, reduceCtorEq, Nat.reduceEqDiff, ↓reduceIte, Int.reduceEq, Int.reduceLT, Int.reduceLE, Nat.reduceAdd]
                exact ⟨fail 4 hlg, g0⟩
            · have df1 : decide (inB g) = false := decide_eq_false f1
              rw [if_neg (fun hh => f1 hh.2.1)] at hlg
              simp only [df1, wantV_undef, run_build, b0, s0, l0', resVal, resVals, ARes.val, SX, Opd.ev, resVal, resVals, ARes.val, Bool.false_eq_true, Bool.not_false, Bool.not_true, List.getD_cons_succ, List.getD_cons_zero, List.map_cons, List.map_nil, Nat.add_zero, Nat.zero_add, Option.map_none, Option.map_some, Option.some.injEq, and_true, decide_false, decide_true, true_and, reduceCtorEq, Nat.reduceEqDiff, ↓reduceIte, Int.reduceEq, Int.reduceLT, Int.reduceLE, Nat.reduceAdd]
              exact ⟨fail 4 hlg, g0⟩
          · have df0 : decide (inB r) = false := decide_eq_false f0
            rw [if_neg (fun hh => f0 hh.1)] at hlg
            simp only [df0, wantV_undef, run_build, b0, s0, l0', resVal, resVals, ARes.val, SX, Opd.ev, resVal, resVals, ARes.val, Bool.false_eq_true, Bool.not_false, Bool.not_true, List.getD_cons_succ, List.getD_cons_zero, List.map_cons, List.map_nil, Nat.add_zero, Nat.zero_add, Option.map_none, Option.map_some, Option.some.injEq, and_true, decide_false, decide_true, true_and, reduceCtorEq, Nat.reduceEqDiff, ↓reduceIte, Int.reduceEq, Int.reduceLT, Int.reduceLE, Nat.reduceAdd]
            exact ⟨fail 4 hlg, g0⟩
      · have e2 : decide (fst0 q0 = 2) = false := decide_eq_false a2
        rw [paintS (.inl (by unfold wantN; rw [if_neg a5, if_neg a2])), takenOf_cons, if_neg a5, if_neg a2, Int.min_eq_left (by omega)] at hlg
        simp only [e5, e2, wantV_undef, run_build, b0, s0, l0', resVal, resVals, ARes.val, SX, Opd.ev, resVal, resVals, ARes.val, Bool.false_eq_true, Bool.not_false, Bool.not_true, List.getD_cons_succ, List.getD_cons_zero, List.map_cons, List.map_nil, Nat.add_zero, Nat.zero_add, Option.map_none, Option.map_some, Option.some.injEq, and_true, decide_false, decide_true, true_and, reduceCtorEq, Nat.reduceEqDiff, ↓reduceIte, Int.reduceEq, Int.reduceLT, Int.reduceLE, Nat.reduceAdd]
        exact ⟨fail 1 hlg, g0⟩
end
def fl2 (fl m : Int) : Int := if m = 22 then notU (orU fl (bitP m)) 1 else orU fl (bitP m)
def flR (fl m : Int) : Int := if 21 < m ∧ m < 30 then notU (fl2 fl m) (bitP (m - 20)) else fl2 fl m
def restA (a : At) (m : Int) : At := shortB (shortA { a with fl := flR a.fl m } m) (IntKind.wrap .i64 (m - 10))
theorem shortB_none {a : At} {n : Int} (h : shortP n = none) : shortB a n = a := by unfold shortB; rw [h]; rfl
theorem shortB_some {a : At} {n c d : Int} (h : shortP n = some (c, d)) : shortB a n = { a with bk := c, bn := d } := by unfold shortB; rw [h]; rfl
theorem shortA_none {a : At} {n : Int} (h : shortP n = none) : shortA a n = a := by unfold shortA; rw [h]; rfl
theorem shortA_some {a : At} {n c d : Int} (h : shortP n = some (c, d)) : shortA a n = { a with fk := c, fn := d } := by unfold shortA; rw [h]; rfl
theorem gn : (none : Option (Int × Int)).getD (0, 0) = (0, 0) := rfl
theorem gs (x : Int × Int) : (some x).getD (0, 0) = x := rfl
theorem isn : (none : Option (Int × Int)).isSome = false := rfl
theorem iss (x : Int × Int) : (some x).isSome = true := rfl
section
variable {Q : Prog} (aq : AtQ Q) {base p : Nat} {a : At} {m : Int} {l : List Cel} {H : AHeap} {e : Env} {K : PostC}
include aq
def Same4 (e e' : Env) : Prop := Env.get e' 1 = Env.get e 1 ∧ Env.get e' 2 = Env.get e 2 ∧ Env.get e' 4 = Env.get e 4 ∧ Env.get e' 5 = Env.get e 5
theorem sh2_wp {q : Nat} {x y : Int} (h : Hp base H (⟨q, 2, [.int .u8 x, .int .u32 y]⟩ :: ⟨p, 5, a.cs⟩ :: l)) (e2 : Env.get e 2 = .ptr p 0) (e6 : Env.get e 6 = .int .i64 m) (e10 : Env.get e 10 = .ptr q 0)
    (hK : ∀ e' H', Keep base H H' → Hp base H' (⟨p, 5, (shortB a (IntKind.wrap .i64 (m - 10))).cs⟩ :: l) → Same4 e e' → K .normal e' H') : ACode.wp Q A20_sh2 K e H := by
  simp only [A20_sh2, e2, e6, e10, SX, Opd.ev, resVal, resVals, ARes.val, Bool.false_eq_true, Bool.not_false, Bool.not_true, List.getD_cons_succ, List.getD_cons_zero, List.map_cons, List.map_nil, Nat.add_zero, Nat.zero_add, Option.map_none, Option.map_some, Option.some.injEq, and_true, decide_false, decide_true, true_and, reduceCtorEq, Nat.reduceEqDiff, ↓reduceIte, Int.reduceEq, Int.reduceLT, Int.reduceLE, Nat.reduceAdd]
  refine (shortR_spec aq _ h.fr).mono ?_
  rintro _ H1 ⟨rfl, g1⟩
  have h1 := h.keep g1.keep g1.next g1.fr
  have k1 : Keep base H H1 := g1.keep.le h.bn
  cases hs : shortP (IntKind.wrap .i64 (m - 10)) with
  | none =>
    obtain ⟨H2, s2, h2, k2, n2⟩ := h1.storeN (n := 2) (new := [.int .u8 0, .int .u32 0]) rfl rfl rfl
    simp only [e2, e6, e10, gn, isn, ex0, ex1, s2, SX, Opd.ev, resVal, resVals, ARes.val, Bool.false_eq_true, Bool.not_false, Bool.not_true, List.getD_cons_succ, List.getD_cons_zero, List.map_cons, List.map_nil, Nat.add_zero, Nat.zero_add, Option.map_none, Option.map_some, Option.some.injEq, and_true, decide_false, decide_true, true_and, reduceCtorEq, Nat.reduceEqDiff, ↓reduceIte, Int.reduceEq, Int.reduceLT, Int.reduceLE, Nat.reduceAdd]
    refine hK _ _ (k1.trans k2) (by rw [shortB_none hs]; exact h2.drop) ?_
    simp only [Same4, e2, SX, Opd.ev, resVal, resVals, ARes.val, Bool.false_eq_true, Bool.not_false, Bool.not_true, List.getD_cons_succ, List.getD_cons_zero, List.map_cons, List.map_nil, Nat.add_zero, Nat.zero_add, Option.map_none, Option.map_some, Option.some.injEq, and_true, decide_false, decide_true, true_and, reduceCtorEq, Nat.reduceEqDiff, ↓reduceIte, Int.reduceEq, Int.reduceLT, Int.reduceLE, Nat.reduceAdd, and_self]
  | some cd =>
    obtain ⟨c, d⟩ := cd
    obtain ⟨H2, s2, h2, k2, n2⟩ := h1.storeN (n := 2) (new := [.int .u8 c, .int .u32 d]) rfl rfl rfl
    have l2 : loadV H2 (some 2) (.ptr q 0) = some (.agg [.int .u8 c, .int .u32 d]) := h2.loadN (List.mem_cons_self ..) rfl
    obtain ⟨H3, s3, h3, k3, n3⟩ := (h2.drop).storeO (a := [.int .u16 a.fl, .int .u8 a.fk, .int .u32 a.fn]) (x := [.int .u8 a.bk, .int .u32 a.bn]) (c := []) (o := 3) (n := 2) rfl rfl rfl (new := [.int .u8 c, .int .u32 d]) rfl rfl
    simp only [e2, e6, e10, gs, iss, ex0, ex1, s2, l2, s3, SX, Opd.ev, resVal, resVals, ARes.val, Bool.false_eq_true, Bool.not_false, Bool.not_true, List.getD_cons_succ, List.getD_cons_zero, List.map_cons, List.map_nil, Nat.add_zero, Nat.zero_add, Option.map_none, Option.map_some, Option.some.injEq, and_true, decide_false, decide_true, true_and, reduceCtorEq, Nat.reduceEqDiff, ↓reduceIte, Int.reduceEq, Int.reduceLT, Int.reduceLE, Nat.reduceAdd]
    refine hK _ _ ((k1.trans k2).trans k3) (by rw [shortB_some hs]; exact h3) ?_
    simp only [Same4, e2, SX, Opd.ev, resVal, resVals, ARes.val, Bool.false_eq_true, Bool.not_false, Bool.not_true, List.getD_cons_succ, List.getD_cons_zero, List.map_cons, List.map_nil, Nat.add_zero, Nat.zero_add, Option.map_none, Option.map_some, Option.some.injEq, and_true, decide_false, decide_true, true_and, reduceCtorEq, Nat.reduceEqDiff, ↓reduceIte, Int.reduceEq, Int.reduceLT, Int.reduceLE, Nat.reduceAdd, and_self]
theorem shorts_wp (h : Hp base H (⟨p, 5, a.cs⟩ :: l)) (e2 : Env.get e 2 = .ptr p 0) (e6 : Env.get e 6 = .int .i64 m)
    (hK : ∀ e' H', Keep base H H' → Hp base H' (⟨p, 5, (shortB (shortA a m) (IntKind.wrap .i64 (m - 10))).cs⟩ :: l) → Same4 e e' → K .normal e' H') : ACode.wp Q A20_shorts K e H := by
  simp only [A20_shorts, e2, e6, SX, Opd.ev, resVal, resVals, ARes.val, Bool.false_eq_true, Bool.not_false, Bool.not_true, List.getD_cons_succ, List.getD_cons_zero, List.map_cons, List.map_nil, Nat.add_zero, Nat.zero_add, Option.map_none, Option.map_some, Option.some.injEq, and_true, decide_false, decide_true, true_and, reduceCtorEq, Nat.reduceEqDiff, ↓reduceIte, Int.reduceEq, Int.reduceLT, Int.reduceLE, Nat.reduceAdd]
  refine (shortR_spec aq _ h.fr).mono ?_
  rintro _ H1 ⟨rfl, g1⟩
  have h1 := h.keep g1.keep g1.next g1.fr
  have k1 : Keep base H H1 := g1.keep.le h.bn
  obtain ⟨H2, s2, h2, k2⟩ := h1.make [.int .u8 0, .int .u32 0] 2
  cases hs : shortP m with
  | none =>
    obtain ⟨H3, s3, h3, k3, n3⟩ := h2.storeN (n := 2) (new := [.int .u8 0, .int .u32 0]) rfl rfl rfl
    simp only [e2, e6, gn, isn, ex0, ex1, run_allocL, s2, s3, SX, Opd.ev, resVal, resVals, ARes.val, Bool.false_eq_true, Bool.not_false, Bool.not_true, List.getD_cons_succ, List.getD_cons_zero, List.map_cons, List.map_nil, Nat.add_zero, Nat.zero_add, Option.map_none, Option.map_some, Option.some.injEq, and_true, decide_false, decide_true, true_and, reduceCtorEq, Nat.reduceEqDiff, ↓reduceIte, Int.reduceEq, Int.reduceLT, Int.reduceLE, Nat.reduceAdd]
    refine sh2_wp aq (m := m) h3 (by simp only [e2, SX, Opd.ev, resVal, resVals, ARes.val, Bool.false_eq_true, Bool.not_false, Bool.not_true, List.getD_cons_succ, List.getD_cons_zero, List.map_cons, List.map_nil, Nat.add_zero, Nat.zero_add, Option.map_none, Option.map_some, Option.some.injEq, and_true, decide_false, decide_true, true_and, reduceCtorEq, Nat.reduceEqDiff, ↓reduceIte, Int.reduceEq, Int.reduceLT, Int.reduceLE, Nat.reduceAdd]) (by simp only [e6, SX, Opd.ev, resVal, resVals, ARes.val, Bool.false_eq_true, Bool.not_false, Bool.not_true, List.getD_cons_succ, List.getD_cons_zero, List.map_cons, List.map_nil, Nat.add_zero, Nat.zero_add, Option.map_none, Option.map_some, Option.some.injEq, and_true, decide_false, decide_true, true_and, reduceCtorEq, Nat.reduceEqDiff, ↓reduceIte, Int.reduceEq, Int.reduceLT, Int.reduceLE, Nat.reduceAdd]) (by simp only [SX, Opd.ev, resVal, resVals, ARes.val, Bool.false_eq_true, Bool.not_false, Bool.not_true, List.getD_cons_succ, List.getD_cons_zero, List.map_cons, List.map_nil, Nat.add_zero, Nat.zero_add, Option.map_none, Option.map_some, Option.some.injEq, and_true, decide_false, decide_true, true_and, reduceCtorEq, Nat.reduceEqDiff, ↓reduceIte, Int.reduceEq, Int.reduceLT, Int.reduceLE, Nat.reduceAdd]) ?_
    intro e' H' k' h' se
    refine hK e' H' (((k1.trans k2).trans k3).trans k') (by rw [shortA_none hs]; exact h') ?_
    simpa only [Same4, e2, SX, Opd.ev, resVal, resVals, ARes.val, Bool.false_eq_true, Bool.not_false, Bool.not_true, List.getD_cons_succ, List.getD_cons_zero, List.map_cons, List.map_nil, Nat.add_zero, Nat.zero_add, Option.map_none, Option.map_some, Option.some.injEq, and_true, decide_false, decide_true, true_and, reduceCtorEq, Nat.reduceEqDiff, ↓reduceIte, Int.reduceEq, Int.reduceLT, Int.reduceLE, Nat.reduceAdd] using se
  | some cd =>
    obtain ⟨c, d⟩ := cd
    obtain ⟨H3, s3, h3, k3, n3⟩ := h2.storeN (n := 2) (new := [.int .u8 c, .int .u32 d]) rfl rfl rfl
    have l3 : loadV H3 (some 2) (.ptr H1.next 0) = some (.agg [.int .u8 c, .int .u32 d]) := h3.loadN (List.mem_cons_self ..) rfl
    obtain ⟨H4, s4, h4, k4, n4⟩ := (h3.perm (List.Perm.swap _ _ _)).storeO (a := [.int .u16 a.fl]) (x := [.int .u8 a.fk, .int .u32 a.fn]) (c := [.int .u8 a.bk, .int .u32 a.bn]) (o := 1) (n := 2) rfl rfl rfl (new := [.int .u8 c, .int .u32 d]) rfl rfl
    have h5 : Hp base H4 (⟨H1.next, 2, [.int .u8 c, .int .u32 d]⟩ :: ⟨p, 5, ({ a with fk := c, fn := d } : At).cs⟩ :: l) := h4.perm (List.Perm.swap _ _ _)
    simp only [e2, e6, gs, iss, ex0, ex1, run_allocL, s2, s3, l3, s4, SX, Opd.ev, resVal, resVals, ARes.val, Bool.false_eq_true, Bool.not_false, Bool.not_true, List.getD_cons_succ, List.getD_cons_zero, List.map_cons, List.map_nil, Nat.add_zero, Nat.zero_add, Option.map_none, Option.map_some, Option.some.injEq, and_true, decide_false, decide_true, true_and, reduceCtorEq, Nat.reduceEqDiff, ↓reduceIte, Int.reduceEq, Int.reduceLT, Int.reduceLE, Nat.reduceAdd]
    refine sh2_wp aq (m := m) h5 (by simp only [e2, SX, Opd.ev, resVal, resVals, ARes.val, Bool.false_eq_true, Bool.not_false, Bool.not_true, List.getD_cons_succ, List.getD_cons_zero, List.map_cons, List.map_nil, Nat.add_zero, Nat.zero_add, Option.map_none, Option.map_some, Option.some.injEq, and_true, decide_false, decide_true, true_and, reduceCtorEq, Nat.reduceEqDiff, ↓reduceIte, Int.reduceEq, Int.reduceLT, Int.reduceLE, Nat.reduceAdd]) (by simp only [e6, SX, Opd.ev, resVal, resVals, ARes.val, Bool.false_eq_true, Bool.not_false, Bool.not_true, List.getD_cons_succ, List.getD_cons_zero, List.map_cons, List.map_nil, Nat.add_zero, Nat.zero_add, Option.map_none, Option.map_some, Option.some.injEq, and_true, decide_false, decide_true, true_and, reduceCtorEq, Nat.reduceEqDiff, ↓reduceIte, Int.reduceEq, Int.reduceLT, Int.reduceLE, Nat.reduceAdd]) (by simp only [SX, Opd.ev, resVal, resVals, ARes.val, Bool.false_eq_true, Bool.not_false, Bool.not_true, List.getD_cons_succ, List.getD_cons_zero, List.map_cons, List.map_nil, Nat.add_zero, Nat.zero_add, Option.map_none, Option.map_some, Option.some.injEq, and_true, decide_false, decide_true, true_and, reduceCtorEq, Nat.reduceEqDiff, ↓reduceIte, Int.reduceEq, Int.reduceLT, Int.reduceLE, Nat.reduceAdd]) ?_
    intro e' H' k' h' se
    refine hK e' H' ((((k1.trans k2).trans k3).trans k4).trans k') (by rw [shortA_some hs]; exact h') ?_
    simpa only [Same4, e2, SX, Opd.ev, resVal, resVals, ARes.val, Bool.false_eq_true, Bool.not_false, Bool.not_true, List.getD_cons_succ, List.getD_cons_zero, List.map_cons, List.map_nil, Nat.add_zero, Nat.zero_add, Option.map_none, Option.map_some, Option.some.injEq, and_true, decide_false, decide_true, true_and, reduceCtorEq, Nat.reduceEqDiff, ↓reduceIte, Int.reduceEq, Int.reduceLT, Int.reduceLE, Nat.reduceAdd] using se
theorem rest_wp (h : Hp base H (⟨p, 5, a.cs⟩ :: l)) (e2 : Env.get e 2 = .ptr p 0) (e6 : Env.get e 6 = .int .i64 m)
    (hK : ∀ e' H', Keep base H H' → Hp base H' (⟨p, 5, (restA a m).cs⟩ :: l) → Same4 e e' → K .normal e' H') : ACode.wp Q A20_rest K e H := by
  have l0 := h.load (List.mem_cons_self ..) (o := 0) (v := .int .u16 a.fl) rfl
  obtain ⟨H1, s1, h1, k1, n1⟩ := h.store (o := 0) (v := .int .u16 (orU a.fl (bitP m))) rfl (by simp [At.cs])
  have h1 : Hp base H1 (⟨p, 5, ({ a with fl := orU a.fl (bitP m) } : At).cs⟩ :: l) := h1
  have l1 := h1.load (List.mem_cons_self ..) (o := 0) (v := .int .u16 (orU a.fl (bitP m))) rfl
  have fin : ∀ (H3 : AHeap) (e3 : Env), Keep base H H3 → Hp base H3 (⟨p, 5, ({ a with fl := flR a.fl m } : At).cs⟩ :: l) → Env.get e3 2 = .ptr p 0 → Env.get e3 6 = .int .i64 m → Same4 e e3 → ACode.wp Q A20_shorts K e3 H3 := by
    intro H3 e3 k3 h3 f2 f6 se
    refine shorts_wp aq h3 f2 f6 ?_
    intro e' H' k' h' se'
    exact hK e' H' (k3.trans k') h' ⟨se'.1.trans se.1, se'.2.1.trans se.2.1, se'.2.2.1.trans se.2.2.1, se'.2.2.2.trans se.2.2.2⟩
  by_cases c22 : m = 22
  · subst c22
    obtain ⟨H2, s2, h2, k2, n2⟩ := h1.store (o := 0) (v := .int .u16 (notU (orU a.fl (bitP 22)) 1)) rfl (by simp [At.cs])
    have h2 : Hp base H2 (⟨p, 5, ({ a with fl := notU (orU a.fl (bitP 22)) 1 } : At).cs⟩ :: l) := h2
    have l2 := h2.load (List.mem_cons_self ..) (o := 0) (v := .int .u16 (notU (orU a.fl (bitP 22)) 1)) rfl
    obtain ⟨H3, s3, h3, k3, n3⟩ := h2.store (o := 0) (v := .int .u16 (notU (notU (orU a.fl (bitP 22)) 1) (bitP 2))) rfl (by simp [At.cs])
    have w2 : IntKind.wrap .i64 (22 - 20) = 2 := wrapI64 (by omega) (by omega)
    simp only [A20_rest, e2, e6, l0, SX, Opd.ev, resVal, resVals, ARes.val, Bool.false_eq_true, Bool.not_false, Bool.not_true, List.getD_cons_succ, List.getD_cons_zero, List.map_cons, List.map_nil, Nat.add_zero, Nat.zero_add, Option.map_none, Option.map_some, Option.some.injEq, and_true, decide_false, decide_true, true_and, reduceCtorEq, Nat.reduceEqDiff, ↓reduceIte, Int.reduceEq, Int.reduceLT, Int.reduceLE, Nat.reduceAdd]
    refine (bit_spec aq 22).mono ?_
    rintro _ Hx ⟨rfl, rfl⟩
    refine ⟨by simp only [echoOk, e2, l0, SX, Opd.ev, resVal, resVals, ARes.val, Bool.false_eq_true, Bool.not_false, Bool.not_true, List.getD_cons_succ, List.getD_cons_zero, List.map_cons, List.map_nil, Nat.add_zero, Nat.zero_add, Option.map_none, Option.map_some, Option.some.injEq, and_true, decide_false, decide_true, true_and, reduceCtorEq, Nat.reduceEqDiff, ↓reduceIte, Int.reduceEq, Int.reduceLT, Int.reduceLE, Nat.reduceAdd]; simp [AV.same, AV.same1], ?_⟩
    simp only [e2, e6, bin_orU, bin_notU, s1, l1, s2, l2, w2, wantV_undef, SX, Opd.ev, resVal, resVals, ARes.val, Bool.false_eq_true, Bool.not_false, Bool.not_true, List.getD_cons_succ, List.getD_cons_zero, List.map_cons, List.map_nil, Nat.add_zero, Nat.zero_add, Option.map_none, Option.map_some, Option.some.injEq, and_true, decide_false, decide_true, true_and, reduceCtorEq, Nat.reduceEqDiff, ↓reduceIte, Int.reduceEq, Int.reduceLT, Int.reduceLE, Nat.reduceAdd]
    refine (bit_spec aq 2).mono ?_
    rintro _ Hx ⟨rfl, rfl⟩
    refine ⟨by simp only [echoOk, e2, l2, SX, Opd.ev, resVal, resVals, ARes.val, Bool.false_eq_true, Bool.not_false, Bool.not_true, List.getD_cons_succ, List.getD_cons_zero, List.map_cons, List.map_nil, Nat.add_zero, Nat.zero_add, Option.map_none, Option.map_some, Option.some.injEq, and_true, decide_false, decide_true, true_and, reduceCtorEq, Nat.reduceEqDiff, ↓reduceIte, Int.reduceEq, Int.reduceLT, Int.reduceLE, Nat.reduceAdd]; simp [AV.same, AV.same1], ?_⟩
    simp only [e2, e6, bin_orU, bin_notU, s3, wantV_undef, SX, Opd.ev, resVal, resVals, ARes.val, Bool.false_eq_true, Bool.not_false, Bool.not_true, List.getD_cons_succ, List.getD_cons_zero, List.map_cons, List.map_nil, Nat.add_zero, Nat.zero_add, Option.map_none, Option.map_some, Option.some.injEq, and_true, decide_false, decide_true, true_and, reduceCtorEq, Nat.reduceEqDiff, ↓reduceIte, Int.reduceEq, Int.reduceLT, Int.reduceLE, Nat.reduceAdd]
    refine fin _ _ ((k1.trans k2).trans k3) h3 (by simp only [e2, SX, Opd.ev, resVal, resVals, ARes.val, Bool.false_eq_true, Bool.not_false, Bool.not_true, List.getD_cons_succ, List.getD_cons_zero, List.map_cons, List.map_nil, Nat.add_zero, Nat.zero_add, Option.map_none, Option.map_some, Option.some.injEq, and_true, decide_false, decide_true, true_and, reduceCtorEq, Nat.reduceEqDiff, ↓reduceIte, Int.reduceEq, Int.reduceLT, Int.reduceLE, Nat.reduceAdd]) (by simp only [e6, SX, Opd.ev, resVal, resVals, ARes.val, Bool.false_eq_true, Bool.not_false, Bool.not_true, List.getD_cons_succ, List.getD_cons_zero, List.map_cons, List.map_nil, Nat.add_zero, Nat.zero_add, Option.map_none, Option.map_some, Option.some.injEq, and_true, decide_false, decide_true, true_and, reduceCtorEq, Nat.reduceEqDiff, ↓reduceIte, Int.reduceEq, Int.reduceLT, Int.reduceLE, Nat.reduceAdd]) ?_
    simp only [Same4, e2, SX, Opd.ev, resVal, resVals, ARes.val, Bool.false_eq_true, Bool.not_false, Bool.not_true, List.getD_cons_succ, List.getD_cons_zero, List.map_cons, List.map_nil, Nat.add_zero, Nat.zero_add, Option.map_none, Option.map_some, Option.some.injEq, and_true, decide_false, decide_true, true_and, reduceCtorEq, Nat.reduceEqDiff, ↓reduceIte, Int.reduceEq, Int.reduceLT, Int.reduceLE, Nat.reduceAdd, and_self]
  have d22 : decide (m = 22) = false := decide_eq_false c22
  have f2 : fl2 a.fl m = orU a.fl (bitP m) := by unfold fl2; rw [if_neg c22]
  by_cases c21 : 21 < m
  · have d21 : decide (21 < m) = true := decide_eq_true c21
    by_cases c30 : m < 30
    · have d30 : decide (m < 30) = true := decide_eq_true c30
      have w2 : IntKind.wrap .i64 (m - 20) = m - 20 := wrapI64 (by omega) (by omega)
      obtain ⟨H3, s3, h3, k3, n3⟩ := h1.store (o := 0) (v := .int .u16 (notU (orU a.fl (bitP m)) (bitP (m - 20)))) rfl (by simp [At.cs])
      have hfl : flR a.fl m = notU (orU a.fl (bitP m)) (bitP (m - 20)) := by unfold flR; rw [if_pos ⟨c21, c30⟩, f2]
      rw [hfl] at fin
      simp only [A20_rest, e2, e6, l0, SX, Opd.ev, resVal, resVals, ARes.val, Bool.false_eq_true, Bool.not_false, Bool.not_true, List.getD_cons_succ, List.getD_cons_zero, List.map_cons, List.map_nil, Nat.add_zero, Nat.zero_add, Option.map_none, Option.map_some, Option.some.injEq, and_true, decide_false, decide_true, true_and, reduceCtorEq, Nat.reduceEqDiff, ↓reduceIte, Int.reduceEq, Int.reduceLT, Int.reduceLE, Nat.reduceAdd]
      refine (bit_spec aq m).mono ?_
      rintro _ Hx ⟨rfl, rfl⟩
      refine ⟨by simp only [echoOk, e2, l0, SX, Opd.ev, resVal, resVals, ARes.val, Bool.false_eq_true, Bool.not_false, Bool.not_true, List.getD_cons_succ, List.getD_cons_zero, List.map_cons, List.map_nil, Nat.add_zero, Nat.zero_add, Option.map_none, Option.map_some, Option.some.injEq, and_true, decide_false, decide_true, true_and, reduceCtorEq, Nat.reduceEqDiff, ↓reduceIte, Int.reduceEq, Int.reduceLT, Int.reduceLE, Nat.reduceAdd]; simp [AV.same, AV.same1], ?_⟩
      simp only [e2, e6, bin_orU, bin_notU, s1, l1, d22, d21, d30, w2, wantV_undef, SX, Opd.ev, resVal, resVals, ARes.val, Bool.false_eq_true, Bool.not_false, Bool.not_true, List.getD_cons_succ, List.getD_cons_zero, List.map_cons, List.map_nil, Nat.add_zero, Nat.zero_add, Option.map_none, Option.map_some, Option.some.injEq, and_true, decide_false, decide_true, true_and, reduceCtorEq, Nat.reduceEqDiff, ↓reduceIte, Int.reduceEq, Int.reduceLT, Int.reduceLE, Nat.reduceAdd]
      refine (bit_spec aq (m - 20)).mono ?_
      rintro _ Hx ⟨rfl, rfl⟩
      refine ⟨by simp only [echoOk, e2, l1, SX, Opd.ev, resVal, resVals, ARes.val, Bool.false_eq_true, Bool.not_false, Bool.not_true, List.getD_cons_succ, List.getD_cons_zero, List.map_cons, List.map_nil, Nat.add_zero, Nat.zero_add, Option.map_none, Option.map_some, Option.some.injEq, and_true, decide_false, decide_true, true_and, reduceCtorEq, Nat.reduceEqDiff, ↓reduceIte, Int.reduceEq, Int.reduceLT, Int.reduceLE, Nat.reduceAdd]; simp [AV.same, AV.same1], ?_⟩
      simp only [e2, e6, bin_orU, bin_notU, s3, wantV_undef, SX, Opd.ev, resVal, resVals, ARes.val, Bool.false_eq_true, Bool.not_false, Bool.not_true, List.getD_cons_succ, List.getD_cons_zero, List.map_cons, List.map_nil, Nat.add_zero, Nat.zero_add, Option.map_none, Option.map_some, Option.some.injEq, and_true, decide_false, decide_true, true_and, reduceCtorEq, Nat.reduceEqDiff, ↓reduceIte, Int.reduceEq, Int.reduceLT, Int.reduceLE, Nat.reduceAdd]
      refine fin _ _ (k1.trans k3) h3 (by simp only [e2, SX, Opd.ev, resVal, resVals, ARes.val, Bool.false_eq_true, Bool.not_false, Bool.not_true, List.getD_cons_succ, List.getD_cons_zero, List.map_cons, List.map_nil, Nat.add_zero, Nat.zero_add, Option.map_none, Option.map_some, Option.some.injEq, and_true, decide_false, decide_true, true_and, reduceCtorEq, Nat.reduceEqDiff, ↓reduceIte, Int.reduceEq, Int.reduceLT, Int.reduceLE, Nat.reduceAdd]) (by simp only [e6, SX, Opd.ev, resVal, resVals, ARes.val, Bool.false_eq_true, Bool.not_false, Bool.not_true, List.getD_cons_succ, List.getD_cons_zero, List.map_cons, List.map_nil, Nat.add_zero, Nat.zero_add, Option.map_none, Option.map_some, Option.some.injEq, and_true, decide_false, decide_true, true_and, reduceCtorEq, Nat.reduceEqDiff, ↓reduceIte, Int.reduceEq, Int.reduceLT, Int.reduceLE, Nat.reduceAdd]) ?_
      simp only [Same4, e2, SX, Opd.ev, resVal, resVals, ARes.val, Bool.false_eq_true, Bool.not_false, Bool.not_true, List.getD_cons_succ, List.getD_cons_zero, List.map_cons, List.map_nil, Nat.add_zero, Nat.zero_add, Option.map_none, Option.map_some, Option.some.injEq, and_true, decide_false, decide_true, true_and, reduceCtorEq, Nat.reduceEqDiff, ↓reduceIte, Int.reduceEq, Int.reduceLT, Int.reduceLE, Nat.reduceAdd, and_self]
    · have d30 : decide (m < 30) = false := decide_eq_false c30
      have hfl : flR a.fl m = orU a.fl (bitP m) := by unfold flR; rw [if_neg (fun hh => c30 hh.2), f2]
      rw [hfl] at fin
      simp only [A20_rest, e2, e6, l0, SX, Opd.ev, resVal, resVals, ARes.val, Bool.false_eq_true, Bool.not_false, Bool.not_true, List.getD_cons_succ, List.getD_cons_zero, List.map_cons, List.map_nil, Nat.add_zero, Nat.zero_add, Option.map_none, Option.map_some, Option.some.injEq, and_true, decide_false, decide_true, true_and, reduceCtorEq, Nat.reduceEqDiff, ↓reduceIte, Int.reduceEq, Int.reduceLT, Int.reduceLE, Nat.reduceAdd]
      refine (bit_spec aq m).mono ?_
      rintro _ Hx ⟨rfl, rfl⟩
      refine ⟨by simp only [echoOk, e2, l0, SX, Opd.ev, resVal, resVals, ARes.val, Bool.false_eq_true, Bool.not_false, Bool.not_true, List.getD_cons_succ, List.getD_cons_zero, List.map_cons, List.map_nil, Nat.add_zero, Nat.zero_add, Option.map_none, Option.map_some, Option.some.injEq, and_true, decide_false, decide_true, true_and, reduceCtorEq, Nat.reduceEqDiff, ↓reduceIte, Int.reduceEq, Int.reduceLT, Int.reduceLE, Nat.reduceAdd]; simp [AV.same, AV.same1], ?_⟩
      simp only [e2, e6, bin_orU, bin_notU, s1, l1, d22, d21, d30, wantV_undef, SX, Opd.ev, resVal, resVals, ARes.val, Bool.false_eq_true, Bool.not_false, Bool.not_true, List.getD_cons_succ, List.getD_cons_zero, List.map_cons, List.map_nil, Nat.add_zero, Nat.zero_add, Option.map_none, Option.map_some, Option.some.injEq, and_true, decide_false, decide_true, true_and, reduceCtorEq, Nat.reduceEqDiff, ↓reduceIte, Int.reduceEq, Int.reduceLT, Int.reduceLE, Nat.reduceAdd]
      refine fin _ _ k1 h1 (by simp only [e2, SX, Opd.ev, resVal, resVals, ARes.val, Bool.false_eq_true, Bool.not_false, Bool.not_true, List.getD_cons_succ, List.getD_cons_zero, List.map_cons, List.map_nil, Nat.add_zero, Nat.zero_add, Option.map_none, Option.map_some, Option.some.injEq, and_true, decide_false, decide_true, true_and, reduceCtorEq, Nat.reduceEqDiff, ↓reduceIte, Int.reduceEq, Int.reduceLT, Int.reduceLE, Nat.reduceAdd]) (by simp only [e6, SX, Opd.ev, resVal, resVals, ARes.val, Bool.false_eq_true, Bool.not_false, Bool.not_true, List.getD_cons_succ, List.getD_cons_zero, List.map_cons, List.map_nil, Nat.add_zero, Nat.zero_add, Option.map_none, Option.map_some, Option.some.injEq, and_true, decide_false, decide_true, true_and, reduceCtorEq, Nat.reduceEqDiff, ↓reduceIte, Int.reduceEq, Int.reduceLT, Int.reduceLE, Nat.reduceAdd]) ?_
      simp only [Same4, e2, SX, Opd.ev, resVal, resVals, ARes.val, Bool.false_eq_true, Bool.not_false, Bool.not_true, List.getD_cons_succ, List.getD_cons_zero, List.map_cons, List.map_nil, Nat.add_zero, Nat.zero_add, Option.map_none, Option.map_some, Option.some.injEq, and_true, decide_false, decide_true, true_and, reduceCtorEq, Nat.reduceEqDiff, ↓reduceIte, Int.reduceEq, Int.reduceLT, Int.reduceLE, Nat.reduceAdd, and_self]
  · have d21 : decide (21 < m) = false := decide_eq_false c21
    have hfl : flR a.fl m = orU a.fl (bitP m) := by unfold flR; rw [if_neg (fun hh => c21 hh.1), f2]
    rw [hfl] at fin
    simp only [A20_rest, e2, e6, l0, SX, Opd.ev, resVal, resVals, ARes.val, Bool.false_eq_true, Bool.not_false, Bool.not_true, List.getD_cons_succ, List.getD_cons_zero, List.map_cons, List.map_nil, Nat.add_zero, Nat.zero_add, Option.map_none, Option.map_some, Option.some.injEq, and_true, decide_false, decide_true, true_and, reduceCtorEq, Nat.reduceEqDiff, ↓reduceIte, Int.reduceEq, Int.reduceLT, Int.reduceLE, Nat.reduceAdd]
    refine (bit_spec aq m).mono ?_
    rintro _ Hx ⟨rfl, rfl⟩
    refine ⟨by simp only [echoOk, e2, l0, SX, Opd.ev, resVal, resVals, ARes.val, Bool.false_eq_true, Bool.not_false, Bool.not_true, List.getD_cons_succ, List.getD_cons_zero, List.map_cons, List.map_nil, Nat.add_zero, Nat.zero_add, Option.map_none, Option.map_some, Option.some.injEq, and_true, decide_false, decide_true, true_and, reduceCtorEq, Nat.reduceEqDiff, ↓reduceIte, Int.reduceEq, Int.reduceLT, Int.reduceLE, Nat.reduceAdd]; simp [AV.same, AV.same1], ?_⟩
    simp only [e2, e6, bin_orU, bin_notU, s1, l1, d22, d21, wantV_undef, SX, Opd.ev, resVal, resVals, ARes.val, Bool.false_eq_true, Bool.not_false, Bool.not_true, List.getD_cons_succ, List.getD_cons_zero, List.map_cons, List.map_nil, Nat.add_zero, Nat.zero_add, Option.map_none, Option.map_some, Option.some.injEq, and_true, decide_false, decide_true, true_and, reduceCtorEq, Nat.reduceEqDiff, ↓reduceIte, Int.reduceEq, Int.reduceLT, Int.reduceLE, Nat.reduceAdd]
    refine fin _ _ k1 h1 (by simp only [e2, SX, Opd.ev, resVal, resVals, ARes.val, Bool.false_eq_true, Bool.not_false, Bool.not_true, List.getD_cons_succ, List.getD_cons_zero, List.map_cons, List.map_nil, Nat.add_zero, Nat.zero_add, Option.map_none, Option.map_some, Option.some.injEq, and_true, decide_false, decide_true, true_and, reduceCtorEq, Nat.reduceEqDiff, ↓reduceIte, Int.reduceEq, Int.reduceLT, Int.reduceLE, Nat.reduceAdd]) (by simp only [e6, SX, Opd.ev, resVal, resVals, ARes.val, Bool.false_eq_true, Bool.not_false, Bool.not_true, List.getD_cons_succ, List.getD_cons_zero, List.map_cons, List.map_nil, Nat.add_zero, Nat.zero_add, Option.map_none, Option.map_some, Option.some.injEq, and_true, decide_false, decide_true, true_and, reduceCtorEq, Nat.reduceEqDiff, ↓reduceIte, Int.reduceEq, Int.reduceLT, Int.reduceLE, Nat.reduceAdd]) ?_
    simp only [Same4, e2, SX, Opd.ev, resVal, resVals, ARes.val, Bool.false_eq_true, Bool.not_false, Bool.not_true, List.getD_cons_succ, List.getD_cons_zero, List.map_cons, List.map_nil, Nat.add_zero, Nat.zero_add, Option.map_none, Option.map_some, Option.some.injEq, and_true, decide_false, decide_true, true_and, reduceCtorEq, Nat.reduceEqDiff, ↓reduceIte, Int.reduceEq, Int.reduceLT, Int.reduceLE, Nat.reduceAdd, and_self]
end
def longStep (a : At) (p : List Int) (rest : List (List Int)) : At × Nat :=
  (if (longP (p :: rest)).1.ok = true ∧ fst0 p = 38 then { a with fk := (longP (p :: rest)).1.k, fn := (longP (p :: rest)).1.n } else if (longP (p :: rest)).1.ok = true then { a with bk := (longP (p :: rest)).1.k, bn := (longP (p :: rest)).1.n } else a, (longP (p :: rest)).2.toNat)
def stepR (a : At) (p : List Int) (rest : List (List Int)) : At × Nat :=
  if fst0 p = 38 ∨ fst0 p = 48 then longStep a p rest
  else (restA (if fst0 p = 0 then At.zero else a) (if fst0 p = 4 ∧ offOf p = true then 24 else fst0 p), 0)
def applyRF : Nat → At → List (List Int) → At
  | 0, a, _ => a
  | _ + 1, a, [] => a
  | f + 1, a, p :: rest => applyRF f (stepR a p rest).1 (rest.drop (stepR a p rest).2)
def applyRP (a : At) (L : List (List Int)) : At := if L = [] then At.zero else applyRF L.length a L
theorem applyRF_nil (f : Nat) (a : At) : applyRF f a [] = a := by cases f <;> rfl
section
variable {Q : Prog} (aq : AtQ Q) {H : AHeap}
include aq
set_option maxHeartbeats 16000000 in
theorem applyR_spec {a : At} {v : AV} {L : List (List Int)} (hv : IsL H v L) (hL : L.length ≤ 10000) (hp : ∀ p ∈ L, p.length ≤ 10000) (hf : Fr H) : FnTo Q 20 [a.val, v] H (fun r H' => r = (applyRP a L).val ∧ Gr H H') := by
  refine fn_wp (aq.ho 20 rfl _) aq.q20 (by simp [A20]) ?_
  obtain ⟨H1, s1, h1, k1⟩ := (Hp.nil H hf).make a.cs 5
  obtain ⟨H2, s2, h2, k2⟩ := h1.make At.zero.cs 5
  have g2 : Gr H H2 := h2.gr (k1.trans k2)
  have hv2 := hv.grow hf g2
  have lv2 := hv2.len
  cases L with
  | nil =>
    obtain ⟨H3, s3, h3, k3, n3⟩ := h2.storeN (n := 5) (new := At.zero.cs) rfl rfl rfl
    have s3 : storeE H2 5 (.ptr H1.next 0) (.agg At.zero.cs) = some (.undef, H3) := s3
    have l3 : loadV H3 (some 5) (.ptr H1.next 0) = some At.zero.val := h3.loadN (List.mem_cons_self ..) rfl
    have d0 : decide ((([] : List (List Int)).length : Int) = 0) = true := rfl
    simp only [A20, box_at, z5l, run_box, run_allocL, s1, s2, lv2, d0, run_build0, s3, l3, resVal, resVals, ARes.val, SX, Opd.ev, resVal, resVals, ARes.val, Bool.false_eq_true, Bool.not_false, Bool.not_true, List.getD_cons_succ, List.getD_cons_zero, List.map_cons, List.map_nil, Nat.add_zero, Nat.zero_add, Option.map_none, Option.map_some, Option.some.injEq, and_true, decide_false, decide_true, true_and, reduceCtorEq, Nat.reduceEqDiff, ↓reduceIte, Int.reduceEq, Int.reduceLT, Int.reduceLE, Nat.reduceAdd]
    exact ⟨rfl, h3.gr ((k1.trans k2).trans k3)⟩
  | cons p0 L0 =>
  obtain ⟨L, hLe⟩ : ∃ L, p0 :: L0 = L := ⟨_, rfl⟩
  have hne : L ≠ [] := by rw [← hLe]; simp
  rw [hLe] at hv hL hp hv2 lv2 ⊢
  have hres : applyRP a L = applyRF L.length a L := by unfold applyRP; rw [if_neg hne]
  have d0 : decide ((L.length : Int) = 0) = false := by
    simp only [decide_eq_false_iff_not]; intro hh
    exact hne (List.eq_nil_of_length_eq_zero (by omega))
  simp only [A20, box_at, z5l, run_box, run_allocL, s1, s2, lv2, d0, SX, Opd.ev, resVal, resVals, ARes.val, Bool.false_eq_true, Bool.not_false, Bool.not_true, List.getD_cons_succ, List.getD_cons_zero, List.map_cons, List.map_nil, Nat.add_zero, Nat.zero_add, Option.map_none, Option.map_some, Option.some.injEq, and_true, decide_false, decide_true, true_and, reduceCtorEq, Nat.reduceEqDiff, ↓reduceIte, Int.reduceEq, Int.reduceLT, Int.reduceLE, Nat.reduceAdd]
  obtain ⟨I, hI⟩ : ∃ I : Nat → Env → AHeap → Prop, ∀ m e H', I m e H' ↔ (Keep H.next H H' ∧ ∃ (i f : Nat) (a' : At), m = L.length - i ∧ i ≤ L.length ∧ L.length - i ≤ f ∧ applyRF f a' (L.drop i) = applyRF L.length a L ∧ Hp H.next H' (⟨H.next, 5, a'.cs⟩ :: [⟨H1.next, 5, At.zero.cs⟩]) ∧ Env.get e 1 = v ∧ Env.get e 2 = .ptr H.next 0 ∧ Env.get e 4 = .ptr H1.next 0 ∧ Env.get e 5 = .int .i64 i) := ⟨_, fun _ _ _ => Iff.rfl⟩
  refine loop_by I L.length ?_ ?_
  · refine (hI _ _ _).2 ⟨k1.trans k2, 0, L.length, a, rfl, by omega, by omega, rfl, h2.perm (List.Perm.swap _ _ _), ?_⟩
    simp only [SX, Opd.ev, resVal, resVals, ARes.val, Bool.false_eq_true, Bool.not_false, Bool.not_true, List.getD_cons_succ, List.getD_cons_zero, List.map_cons, List.map_nil, Nat.add_zero, Nat.zero_add, Option.map_none, Option.map_some, Option.some.injEq, and_true, decide_false, decide_true, true_and, reduceCtorEq, Nat.reduceEqDiff, ↓reduceIte, Int.reduceEq, Int.reduceLT, Int.reduceLE, Nat.reduceAdd]; rfl
  · intro m e H4 hinv
    obtain ⟨k4, i, f, a', rfl, hi, hf4, hap, h4, e1, e2, e4, e5⟩ := (hI _ _ _).1 hinv
    have g4 : Gr H H4 := h4.gr k4
    have hv4 := hv.grow hf g4
    have lv4 := hv4.len
    by_cases d : (i : Int) < L.length
    · obtain ⟨p, hpi⟩ : ∃ p, L[i]? = some p := ⟨_, List.getElem?_eq_getElem (by omega)⟩
      obtain ⟨rest, hrest⟩ : ∃ rest, L.drop (i + 1) = rest := ⟨_, rfl⟩
      have hdrop : L.drop i = p :: rest := by
        rw [List.drop_eq_getElem_cons (by omega), (List.getElem?_eq_some_iff.1 hpi).2, hrest]
      have hrl : rest.length = L.length - (i + 1) := by rw [← hrest]; simp
      have hpl : p.length ≤ 10000 := hp p (List.mem_of_getElem? hpi)
      obtain ⟨f', rfl⟩ : ∃ f', f = f' + 1 := ⟨f - 1, by omega⟩
      rw [hdrop, applyRF] at hap
      obtain ⟨n, hn⟩ : ∃ n, fst0 p = n := ⟨_, rfl⟩
      have xi := hv4.at (i := (i : Int)) (by omega) (by omega) .i64
      obtain ⟨c, lc, hc⟩ := hv4.get (i := (i : Int)) (a := p) (by simpa using hpi)
      have lp := IsS.len hc
      have next : ∀ (e' : Env) (H' : AHeap) (a2 : At) (tk : Nat), stepR a' p rest = (a2, tk) → tk ≤ rest.length → Keep H.next H H' → Hp H.next H' (⟨H.next, 5, a2.cs⟩ :: [⟨H1.next, 5, At.zero.cs⟩]) → (Env.get e' 1 = v ∧ Env.get e' 2 = .ptr H.next 0 ∧ Env.get e' 4 = .ptr H1.next 0 ∧ Env.get e' 5 = .int .i64 ((i + tk + 1 : Nat) : Int)) → ∃ m', m' < L.length - i ∧ I m' e' H' := by
        intro e' H' a2 tk hs htk kk hh he
        rw [hs] at hap
        refine ⟨L.length - (i + tk + 1), by omega, (hI _ _ _).2 ⟨kk, i + tk + 1, f', a2, rfl, by omega, by omega, ?_, hh, he⟩⟩
        rw [← hap, ← hrest, List.drop_drop]
        congr 2; omega
      have w0 : IntKind.wrap .i64 ((i : Int) + 1) = ((i + 0 + 1 : Nat) : Int) := by rw [wrapI64 (by omega) (by omega)]; rfl
      simp only [e1, e2, e4, e5, lv4, d, xi, lc, SX, Opd.ev, resVal, resVals, ARes.val, Bool.false_eq_true, Bool.not_false, Bool.not_true, List.getD_cons_succ, List.getD_cons_zero, List.map_cons, List.map_nil, Nat.add_zero, Nat.zero_add, Option.map_none, Option.map_some, Option.some.injEq, and_true, decide_false, decide_true, true_and, reduceCtorEq, Nat.reduceEqDiff, ↓reduceIte, Int.reduceEq, Int.reduceLT, Int.reduceLE, Nat.reduceAdd]
      refine (part_spec aq hc).mono ?_
      rintro _ Hx ⟨rfl, hx⟩
      replace hx := hx.symm
      subst hx
      rw [hn]
      by_cases c0 : n = 0
      · subst c0
        obtain ⟨H5, s5, h5, k5, n5⟩ := h4.storeN (n := 5) (new := At.zero.cs) rfl rfl rfl
        have s5 : storeE H4 5 (.ptr H.next 0) (.agg At.zero.cs) = some (.undef, H5) := s5
        simp only [e1, e2, e4, e5, run_build0, z5l, s5, wantV_undef, SX, Opd.ev, resVal, resVals, ARes.val, Bool.false_eq_true, Bool.not_false, Bool.not_true, List.getD_cons_succ, List.getD_cons_zero, List.map_cons, List.map_nil, Nat.add_zero, Nat.zero_add, Option.map_none, Option.map_some, Option.some.injEq, and_true, decide_false, decide_true, true_and, reduceCtorEq, Nat.reduceEqDiff, ↓reduceIte, Int.reduceEq, Int.reduceLT, Int.reduceLE, Nat.reduceAdd]
        refine rest_wp aq (a := At.zero) (m := 0) h5 (by simp only [e2, SX, Opd.ev, resVal, resVals, ARes.val, Bool.false_eq_true, Bool.not_false, Bool.not_true, List.getD_cons_succ, List.getD_cons_zero, List.map_cons, List.map_nil, Nat.add_zero, Nat.zero_add, Option.map_none, Option.map_some, Option.some.injEq, and_true, decide_false, decide_true, true_and, reduceCtorEq, Nat.reduceEqDiff, ↓reduceIte, Int.reduceEq, Int.reduceLT, Int.reduceLE, Nat.reduceAdd]) (by simp only [SX, Opd.ev, resVal, resVals, ARes.val, Bool.false_eq_true, Bool.not_false, Bool.not_true, List.getD_cons_succ, List.getD_cons_zero, List.map_cons, List.map_nil, Nat.add_zero, Nat.zero_add, Option.map_none, Option.map_some, Option.some.injEq, and_true, decide_false, decide_true, true_and, reduceCtorEq, Nat.reduceEqDiff, ↓reduceIte, Int.reduceEq, Int.reduceLT, Int.reduceLE, Nat.reduceAdd]) ?_
        intro e' H6 k6 h6 se
        simp only [Same4, e1, e2, e4, e5, SX, Opd.ev, resVal, resVals, ARes.val, Bool.false_eq_true, Bool.not_false, Bool.not_true, List.getD_cons_succ, List.getD_cons_zero, List.map_cons, List.map_nil, Nat.add_zero, Nat.zero_add, Option.map_none, Option.map_some, Option.some.injEq, and_true, decide_false, decide_true, true_and, reduceCtorEq, Nat.reduceEqDiff, ↓reduceIte, Int.reduceEq, Int.reduceLT, Int.reduceLE, Nat.reduceAdd] at se
        obtain ⟨f1, f2, f4, f5⟩ := se
        simp only [f1, f2, f4, f5, w0, SX, Opd.ev, resVal, resVals, ARes.val, Bool.false_eq_true, Bool.not_false, Bool.not_true, List.getD_cons_succ, List.getD_cons_zero, List.map_cons, List.map_nil, Nat.add_zero, Nat.zero_add, Option.map_none, Option.map_some, Option.some.injEq, and_true, decide_false, decide_true, true_and, reduceCtorEq, Nat.reduceEqDiff, ↓reduceIte, Int.reduceEq, Int.reduceLT, Int.reduceLE, Nat.reduceAdd]
        refine next _ H6 (restA At.zero 0) 0 (by unfold stepR; rw [hn]; rfl) (by omega) ((k4.trans k5).trans k6) h6 ?_
        simp only [f1, f2, f4, f5, and_self, SX, Opd.ev, resVal, resVals, ARes.val, Bool.false_eq_true, Bool.not_false, Bool.not_true, List.getD_cons_succ, List.getD_cons_zero, List.map_cons, List.map_nil, Nat.add_zero, Nat.zero_add, Option.map_none, Option.map_some, Option.some.injEq, and_true, decide_false, decide_true, true_and, reduceCtorEq, Nat.reduceEqDiff, ↓reduceIte, Int.reduceEq, Int.reduceLT, Int.reduceLE, Nat.reduceAdd]
      have c0' : decide (n = 0) = false := decide_eq_false c0
      by_cases c1 : n = 38 ∨ n = 48
      · have tk := long_tk p rest
        have hst : stepR a' p rest = longStep a' p rest := by unfold stepR; rw [hn, if_pos c1]
        unfold longStep at hst
        rw [hn] at hst
        have hc1 : ∀ (K : AV → AHeap → Prop), (∀ H', Gr H4 H' → K (.tup [(longP (p :: rest)).1.col, .int .i64 (longP (p :: rest)).2, .bool (longP (p :: rest)).1.ok]) H') → FnTo Q 36 [v, .int .i64 (i : Int)] H4 K := by
          intro K hK
          refine (longR_spec aq hv4 hL hdrop hpl h4.fr).mono ?_
          rintro r H' ⟨rfl, g⟩
          exact hK H' g
        obtain ⟨co, hco⟩ : ∃ co, (longP (p :: rest)).1 = co := ⟨_, rfl⟩
        obtain ⟨tkn, htk⟩ : ∃ t : Nat, (longP (p :: rest)).2 = t := ⟨(longP (p :: rest)).2.toNat, by omega⟩
        rw [hco, htk] at hst hc1
        rw [htk] at tk
        have wt : IntKind.wrap .i64 ((i : Int) + tkn) = ((i + tkn : Nat) : Int) := by rw [wrapI64 (by omega) (by omega)]; rfl
        have w1 : IntKind.wrap .i64 (((i + tkn : Nat) : Int) + 1) = ((i + tkn + 1 : Nat) : Int) := by rw [wrapI64 (by omega) (by omega)]; rfl
        have tail : ∀ H5, Gr H4 H5 → ∃ H6, H5.alloc (.row ⟨[.int .u8 0, .int .u32 0], 0, false, true⟩) = H6 ∧ ∃ H7, storeE H6 2 (.ptr H5.next 0) co.col = some (.undef, H7) ∧ loadV H7 (some 2) (.ptr H5.next 0) = some co.col ∧ Keep H.next H H7 ∧ Hp H.next H7 (⟨H.next, 5, a'.cs⟩ :: [⟨H1.next, 5, At.zero.cs⟩]) ∧
            (∃ H8, storeE H7 2 (.ptr H.next 1) co.col = some (.undef, H8) ∧ Keep H.next H H8 ∧ Hp H.next H8 (⟨H.next, 5, ({ a' with fk := co.k, fn := co.n } : At).cs⟩ :: [⟨H1.next, 5, At.zero.cs⟩])) ∧
            (∃ H8, storeE H7 2 (.ptr H.next 3) co.col = some (.undef, H8) ∧ Keep H.next H H8 ∧ Hp H.next H8 (⟨H.next, 5, ({ a' with bk := co.k, bn := co.n } : At).cs⟩ :: [⟨H1.next, 5, At.zero.cs⟩])) := by
          intro H5 g5
          have h5 := h4.keep g5.keep g5.next g5.fr
          have k5 : Keep H.next H H5 := k4.trans (g5.keep.le g4.next)
          obtain ⟨H6, s6, h6, k6⟩ := h5.make [.int .u8 0, .int .u32 0] 2
          obtain ⟨H7, s7, h7, k7, n7⟩ := h6.storeN (n := 2) (new := [.int .u8 co.k, .int .u32 co.n]) rfl rfl rfl
          obtain ⟨H8, s8, h8, k8, n8⟩ := (h7.drop).storeO (a := [.int .u16 a'.fl]) (x := [.int .u8 a'.fk, .int .u32 a'.fn]) (c := [.int .u8 a'.bk, .int .u32 a'.bn]) (o := 1) (n := 2) rfl rfl rfl (new := [.int .u8 co.k, .int .u32 co.n]) rfl rfl
          obtain ⟨H9, s9, h9, k9, n9⟩ := (h7.drop).storeO (a := [.int .u16 a'.fl, .int .u8 a'.fk, .int .u32 a'.fn]) (x := [.int .u8 a'.bk, .int .u32 a'.bn]) (c := []) (o := 3) (n := 2) rfl rfl rfl (new := [.int .u8 co.k, .int .u32 co.n]) rfl rfl
          exact ⟨H6, s6, H7, s7, h7.loadN (List.mem_cons_self ..) rfl, (k5.trans k6).trans k7, h7.drop, ⟨H8, s8, ((k5.trans k6).trans k7).trans k8, h8⟩, ⟨H9, s9, ((k5.trans k6).trans k7).trans k9, h9⟩⟩
        by_cases c38 : n = 38
        · have c38' : decide (n = 38) = true := decide_eq_true c38
          have c48' : decide (n = 48) = false := decide_eq_false (by omega)
          simp only [e1, e2, e4, e5, c0', c38', wantV_undef, SX, Opd.ev, resVal, resVals, ARes.val, Bool.false_eq_true, Bool.not_false, Bool.not_true, List.getD_cons_succ, List.getD_cons_zero, List.map_cons, List.map_nil, Nat.add_zero, Nat.zero_add, Option.map_none, Option.map_some, Option.some.injEq, and_true, decide_false, decide_true, true_and, reduceCtorEq, Nat.reduceEqDiff, ↓reduceIte, Int.reduceEq, Int.reduceLT, Int.reduceLE, Nat.reduceAdd]
          refine hc1 _ ?_
          intro H5 g5
          obtain ⟨H6, s6, H7, s7, l7, k7, h7, ⟨H8, s8, k8, h8⟩, _⟩ := tail H5 g5
          cases hok : co.ok with
          | true =>
            simp only [e1, e2, e4, e5, ex30, ex31, ex32, hok, c38', c48', run_allocL, s6, s7, l7, s8, wt, w1, wantV_undef, SX, Opd.ev, resVal, resVals, ARes.val, Bool.false_eq_true, Bool.not_false, Bool.not_true, List.getD_cons_succ, List.getD_cons_zero, List.map_cons, List.map_nil, Nat.add_zero, Nat.zero_add, Option.map_none, Option.map_some, Option.some.injEq, and_true, decide_false, decide_true, true_and, reduceCtorEq, Nat.reduceEqDiff, ↓reduceIte, Int.reduceEq, Int.reduceLT, Int.reduceLE, Nat.reduceAdd]
            refine next _ H8 _ tkn (by rw [hst, if_pos ⟨hok, c38⟩]; rfl) (by omega) k8 h8 ?_
            simp only [e1, e2, e4, e5, and_self, SX, Opd.ev, resVal, resVals, ARes.val, Bool.false_eq_true, Bool.not_false, Bool.not_true, List.getD_cons_succ, List.getD_cons_zero, List.map_cons, List.map_nil, Nat.add_zero, Nat.zero_add, Option.map_none, Option.map_some, Option.some.injEq, and_true, decide_false, decide_true, true_and, reduceCtorEq, Nat.reduceEqDiff, ↓reduceIte, Int.reduceEq, Int.reduceLT, Int.reduceLE, Nat.reduceAdd]
          | false =>
            simp only [e1, e2, e4, e5, ex30, ex31, ex32, hok, run_allocL, s6, s7, wt, w1, wantV_undef, SX, Opd.ev, resVal, resVals, ARes.val, Bool.false_eq_true, Bool.not_false, Bool.not_true, List.getD_cons_succ, List.getD_cons_zero, List.map_cons, List.map_nil, Nat.add_zero, Nat.zero_add, Option.map_none, Option.map_some, Option.some.injEq, and_true, decide_false, decide_true, true_and, reduceCtorEq, Nat.reduceEqDiff, ↓reduceIte, Int.reduceEq, Int.reduceLT, Int.reduceLE, Nat.reduceAdd]
            refine next _ H7 _ tkn (by rw [hst, if_neg (by simp [hok]), if_neg (by simp [hok])]; rfl) (by omega) k7 h7 ?_
            simp only [e1, e2, e4, e5, and_self, SX, Opd.ev, resVal, resVals, ARes.val, Bool.false_eq_true, Bool.not_false, Bool.not_true, List.getD_cons_succ, List.getD_cons_zero, List.map_cons, List.map_nil, Nat.add_zero, Nat.zero_add, Option.map_none, Option.map_some, Option.some.injEq, and_true, decide_false, decide_true, true_and, reduceCtorEq, Nat.reduceEqDiff, ↓reduceIte, Int.reduceEq, Int.reduceLT, Int.reduceLE, Nat.reduceAdd]
        · have c38' : decide (n = 38) = false := decide_eq_false c38
          have c48' : decide (n = 48) = true := decide_eq_true (c1.resolve_left c38)
          simp only [e1, e2, e4, e5, c0', c38', c48', wantV_undef, SX, Opd.ev, resVal, resVals, ARes.val, Bool.false_eq_true, Bool.not_false, Bool.not_true, List.getD_cons_succ, List.getD_cons_zero, List.map_cons, List.map_nil, Nat.add_zero, Nat.zero_add, Option.map_none, Option.map_some, Option.some.injEq, and_true, decide_false, decide_true, true_and, reduceCtorEq, Nat.reduceEqDiff, ↓reduceIte, Int.reduceEq, Int.reduceLT, Int.reduceLE, Nat.reduceAdd]
          refine hc1 _ ?_
          intro H5 g5
          obtain ⟨H6, s6, H7, s7, l7, k7, h7, _, ⟨H8, s8, k8, h8⟩⟩ := tail H5 g5
          cases hok : co.ok with
          | true =>
            simp only [e1, e2, e4, e5, ex30, ex31, ex32, hok, c38', c48', run_allocL, s6, s7, l7, s8, wt, w1, wantV_undef, SX, Opd.ev, resVal, resVals, ARes.val, Bool.false_eq_true, Bool.not_false, Bool.not_true, List.getD_cons_succ, List.getD_cons_zero, List.map_cons, List.map_nil, Nat.add_zero, Nat.zero_add, Option.map_none, Option.map_some, Option.some.injEq, and_true, decide_false, decide_true, true_and, reduceCtorEq, Nat.reduceEqDiff, ↓reduceIte, Int.reduceEq, Int.reduceLT, Int.reduceLE, Nat.reduceAdd]
            refine next _ H8 _ tkn (by rw [hst, if_neg (fun hh => c38 hh.2), if_pos hok]; rfl) (by omega) k8 h8 ?_
            simp only [e1, e2, e4, e5, and_self, SX, Opd.ev, resVal, resVals, ARes.val, Bool.false_eq_true, Bool.not_false, Bool.not_true, List.getD_cons_succ, List.getD_cons_zero, List.map_cons, List.map_nil, Nat.add_zero, Nat.zero_add, Option.map_none, Option.map_some, Option.some.injEq, and_true, decide_false, decide_true, true_and, reduceCtorEq, Nat.reduceEqDiff, ↓reduceIte, Int.reduceEq, Int.reduceLT, Int.reduceLE, Nat.reduceAdd]
          | false =>
            simp only [e1, e2, e4, e5, ex30, ex31, ex32, hok, run_allocL, s6, s7, wt, w1, wantV_undef, SX, Opd.ev, resVal, resVals, ARes.val, Bool.false_eq_true, Bool.not_false, Bool.not_true, List.getD_cons_succ, List.getD_cons_zero, List.map_cons, List.map_nil, Nat.add_zero, Nat.zero_add, Option.map_none, Option.map_some, Option.some.injEq, and_true, decide_false, decide_true, true_and, reduceCtorEq, Nat.reduceEqDiff, ↓reduceIte, Int.reduceEq, Int.reduceLT, Int.reduceLE, Nat.reduceAdd]
            refine next _ H7 _ tkn (by rw [hst, if_neg (by simp [hok]), if_neg (by simp [hok])]; rfl) (by omega) k7 h7 ?_
            simp only [e1, e2, e4, e5, and_self, SX, Opd.ev, resVal, resVals, ARes.val, Bool.false_eq_true, Bool.not_false, Bool.not_true, List.getD_cons_succ, List.getD_cons_zero, List.map_cons, List.map_nil, Nat.add_zero, Nat.zero_add, Option.map_none, Option.map_some, Option.some.injEq, and_true, decide_false, decide_true, true_and, reduceCtorEq, Nat.reduceEqDiff, ↓reduceIte, Int.reduceEq, Int.reduceLT, Int.reduceLE, Nat.reduceAdd]
      · have c38' : decide (n = 38) = false := decide_eq_false (fun h => c1 (.inl h))
        have c48' : decide (n = 48) = false := decide_eq_false (fun h => c1 (.inr h))
        have fin : ∀ (m : Int) (e' : Env), m = (if n = 4 ∧ offOf p = true then 24 else n) → Env.get e' 1 = v → Env.get e' 2 = .ptr H.next 0 → Env.get e' 4 = .ptr H1.next 0 → Env.get e' 5 = .int .i64 i → Env.get e' 6 = .int .i64 m → ∀ {K : PostC}, (∀ e'' H6, Keep H.next H H6 → Hp H.next H6 (⟨H.next, 5, (restA a' m).cs⟩ :: [⟨H1.next, 5, At.zero.cs⟩]) → Env.get e'' 1 = v → Env.get e'' 2 = .ptr H.next 0 → Env.get e'' 4 = .ptr H1.next 0 → Env.get e'' 5 = .int .i64 i → K .normal e'' H6) → ACode.wp Q A20_rest K e' H4 := by
          intro m e' hm f1 f2 f4 f5 f6 K hK
          refine rest_wp aq (a := a') (m := m) h4 f2 f6 ?_
          intro e'' H6 k6 h6 se
          obtain ⟨q1, q2, q4, q5⟩ := se
          exact hK e'' H6 (k4.trans k6) h6 (q1.trans f1) (q2.trans f2) (q4.trans f4) (q5.trans f5)
        have hst : ∀ m, m = (if n = 4 ∧ offOf p = true then 24 else n) → stepR a' p rest = (restA a' m, 0) := by
          intro m hm
          unfold stepR; rw [hn, if_neg c1, if_neg c0, hm]
        by_cases c4 : n = 4
        · have c4' : decide (n = 4) = true := decide_eq_true c4
          by_cases cl : 1 < p.length
          · obtain ⟨x, y, t, rfl⟩ : ∃ x y t, p = x :: y :: t := by
              match p, cl with
              | x :: y :: t, _ => exact ⟨x, y, t, rfl⟩
            have dl : decide ((1 : Int) < ((x :: y :: t).length : Nat)) = true := by simp only [decide_eq_true_eq]; simp; omega
            have x1 := IsS.at hc (i := 1) (by omega) (by simp; omega) .i64
            have l1 := IsS.int hc (i := 1) (a := y) rfl
            by_cases cy : y = 0
            · have dy : decide (y = 0) = true := decide_eq_true cy
              have hm : (24 : Int) = (if n = 4 ∧ offOf (x :: y :: t) = true then 24 else n) := by rw [if_pos ⟨c4, by simp [offOf, cy]⟩]
              simp only [e1, e2, e4, e5, c0', c38', c48', c4', xi, lc, lp, dl, x1, l1, dy, wantV_undef, SX, Opd.ev, resVal, resVals, ARes.val, Bool.false_eq_true, Bool.not_false, Bool.not_true, List.getD_cons_succ, List.getD_cons_zero, List.map_cons, List.map_nil, Nat.add_zero, Nat.zero_add, Option.map_none, Option.map_some, Option.some.injEq, and_true, decide_false, decide_true, true_and, reduceCtorEq, Nat.reduceEqDiff, ↓reduceIte, Int.reduceEq, Int.reduceLT, Int.reduceLE, Nat.reduceAdd]
              refine fin 24 _ hm (by simp only [e1, SX, Opd.ev, resVal, resVals, ARes.val, Bool.false_eq_true, Bool.not_false, Bool.not_true, List.getD_cons_succ, List.getD_cons_zero, List.map_cons, List.map_nil, Nat.add_zero, Nat.zero_add, Option.map_none, Option.map_some, Option.some.injEq, and_true, decide_false, decide_true, true_and, reduceCtorEq, Nat.reduceEqDiff, ↓reduceIte, Int.reduceEq, Int.reduceLT, Int.reduceLE, Nat.reduceAdd]) (by simp only [e2, SX, Opd.ev, resVal, resVals, ARes.val, Bool.false_eq_true, Bool.not_false, Bool.not_true, List.getD_cons_succ, List.getD_cons_zero, List.map_cons, List.map_nil, Nat.add_zero, Nat.zero_add, Option.map_none, Option.map_some, Option.some.injEq, and_true, decide_false, decide_true, true_and, reduceCtorEq, Nat.reduceEqDiff, ↓reduceIte, Int.reduceEq, Int.reduceLT, Int.reduceLE, Nat.reduceAdd]) (by simp only [e4, SX, Opd.ev, resVal, resVals, ARes.val, Bool.false_eq_true, Bool.not_false, Bool.not_true, List.getD_cons_succ, List.getD_cons_zero, List.map_cons, List.map_nil, Nat.add_zero, Nat.zero_add, Option.map_none, Option.map_some, Option.some.injEq, and_true, decide_false, decide_true, true_and, reduceCtorEq, Nat.reduceEqDiff, ↓reduceIte, Int.reduceEq, Int.reduceLT, Int.reduceLE, Nat.reduceAdd]) (by simp only [e5, SX, Opd.ev, resVal, resVals, ARes.val, Bool.false_eq_true, Bool.not_false, Bool.not_true, List.getD_cons_succ, List.getD_cons_zero, List.map_cons, List.map_nil, Nat.add_zero, Nat.zero_add, Option.map_none, Option.map_some, Option.some.injEq, and_true, decide_false, decide_true, true_and, reduceCtorEq, Nat.reduceEqDiff, ↓reduceIte, Int.reduceEq, Int.reduceLT, Int.reduceLE, Nat.reduceAdd]) (by simp only [SX, Opd.ev, resVal, resVals, ARes.val, Bool.false_eq_true, Bool.not_false, Bool.not_true, List.getD_cons_succ, List.getD_cons_zero, List.map_cons, List.map_nil, Nat.add_zero, Nat.zero_add, Option.map_none, Option.map_some, Option.some.injEq, and_true, decide_false, decide_true, true_and, reduceCtorEq, Nat.reduceEqDiff, ↓reduceIte, Int.reduceEq, Int.reduceLT, Int.reduceLE, Nat.reduceAdd]) ?_
              intro e' H6 k6 h6 f1 f2 f4 f5
              simp only [f1, f2, f4, f5, w0, SX, Opd.ev, resVal, resVals, ARes.val, Bool.false_eq_true, Bool.not_false, Bool.not_true, List.getD_cons_succ, List.getD_cons_zero, List.map_cons, List.map_nil, Nat.add_zero, Nat.zero_add, Option.map_none, Option.map_some, Option.some.injEq, and_true, decide_false, decide_true, true_and, reduceCtorEq, Nat.reduceEqDiff, ↓reduceIte, Int.reduceEq, Int.reduceLT, Int.reduceLE, Nat.reduceAdd]
              refine next _ H6 _ 0 (hst 24 hm) (by omega) k6 h6 ?_
              simp only [f1, f2, f4, f5, and_self, SX, Opd.ev, resVal, resVals, ARes.val, Bool.false_eq_true, Bool.not_false, Bool.not_true, List.getD_cons_succ, List.getD_cons_zero, List.map_cons, List.map_nil, Nat.add_zero, Nat.zero_add, Option.map_none, Option.map_some, Option.some.injEq, and_true, decide_false, decide_true, true_and, reduceCtorEq, Nat.reduceEqDiff, ↓reduceIte, Int.reduceEq, Int.reduceLT, Int.reduceLE, Nat.reduceAdd]
            · have dy : decide (y = 0) = false := decide_eq_false cy
              have hm : n = (if n = 4 ∧ offOf (x :: y :: t) = true then 24 else n) := by rw [if_neg (fun hh => by have := hh.2; simp [offOf, cy] at this)]
              simp only [e1, e2, e4, e5, c0', c38', c48', c4', xi, lc, lp, dl, x1, l1, dy, wantV_undef, SX, Opd.ev, resVal, resVals, ARes.val, Bool.false_eq_true, Bool.not_false, Bool.not_true, List.getD_cons_succ, List.getD_cons_zero, List.map_cons, List.map_nil, Nat.add_zero, Nat.zero_add, Option.map_none, Option.map_some, Option.some.injEq, and_true, decide_false, decide_true, true_and, reduceCtorEq, Nat.reduceEqDiff, ↓reduceIte, Int.reduceEq, Int.reduceLT, Int.reduceLE, Nat.reduceAdd]
              refine fin n _ hm (by simp only [e1, SX, Opd.ev, resVal, resVals, ARes.val, Bool.false_eq_true, Bool.not_false, Bool.not_true, List.getD_cons_succ, List.getD_cons_zero, List.map_cons, List.map_nil, Nat.add_zero, Nat.zero_add, Option.map_none, Option.map_some, Option.some.injEq, and_true, decide_false, decide_true, true_and, reduceCtorEq, Nat.reduceEqDiff, ↓reduceIte, Int.reduceEq, Int.reduceLT, Int.reduceLE, Nat.reduceAdd]) (by simp only [e2, SX, Opd.ev, resVal, resVals, ARes.val, Bool.false_eq_true, Bool.not_false, Bool.not_true, List.getD_cons_succ, List.getD_cons_zero, List.map_cons, List.map_nil, Nat.add_zero, Nat.zero_add, Option.map_none, Option.map_some, Option.some.injEq, and_true, decide_false, decide_true, true_and, reduceCtorEq, Nat.reduceEqDiff, ↓reduceIte, Int.reduceEq, Int.reduceLT, Int.reduceLE, Nat.reduceAdd]) (by simp only [e4, SX, Opd.ev, resVal, resVals, ARes.val, Bool.false_eq_true, Bool.not_false, Bool.not_true, List.getD_cons_succ, List.getD_cons_zero, List.map_cons, List.map_nil, Nat.add_zero, Nat.zero_add, Option.map_none, Option.map_some, Option.some.injEq, and_true, decide_false, decide_true, true_and, reduceCtorEq, Nat.reduceEqDiff, ↓reduceIte, Int.reduceEq, Int.reduceLT, Int.reduceLE, Nat.reduceAdd]) (by simp only [e5, SX, Opd.ev, resVal, resVals, ARes.val, Bool.false_eq_true, Bool.not_false, Bool.not_true, List.getD_cons_succ, List.getD_cons_zero, List.map_cons, List.map_nil, Nat.add_zero, Nat.zero_add, Option.map_none, Option.map_some, Option.some.injEq, and_true, decide_false, decide_true, true_and, reduceCtorEq, Nat.reduceEqDiff, ↓reduceIte, Int.reduceEq, Int.reduceLT, Int.reduceLE, Nat.reduceAdd]) (by simp only [SX, Opd.ev, resVal, resVals, ARes.val, Bool.false_eq_true, Bool.not_false, Bool.not_true, List.getD_cons_succ, List.getD_cons_zero, List.map_cons, List.map_nil, Nat.add_zero, Nat.zero_add, Option.map_none, Option.map_some, Option.some.injEq, and_true, decide_false, decide_true, true_and, reduceCtorEq, Nat.reduceEqDiff, ↓reduceIte, Int.reduceEq, Int.reduceLT, Int.reduceLE, Nat.reduceAdd]) ?_
              intro e' H6 k6 h6 f1 f2 f4 f5
              simp only [f1, f2, f4, f5, w0, SX, Opd.ev, resVal, resVals, ARes.val, Bool.false_eq_true, Bool.not_false, Bool.not_true, List.getD_cons_succ, List.getD_cons_zero, List.map_cons, List.map_nil, Nat.add_zero, Nat.zero_add, Option.map_none, Option.map_some, Option.some.injEq, and_true, decide_false, decide_true, true_and, reduceCtorEq, Nat.reduceEqDiff, ↓reduceIte, Int.reduceEq, Int.reduceLT, Int.reduceLE, Nat.reduceAdd]
              refine next _ H6 _ 0 (hst n hm) (by omega) k6 h6 ?_
              simp only [f1, f2, f4, f5, and_self, SX, Opd.ev, resVal, resVals, ARes.val, Bool.false_eq_true, Bool.not_false, Bool.not_true, List.getD_cons_succ, List.getD_cons_zero, List.map_cons, List.map_nil, Nat.add_zero, Nat.zero_add, Option.map_none, Option.map_some, Option.some.injEq, and_true, decide_false, decide_true, true_and, reduceCtorEq, Nat.reduceEqDiff, ↓reduceIte, Int.reduceEq, Int.reduceLT, Int.reduceLE, Nat.reduceAdd]
          · have dl : decide ((1 : Int) < (p.length : Nat)) = false := by simp only [decide_eq_false_iff_not]; omega
            have hm : n = (if n = 4 ∧ offOf p = true then 24 else n) := by rw [if_neg (fun hh => by have := hh.2; simp only [offOf, decide_eq_true_eq] at this; exact cl this.1)]
            simp only [e1, e2, e4, e5, c0', c38', c48', c4', xi, lc, lp, dl, wantV_undef, SX, Opd.ev, resVal, resVals, ARes.val, Bool.false_eq_true, Bool.not_false, Bool.not_true, List.getD_cons_succ, List.getD_cons_zero, List.map_cons, List.map_nil, Nat.add_zero, Nat.zero_add, Option.map_none, Option.map_some, Option.some.injEq, and_true, decide_false, decide_true, true_and, reduceCtorEq, Nat.reduceEqDiff, ↓reduceIte, Int.reduceEq, Int.reduceLT, Int.reduceLE, Nat.reduceAdd]
            refine fin n _ hm (by simp only [e1, SX, Opd.ev, resVal, resVals, ARes.val, Bool.false_eq_true, Bool.not_false, Bool.not_true, List.getD_cons_succ, List.getD_cons_zero, List.map_cons, List.map_nil, Nat.add_zero, Nat.zero_add, Option.map_none, Option.map_some, Option.some.injEq, and_true, decide_false, decide_true, true_and, reduceCtorEq, Nat.reduceEqDiff, ↓reduceIte, Int.reduceEq, Int.reduceLT, Int.reduceLE, Nat.reduceAdd]) (by simp only [e2, SX, Opd.ev, resVal, resVals, ARes.val, Bool.false_eq_true, Bool.not_false, Bool.not_true, List.getD_cons_succ, List.getD_cons_zero, List.map_cons, List.map_nil, Nat.add_zero, Nat.zero_add, Option.map_none, Option.map_some, Option.some.injEq, and_true, decide_false, decide_true, true_and, reduceCtorEq, Nat.reduceEqDiff, ↓reduceIte, Int.reduceEq, Int.reduceLT, Int.reduceLE, Nat.reduceAdd]) (by simp only [e4, SX, Opd.ev, resVal, resVals, ARes.val, Bool.false_eq_true, Bool.not_false, Bool.not_true, List.getD_cons_succ, List.getD_cons_zero, List.map_cons, List.map_nil, Nat.add_zero, Nat.zero_add, Option.map_none, Option.map_some, Option.some.injEq, and_true, decide_false, decide_true, true_and, reduceCtorEq, Nat.reduceEqDiff, ↓reduceIte, Int.reduceEq, Int.reduceLT, Int.reduceLE, Nat.reduceAdd]) (by simp only [e5, SX, Opd.ev, resVal, resVals, ARes.val, Bool.false_eq_true, Bool.not_false, Bool.not_true, List.getD_cons_succ, List.getD_cons_zero, List.map_cons, List.map_nil, Nat.add_zero, Nat.zero_add, Option.map_none, Option.map_some, Option.some.injEq, and_true, decide_false, decide_true, true_and, reduceCtorEq, Nat.reduceEqDiff, ↓reduceIte, Int.reduceEq, Int.reduceLT, Int.reduceLE, Nat.reduceAdd]) (by simp only [SX, Opd.ev, resVal, resVals, ARes.val, Bool.false_eq_true, Bool.not_false, Bool.not_true, List.getD_cons_succ, List.getD_cons_zero, List.map_cons, List.map_nil, Nat.add_zero, Nat.zero_add, Option.map_none, Option.map_some, Option.some.injEq, and_true, decide_false, decide_true, true_and, reduceCtorEq, Nat.reduceEqDiff, ↓reduceIte, Int.reduceEq, Int.reduceLT, Int.reduceLE, Nat.reduceAdd]) ?_
            intro e' H6 k6 h6 f1 f2 f4 f5
            simp only [f1, f2, f4, f5, w0, SX, Opd.ev, resVal, resVals, ARes.val, Bool.false_eq_true, Bool.not_false, Bool.not_true, List.getD_cons_succ, List.getD_cons_zero, List.map_cons, List.map_nil, Nat.add_zero, Nat.zero_add, Option.map_none, Option.map_some, Option.some.injEq, and_true, decide_false, decide_true, true_and, reduceCtorEq, Nat.reduceEqDiff, ↓reduceIte, Int.reduceEq, Int.reduceLT, Int.reduceLE, Nat.reduceAdd]
            refine next _ H6 _ 0 (hst n hm) (by omega) k6 h6 ?_
            simp only [f1, f2, f4, f5, and_self, SX, Opd.ev, resVal, resVals, ARes.val, Bool.false_eq_true, Bool.not_false, Bool.not_true, List.getD_cons_succ, List.getD_cons_zero, List.map_cons, List.map_nil, Nat.add_zero, Nat.zero_add, Option.map_none, Option.map_some, Option.some.injEq, and_true, decide_false, decide_true, true_and, reduceCtorEq, Nat.reduceEqDiff, ↓reduceIte, Int.reduceEq, Int.reduceLT, Int.reduceLE, Nat.reduceAdd]
        · have c4' : decide (n = 4) = false := decide_eq_false c4
          have hm : n = (if n = 4 ∧ offOf p = true then 24 else n) := by rw [if_neg (fun hh => c4 hh.1)]
          simp only [e1, e2, e4, e5, c0', c38', c48', c4', wantV_undef, SX, Opd.ev, resVal, resVals, ARes.val, Bool.false_eq_true, Bool.not_false, Bool.not_true, List.getD_cons_succ, List.getD_cons_zero, List.map_cons, List.map_nil, Nat.add_zero, Nat.zero_add, Option.map_none, Option.map_some, Option.some.injEq, and_true, decide_false, decide_true, true_and, reduceCtorEq, Nat.reduceEqDiff, ↓reduceIte, Int.reduceEq, Int.reduceLT, Int.reduceLE, Nat.reduceAdd]
          refine fin n _ hm (by simp only [e1, SX, Opd.ev, resVal, resVals, ARes.val, Bool.false_eq_true, Bool.not_false, Bool.not_true, List.getD_cons_succ, List.getD_cons_zero, List.map_cons, List.map_nil, Nat.add_zero, Nat.zero_add, Option.map_none, Option.map_some, Option.some.injEq, and_true, decide_false, decide_true, true_and, reduceCtorEq, Nat.reduceEqDiff, ↓reduceIte, Int.reduceEq, Int.reduceLT, Int.reduceLE, Nat.reduceAdd]) (by simp only [e2, SX, Opd.ev, resVal, resVals, ARes.val, Bool.false_eq_true, Bool.not_false, Bool.not_true, List.getD_cons_succ, List.getD_cons_zero, List.map_cons, List.map_nil, Nat.add_zero, Nat.zero_add, Option.map_none, Option.map_some, Option.some.injEq, and_true, decide_false, decide_true, true_and, reduceCtorEq, Nat.reduceEqDiff, ↓reduceIte, Int.reduceEq, Int.reduceLT, Int.reduceLE, Nat.reduceAdd]) (by simp only [e4, SX, Opd.ev, resVal, resVals, ARes.val, Bool.false_eq_true, Bool.not_false, Bool.not_true, List.getD_cons_succ, List.getD_cons_zero, List.map_cons, List.map_nil, Nat.add_zero, Nat.zero_add, Option.map_none, Option.map_some, Option.some.injEq, and_true, decide_false, decide_true, true_and, reduceCtorEq, Nat.reduceEqDiff, ↓reduceIte, Int.reduceEq, Int.reduceLT, Int.reduceLE, Nat.reduceAdd]) (by simp only [e5, SX, Opd.ev, resVal, resVals, ARes.val, Bool.false_eq_true, Bool.not_false, Bool.not_true, List.getD_cons_succ, List.getD_cons_zero, List.map_cons, List.map_nil, Nat.add_zero, Nat.zero_add, Option.map_none, Option.map_some, Option.some.injEq, and_true, decide_false, decide_true, true_and, reduceCtorEq, Nat.reduceEqDiff, ↓reduceIte, Int.reduceEq, Int.reduceLT, Int.reduceLE, Nat.reduceAdd]) (by simp only [SX, Opd.ev, resVal, resVals, ARes.val, Bool.false_eq_true, Bool.not_false, Bool.not_true, List.getD_cons_succ, List.getD_cons_zero, List.map_cons, List.map_nil, Nat.add_zero, Nat.zero_add, Option.map_none, Option.map_some, Option.some.injEq, and_true, decide_false, decide_true, true_and, reduceCtorEq, Nat.reduceEqDiff, ↓reduceIte, Int.reduceEq, Int.reduceLT, Int.reduceLE, Nat.reduceAdd]) ?_
          intro e' H6 k6 h6 f1 f2 f4 f5
          simp only [f1, f2, f4, f5, w0, SX, Opd.ev, resVal, resVals, ARes.val, Bool.false_eq_true, Bool.not_false, Bool.not_true, List.getD_cons_succ, List.getD_cons_zero, List.map_cons, List.map_nil, Nat.add_zero, Nat.zero_add, Option.map_none, Option.map_some, Option.some.injEq, and_true, decide_false, decide_true, true_and, reduceCtorEq, Nat.reduceEqDiff, ↓reduceIte, Int.reduceEq, Int.reduceLT, Int.reduceLE, Nat.reduceAdd]
          refine next _ H6 _ 0 (hst n hm) (by omega) k6 h6 ?_
          simp only [f1, f2, f4, f5, and_self, SX, Opd.ev, resVal, resVals, ARes.val, Bool.false_eq_true, Bool.not_false, Bool.not_true, List.getD_cons_succ, List.getD_cons_zero, List.map_cons, List.map_nil, Nat.add_zero, Nat.zero_add, Option.map_none, Option.map_some, Option.some.injEq, and_true, decide_false, decide_true, true_and, reduceCtorEq, Nat.reduceEqDiff, ↓reduceIte, Int.reduceEq, Int.reduceLT, Int.reduceLE, Nat.reduceAdd]
    · have hil : i = L.length := by omega
      rw [hil, List.drop_length, applyRF_nil] at hap
      have ld : loadV H4 (some 5) (.ptr H.next 0) = some a'.val := h4.loadN (List.mem_cons_self ..) rfl
      have h4' : Hp H.next H4 (⟨H1.next, 5, At.zero.cs⟩ :: ⟨H.next, 5, a'.cs⟩ :: []) := h4.perm (List.Perm.swap _ _ _)
      obtain ⟨H5, s5, h5, k5, n5⟩ := h4'.storeN (n := 5) (new := a'.cs) rfl rfl rfl
      have s5 : storeE H4 5 (.ptr H1.next 0) a'.val = some (.undef, H5) := s5
      have l5 : loadV H5 (some 5) (.ptr H1.next 0) = some a'.val := h5.loadN (List.mem_cons_self ..) rfl
      simp only [e1, e2, e4, e5, lv4, d, ld, s5, l5, resVal, resVals, ARes.val, SX, Opd.ev, resVal, resVals, ARes.val, Bool.false_eq_true, Bool.not_false, Bool.not_true, List.getD_cons_succ, List.getD_cons_zero, List.map_cons, List.map_nil, Nat.add_zero, Nat.zero_add, Option.map_none, Option.map_some, Option.some.injEq, and_true, decide_false, decide_true, true_and, reduceCtorEq, Nat.reduceEqDiff, ↓reduceIte, Int.reduceEq, Int.reduceLT, Int.reduceLE, Nat.reduceAdd]
      rw [hres, ← hap]
      exact ⟨rfl, h5.gr (k4.trans k5)⟩
end
theorem wrapU16 {x : Int} (h0 : 0 ≤ x) (h1 : x < 65536) : IntKind.wrap .u16 x = x := by
  have hb : (2 ^ IntKind.u16.bits : Int) = 65536 := rfl
  have hs : IntKind.u16.signed = false := rfl
  simp only [IntKind.wrap, hb, hs]
  simp
  omega
theorem orU_eq (a b : Int) : orU a b = ((BitVec.ofInt 16 a ||| BitVec.ofInt 16 b).toNat : Int) := wrapU16 (by omega) (by have := (BitVec.ofInt 16 a ||| BitVec.ofInt 16 b).isLt; omega)
theorem notU_eq (a b : Int) : notU a b = ((BitVec.ofInt 16 a &&& ~~~BitVec.ofInt 16 b).toNat : Int) := wrapU16 (by omega) (by have := (BitVec.ofInt 16 a &&& ~~~BitVec.ofInt 16 b).isLt; omega)
def FlOk (fl : Int) : Prop := 0 ≤ fl ∧ fl < 65536
theorem orU_ok (a b : Int) : FlOk (orU a b) := by rw [orU_eq]; exact ⟨by omega, by have := (BitVec.ofInt 16 a ||| BitVec.ofInt 16 b).isLt; omega⟩
theorem notU_ok (a b : Int) : FlOk (notU a b) := by rw [notU_eq]; exact ⟨by omega, by have := (BitVec.ofInt 16 a &&& ~~~BitVec.ofInt 16 b).isLt; omega⟩
theorem of_id {a : Int} (h : FlOk a) : ((BitVec.ofInt 16 a).toNat : Int) = a := by
  obtain ⟨h0, h1⟩ := h
  rw [BitVec.toNat_ofInt]
  omega
theorem of_nat (y : BitVec 16) : BitVec.ofInt 16 ((y.toNat : Nat) : Int) = y := by
  apply BitVec.eq_of_toNat_eq
  rw [BitVec.toNat_ofInt]
  have := y.isLt
  omega
theorem or0 {fl : Int} (h : FlOk fl) : orU fl 0 = fl := by
  rw [orU_eq]
  have : BitVec.ofInt 16 0 = 0#16 := rfl
  rw [this, BitVec.or_zero, of_id h]
theorem not0 {fl : Int} (h : FlOk fl) : notU fl 0 = fl := by
  rw [notU_eq]
  have : ~~~(BitVec.ofInt 16 0) = BitVec.allOnes 16 := rfl
  rw [this, BitVec.and_allOnes, of_id h]
theorem not21 (fl : Int) : notU (notU fl 2) 1 = notU (notU fl 1) 2 := by
  rw [notU_eq fl 2, notU_eq fl 1, notU_eq, notU_eq, of_nat, of_nat, BitVec.and_assoc, BitVec.and_assoc, BitVec.and_comm (~~~BitVec.ofInt 16 2)]
theorem p0 : pow2 0 = 1 := rfl
theorem p1 : pow2 1 = 2 := rfl
theorem p2 : pow2 2 = 4 := rfl
theorem p3 : pow2 3 = 8 := rfl
theorem p4 : pow2 4 = 16 := rfl
theorem p5 : pow2 5 = 32 := rfl
theorem p6 : pow2 6 = 64 := rfl
theorem p7 : pow2 7 = 128 := rfl
theorem flagP_other {fl n : Int} {off : Bool} (h : ¬ (n = 1 ∨ n = 2 ∨ n = 3 ∨ n = 4 ∨ n = 5 ∨ n = 7 ∨ n = 8 ∨ n = 9)) (h2 : ¬ (n = 22 ∨ n = 23 ∨ n = 24 ∨ n = 25 ∨ n = 27 ∨ n = 28 ∨ n = 29)) : flagP fl n off = (fl, false) := by
  unfold flagP zflags
  simp only [flagL]
  rw [if_neg (by rintro (⟨h, _⟩ | ⟨h, _⟩) <;> omega), if_neg (by omega), if_neg (by rintro (⟨h, _⟩ | ⟨h, _⟩) <;> omega), if_neg (by omega), if_neg (by rintro (⟨h, _⟩ | ⟨h, _⟩) <;> omega), if_neg (by omega), if_neg (by rintro (⟨h, _⟩ | ⟨h, _⟩) <;> omega), if_neg (by omega), if_neg (by rintro (⟨h, _⟩ | ⟨h, _⟩) <;> omega), if_neg (by omega), if_neg (by rintro (⟨h, _⟩ | ⟨h, _⟩) <;> omega), if_neg (by omega), if_neg (by rintro (⟨h, _⟩ | ⟨h, _⟩) <;> omega), if_neg (by omega), if_neg (by rintro (⟨h, _⟩ | ⟨h, _⟩) <;> omega), if_neg (by omega)]
theorem bit_other {n : Int} (h : ¬ (n = 1 ∨ n = 2 ∨ n = 3 ∨ n = 4 ∨ n = 5 ∨ n = 7 ∨ n = 8 ∨ n = 9)) : bitP n = 0 := by
  unfold bitP
  rw [if_neg (by omega), if_neg (by omega), if_neg (by omega), if_neg (by omega), if_neg (by omega), if_neg (by omega), if_neg (by omega), if_neg (by omega)]
def mOf (n : Int) (off : Bool) : Int := if n = 4 ∧ off = true then 24 else n
set_option maxRecDepth 10000 in
theorem flag_core {fl n : Int} {off : Bool} (h : FlOk fl) : (flagP fl n off = (flR fl (mOf n off), true) ∧ shortP (mOf n off) = none ∧ shortP (IntKind.wrap .i64 (mOf n off - 10)) = none) ∨ (flagP fl n off = (flR fl (mOf n off), false) ∧ mOf n off = n) := by
  by_cases c : n = 1 ∨ n = 2 ∨ n = 3 ∨ n = 4 ∨ n = 5 ∨ n = 7 ∨ n = 8 ∨ n = 9
  · refine .inl ?_
    rcases c with rfl | rfl | rfl | rfl | rfl | rfl | rfl | rfl
    case inr.inr.inr.inl =>
      cases off with
      | true =>
        have hm : mOf 4 true = 24 := rfl
        rw [hm]
        refine ⟨?_, rfl, rfl⟩
        have hb : bitP 24 = 0 := rfl
        have : flR fl 24 = notU fl 8 := by unfold flR fl2; rw [if_pos (by omega), if_neg (by omega), hb, or0 h]; rfl
        rw [this]
        simp [flagP, zflags, flagL, fin22, p3]
      | false =>
        have hm : mOf 4 false = 4 := rfl
        rw [hm]
        refine ⟨?_, rfl, rfl⟩
        simp [flagP, zflags, flagL, fin22, flR, fl2, bitP, p3]
    all_goals
      refine ⟨?_, rfl, rfl⟩
      simp [flagP, zflags, flagL, fin22, mOf, flR, fl2, bitP, p0, p1, p2, p3, p4, p5, p6, p7]
  · have c4 : n ≠ 4 := by omega
    have hm : mOf n off = n := by unfold mOf; rw [if_neg (fun hh => c4 hh.1)]
    have hb := bit_other c
    rw [hm]
    by_cases c2 : n = 22 ∨ n = 23 ∨ n = 24 ∨ n = 25 ∨ n = 27 ∨ n = 28 ∨ n = 29
    · refine .inl ⟨?_, ?_, ?_⟩
      · have hR : flR fl n = notU (if n = 22 then notU fl 1 else fl) (bitP (n - 20)) := by
          unfold flR fl2; rw [if_pos (by omega), hb, or0 h]
        rw [hR]
        rcases c2 with rfl | rfl | rfl | rfl | rfl | rfl | rfl
        · simp [flagP, zflags, flagL, fin22, bitP, p1, not21]
        all_goals simp [flagP, zflags, flagL, fin22, bitP, p0, p1, p2, p3, p4, p5, p6, p7]
      · rcases c2 with rfl | rfl | rfl | rfl | rfl | rfl | rfl <;> rfl
      · rcases c2 with rfl | rfl | rfl | rfl | rfl | rfl | rfl <;> rfl
    · refine .inr ⟨?_, rfl⟩
      rw [flagP_other c c2]
      have : flR fl n = fl := by
        unfold flR fl2
        rw [hb, or0 h, if_neg (show ¬ n = 22 by omega)]
        split
        · rw [bit_other (by omega), not0 h]
        · rfl
      rw [this]
theorem step_eq {a : At} (h : FlOk a.fl) (p : List Int) (rest : List (List Int)) : stepR a p rest = stepA a p rest := by
  unfold stepR stepA longStep
  by_cases c1 : fst0 p = 38 ∨ fst0 p = 48
  · rw [if_pos c1, if_neg (show ¬ fst0 p = 0 by omega), if_pos c1]
  rw [if_neg c1]
  by_cases c0 : fst0 p = 0
  · rw [if_pos c0, if_pos c0, if_neg (by omega), c0]; rfl
  rw [if_neg c0, if_neg c0, if_neg c1]
  have hm : (if fst0 p = 4 ∧ offOf p = true then 24 else fst0 p) = mOf (fst0 p) (offOf p) := rfl
  rw [hm]
  rcases flag_core (n := fst0 p) (off := offOf p) h with ⟨h1, h2, h3⟩ | ⟨h1, h2⟩
  · rw [h1, if_pos rfl]
    unfold restA
    rw [shortA_none h2, shortB_none h3]
  · rw [h1, if_neg (by simp)]
    unfold restA
    rw [h2]
theorem flagL_ok {fl n : Int} {off : Bool} (h : FlOk fl) : ∀ (zs : List Int) (i : Nat), FlOk (flagL fl n off zs i).1
  | [], _ => h
  | k :: zs, i => by
    have f22 : ∀ x : Int, FlOk x → FlOk (fin22 n x) := fun x hx => by
      unfold fin22; split
      · exact notU_ok _ _
      · exact hx
    unfold flagL
    split
    · exact f22 _ (notU_ok _ _)
    · split
      · exact f22 _ (orU_ok _ _)
      · exact flagL_ok h zs (i + 1)
theorem stepA_ok {a : At} (h : FlOk a.fl) (p : List Int) (rest : List (List Int)) : FlOk (stepA a p rest).1.fl := by
  unfold stepA
  have hf := flagL_ok (n := fst0 p) (off := offOf p) h zflags 0
  repeat' split
  all_goals first | exact h | exact hf | exact ⟨by decide, by decide⟩
theorem applyRF_eq : ∀ (f : Nat) {a : At} (h : FlOk a.fl) (L : List (List Int)), applyRF f a L = applyF f a L
  | 0, a, _, _ => rfl
  | f + 1, a, h, [] => rfl
  | f + 1, a, h, p :: rest => by
    unfold applyRF applyF
    rw [step_eq h]
    exact applyRF_eq f (stepA_ok h p rest) _
theorem applyRP_eq {a : At} (h : FlOk a.fl) (L : List (List Int)) : applyRP a L = applyP a L := by
  unfold applyRP applyP
  rw [applyRF_eq _ h]
theorem seq_at (a : At) : seqV [1, 1, 1, 1, 1] false a.val a.val = some (.bool true) := by
  simp [seqV, ROp.run, Opd.ev, At.val, At.cs, cellsEq]
theorem seq_atN (a : At) : seqV [1, 1, 1, 1, 1] true a.val a.val = some (.bool false) := by
  simp [seqV, ROp.run, Opd.ev, At.val, At.cs, cellsEq]
theorem same_at (a : At) : AV.same a.val a.val = true := by
  simp [AV.same, AV.sameL, AV.same1, At.val, At.cs]
section
variable {Q : Prog} (aq : AtQ Q) {H : AHeap}
include aq
theorem right_spec (a : At) (hf : Fr H) : FnTo Q 18 [a.val] H (fun r H' => r = .bool (rightP a) ∧ Gr H H') := by
  refine fn_wp (aq.ho 18 rfl _) aq.q18 (by simp [A18]) ?_
  obtain ⟨H1, s1, h1, k1⟩ := (Hp.nil H hf).make a.cs 5
  have l0 := h1.load (List.mem_cons_self ..) (o := 0) (v := .int .u16 a.fl) rfl
  have g1 := h1.gr k1
  have l1 : ∀ {H'}, Gr H1 H' → loadV H' (some 2) (.ptr H.next 1) = some (.agg [.int .u8 a.fk, .int .u32 a.fn]) := fun {H'} g => (h1.keep g.keep g.next g.fr).loadO (a := [.int .u16 a.fl]) (x := [.int .u8 a.fk, .int .u32 a.fn]) (c := [.int .u8 a.bk, .int .u32 a.bn]) (k := 5) (List.mem_cons_self ..) rfl rfl
  have l3 : ∀ {H'}, Gr H1 H' → loadV H' (some 2) (.ptr H.next 3) = some (.agg [.int .u8 a.bk, .int .u32 a.bn]) := fun {H'} g => (h1.keep g.keep g.next g.fr).loadO (a := [.int .u16 a.fl, .int .u8 a.fk, .int .u32 a.fn]) (x := [.int .u8 a.bk, .int .u32 a.bn]) (c := []) (k := 5) (List.mem_cons_self ..) rfl rfl
  by_cases c0 : a.fl ≤ 255
  · have d0 : decide (a.fl ≤ 255) = true := decide_eq_true c0
    simp only [A18, box_at, run_box, run_allocL, s1, l0, d0, l1 (Gr.refl g1.fr), wantV_undef, SX, Opd.ev, resVal, resVals, ARes.val, Bool.false_eq_true, Bool.not_false, Bool.not_true, List.getD_cons_succ, List.getD_cons_zero, List.map_cons, List.map_nil, Nat.add_zero, Nat.zero_add, Option.map_none, Option.map_some, Option.some.injEq, and_true, decide_false, decide_true, true_and, reduceCtorEq, Nat.reduceEqDiff, ↓reduceIte, Int.reduceEq, Int.reduceLT, Int.reduceLE, Nat.reduceAdd]
    refine (color_spec aq _ _ g1.fr).mono ?_
    rintro _ H2 ⟨rfl, g2⟩
    cases hc : colorP a.fk a.fn with
    | true =>
      simp only [l3 g2, wantV_undef, SX, Opd.ev, resVal, resVals, ARes.val, Bool.false_eq_true, Bool.not_false, Bool.not_true, List.getD_cons_succ, List.getD_cons_zero, List.map_cons, List.map_nil, Nat.add_zero, Nat.zero_add, Option.map_none, Option.map_some, Option.some.injEq, and_true, decide_false, decide_true, true_and, reduceCtorEq, Nat.reduceEqDiff, ↓reduceIte, Int.reduceEq, Int.reduceLT, Int.reduceLE, Nat.reduceAdd]
      refine (color_spec aq _ _ g2.fr).mono ?_
      rintro _ H3 ⟨rfl, g3⟩
      simp only [wantV_undef, resVal, resVals, ARes.val, SX, Opd.ev, resVal, resVals, ARes.val, Bool.false_eq_true, Bool.not_false, Bool.not_true, List.getD_cons_succ, List.getD_cons_zero, List.map_cons, List.map_nil, Nat.add_zero, Nat.zero_add, Option.map_none, Option.map_some, Option.some.injEq, and_true, decide_false, decide_true, true_and, reduceCtorEq, Nat.reduceEqDiff, ↓reduceIte, Int.reduceEq, Int.reduceLT, Int.reduceLE, Nat.reduceAdd]
      exact ⟨by simp [rightP, c0, hc], (g1.trans g2).trans g3⟩
    | false =>
      simp only [wantV_undef, resVal, resVals, ARes.val, SX, Opd.ev, resVal, resVals, ARes.val, Bool.false_eq_true, Bool.not_false, Bool.not_true, List.getD_cons_succ, List.getD_cons_zero, List.map_cons, List.map_nil, Nat.add_zero, Nat.zero_add, Option.map_none, Option.map_some, Option.some.injEq, and_true, decide_false, decide_true, true_and, reduceCtorEq, Nat.reduceEqDiff, ↓reduceIte, Int.reduceEq, Int.reduceLT, Int.reduceLE, Nat.reduceAdd]
      exact ⟨by simp [rightP, hc], g1.trans g2⟩
  · have d0 : decide (a.fl ≤ 255) = false := decide_eq_false c0
    simp only [A18, box_at, run_box, run_allocL, s1, l0, d0, wantV_undef, resVal, resVals, ARes.val, SX, Opd.ev, resVal, resVals, ARes.val, Bool.false_eq_true, Bool.not_false, Bool.not_true, List.getD_cons_succ, List.getD_cons_zero, List.map_cons, List.map_nil, Nat.add_zero, Nat.zero_add, Option.map_none, Option.map_some, Option.some.injEq, and_true, decide_false, decide_true, true_and, reduceCtorEq, Nat.reduceEqDiff, ↓reduceIte, Int.reduceEq, Int.reduceLT, Int.reduceLE, Nat.reduceAdd]
    exact ⟨by simp [rightP, c0], g1⟩
theorem rightR_spec (a : At) (hf : Fr H) : FnTo Q 21 [a.val] H (fun r H' => r = .bool (rightP a) ∧ Gr H H') := by
  refine fn_wp (aq.ho 21 rfl _) aq.q21 (by simp [A21]) ?_
  obtain ⟨H1, s1, h1, k1⟩ := (Hp.nil H hf).make a.cs 5
  have l0 := h1.load (List.mem_cons_self ..) (o := 0) (v := .int .u16 a.fl) rfl
  have g1 := h1.gr k1
  have l1 : ∀ {H'}, Gr H1 H' → loadV H' (some 2) (.ptr H.next 1) = some (.agg [.int .u8 a.fk, .int .u32 a.fn]) := fun {H'} g => (h1.keep g.keep g.next g.fr).loadO (a := [.int .u16 a.fl]) (x := [.int .u8 a.fk, .int .u32 a.fn]) (c := [.int .u8 a.bk, .int .u32 a.bn]) (k := 5) (List.mem_cons_self ..) rfl rfl
  have l3 : ∀ {H'}, Gr H1 H' → loadV H' (some 2) (.ptr H.next 3) = some (.agg [.int .u8 a.bk, .int .u32 a.bn]) := fun {H'} g => (h1.keep g.keep g.next g.fr).loadO (a := [.int .u16 a.fl, .int .u8 a.fk, .int .u32 a.fn]) (x := [.int .u8 a.bk, .int .u32 a.bn]) (c := []) (k := 5) (List.mem_cons_self ..) rfl rfl
  by_cases c0 : a.fl ≤ 255
  · have d0 : decide (a.fl ≤ 255) = true := decide_eq_true c0
    simp only [A21, box_at, run_box, run_allocL, s1, l0, d0, l1 (Gr.refl g1.fr), wantV_undef, SX, Opd.ev, resVal, resVals, ARes.val, Bool.false_eq_true, Bool.not_false, Bool.not_true, List.getD_cons_succ, List.getD_cons_zero, List.map_cons, List.map_nil, Nat.add_zero, Nat.zero_add, Option.map_none, Option.map_some, Option.some.injEq, and_true, decide_false, decide_true, true_and, reduceCtorEq, Nat.reduceEqDiff, ↓reduceIte, Int.reduceEq, Int.reduceLT, Int.reduceLE, Nat.reduceAdd]
    refine (colorR_spec aq _ _ g1.fr).mono ?_
    rintro _ H2 ⟨rfl, g2⟩
    cases hc : colorP a.fk a.fn with
    | true =>
      simp only [l3 g2, wantV_undef, SX, Opd.ev, resVal, resVals, ARes.val, Bool.false_eq_true, Bool.not_false, Bool.not_true, List.getD_cons_succ, List.getD_cons_zero, List.map_cons, List.map_nil, Nat.add_zero, Nat.zero_add, Option.map_none, Option.map_some, Option.some.injEq, and_true, decide_false, decide_true, true_and, reduceCtorEq, Nat.reduceEqDiff, ↓reduceIte, Int.reduceEq, Int.reduceLT, Int.reduceLE, Nat.reduceAdd]
      refine (colorR_spec aq _ _ g2.fr).mono ?_
      rintro _ H3 ⟨rfl, g3⟩
      simp only [wantV_undef, resVal, resVals, ARes.val, SX, Opd.ev, resVal, resVals, ARes.val, Bool.false_eq_true, Bool.not_false, Bool.not_true, List.getD_cons_succ, List.getD_cons_zero, List.map_cons, List.map_nil, Nat.add_zero, Nat.zero_add, Option.map_none, Option.map_some, Option.some.injEq, and_true, decide_false, decide_true, true_and, reduceCtorEq, Nat.reduceEqDiff, ↓reduceIte, Int.reduceEq, Int.reduceLT, Int.reduceLE, Nat.reduceAdd]
      exact ⟨by simp [rightP, c0, hc], (g1.trans g2).trans g3⟩
    | false =>
      simp only [wantV_undef, resVal, resVals, ARes.val, SX, Opd.ev, resVal, resVals, ARes.val, Bool.false_eq_true, Bool.not_false, Bool.not_true, List.getD_cons_succ, List.getD_cons_zero, List.map_cons, List.map_nil, Nat.add_zero, Nat.zero_add, Option.map_none, Option.map_some, Option.some.injEq, and_true, decide_false, decide_true, true_and, reduceCtorEq, Nat.reduceEqDiff, ↓reduceIte, Int.reduceEq, Int.reduceLT, Int.reduceLE, Nat.reduceAdd]
      exact ⟨by simp [rightP, hc], g1.trans g2⟩
  · have d0 : decide (a.fl ≤ 255) = false := decide_eq_false c0
    simp only [A21, box_at, run_box, run_allocL, s1, l0, d0, wantV_undef, resVal, resVals, ARes.val, SX, Opd.ev, resVal, resVals, ARes.val, Bool.false_eq_true, Bool.not_false, Bool.not_true, List.getD_cons_succ, List.getD_cons_zero, List.map_cons, List.map_nil, Nat.add_zero, Nat.zero_add, Option.map_none, Option.map_some, Option.some.injEq, and_true, decide_false, decide_true, true_and, reduceCtorEq, Nat.reduceEqDiff, ↓reduceIte, Int.reduceEq, Int.reduceLT, Int.reduceLE, Nat.reduceAdd]
    exact ⟨by simp [rightP, c0], g1⟩
theorem great_spec {v : AV} {L : List (List Int)} (hv : IsL H v L) : FnTo Q 19 [v] H (fun r H' => H' = H ∧ (r = .bool true ∨ (r = .bool false ∧ L.length ≤ 60 ∧ ∀ p ∈ L, p.length ≤ 20))) := by
  refine fn_wp (aq.ho 19 rfl _) aq.q19 (by simp [A19]) ?_
  have lv := hv.len
  simp only [A19, SX, Opd.ev, resVal, resVals, ARes.val, Bool.false_eq_true, Bool.not_false, Bool.not_true, List.getD_cons_succ, List.getD_cons_zero, List.map_cons, List.map_nil, Nat.add_zero, Nat.zero_add, Option.map_none, Option.map_some, Option.some.injEq, and_true, decide_false, decide_true, true_and, reduceCtorEq, Nat.reduceEqDiff, ↓reduceIte, Int.reduceEq, Int.reduceLT, Int.reduceLE, Nat.reduceAdd]
  obtain ⟨I, hI⟩ : ∃ I : Nat → Env → AHeap → Prop, ∀ m e H', I m e H' ↔ (H' = H ∧ ∃ i : Nat, m = 61 - i ∧ i ≤ 61 ∧ i ≤ L.length ∧ (∀ (j : Nat) p, L[j]? = some p → j < i → p.length ≤ 20) ∧ Env.get e 0 = v ∧ Env.get e 3 = .int .i64 i) := ⟨_, fun _ _ _ => Iff.rfl⟩
  refine loop_by I 61 ?_ ?_
  · refine (hI _ _ _).2 ⟨rfl, 0, rfl, by omega, by omega, fun j p _ h => by omega, ?_⟩
    simp only [SX, Opd.ev, resVal, resVals, ARes.val, Bool.false_eq_true, Bool.not_false, Bool.not_true, List.getD_cons_succ, List.getD_cons_zero, List.map_cons, List.map_nil, Nat.add_zero, Nat.zero_add, Option.map_none, Option.map_some, Option.some.injEq, and_true, decide_false, decide_true, true_and, reduceCtorEq, Nat.reduceEqDiff, ↓reduceIte, Int.reduceEq, Int.reduceLT, Int.reduceLE, Nat.reduceAdd]; rfl
  · intro m e H' hinv
    obtain ⟨rfl, i, rfl, hi, hil, hall, e0, e3⟩ := (hI _ _ _).1 hinv
    have stop : ¬ ((i : Int) < L.length ∧ (i : Int) ≤ 60) → (AV.bool (decide ((60 : Int) < L.length)) = .bool true ∨ (AV.bool (decide ((60 : Int) < L.length)) = .bool false ∧ L.length ≤ 60 ∧ ∀ p ∈ L, p.length ≤ 20)) := by
      intro hn
      by_cases h60 : (60 : Int) < L.length
      · exact .inl (by rw [decide_eq_true h60])
      · refine .inr ⟨by rw [decide_eq_false h60], by omega, fun p hp => ?_⟩
        obtain ⟨j, hj⟩ := List.mem_iff_getElem?.1 hp
        exact hall j p hj (by have := (List.getElem?_eq_some_iff.1 hj).1; omega)
    by_cases d1 : (i : Int) < L.length
    · have d1' : decide ((i : Int) < L.length) = true := decide_eq_true d1
      by_cases d2 : (i : Int) ≤ 60
      · have d2' : decide ((i : Int) ≤ 60) = true := decide_eq_true d2
        obtain ⟨p, hpi⟩ : ∃ p, L[i]? = some p := ⟨_, List.getElem?_eq_getElem (by omega)⟩
        have xi := hv.at (i := (i : Int)) (by omega) d1 .i64
        obtain ⟨c, lc, hc⟩ := hv.get (i := (i : Int)) (a := p) (by simpa using hpi)
        have lp := IsS.len hc
        have w1 : IntKind.wrap .i64 ((i : Int) + 1) = ((i + 1 : Nat) : Int) := by rw [wrapI64 (by omega) (by omega)]; rfl
        by_cases d3 : (20 : Int) < p.length
        · have d3' : decide ((20 : Int) < p.length) = true := decide_eq_true d3
          simp only [e0, e3, lv, d1', d2', xi, lc, lp, d3', wantV_undef, resVal, resVals, ARes.val, SX, Opd.ev, resVal, resVals, ARes.val, Bool.false_eq_true, Bool.not_false, Bool.not_true, List.getD_cons_succ, List.getD_cons_zero, List.map_cons, List.map_nil, Nat.add_zero, Nat.zero_add, Option.map_none, Option.map_some, Option.some.injEq, and_true, decide_false, decide_true, true_and, reduceCtorEq, Nat.reduceEqDiff, ↓reduceIte, Int.reduceEq, Int.reduceLT, Int.reduceLE, Nat.reduceAdd]
          exact .inl trivial
        · have d3' : decide ((20 : Int) < p.length) = false := decide_eq_false d3
          simp only [e0, e3, lv, d1', d2', xi, lc, lp, d3', w1, wantV_undef, SX, Opd.ev, resVal, resVals, ARes.val, Bool.false_eq_true, Bool.not_false, Bool.not_true, List.getD_cons_succ, List.getD_cons_zero, List.map_cons, List.map_nil, Nat.add_zero, Nat.zero_add, Option.map_none, Option.map_some, Option.some.injEq, and_true, decide_false, decide_true, true_and, reduceCtorEq, Nat.reduceEqDiff, ↓reduceIte, Int.reduceEq, Int.reduceLT, Int.reduceLE, Nat.reduceAdd]
          refine ⟨61 - (i + 1), by omega, (hI _ _ _).2 ⟨rfl, i + 1, rfl, by omega, by omega, fun j q hq hj => ?_, ?_⟩⟩
          · by_cases hji : j < i
            · exact hall j q hq hji
            · obtain rfl : j = i := by omega
              obtain rfl := Option.some.inj (hq.symm.trans hpi)
              omega
          · simp only [e0, e3, and_self, SX, Opd.ev, resVal, resVals, ARes.val, Bool.false_eq_true, Bool.not_false, Bool.not_true, List.getD_cons_succ, List.getD_cons_zero, List.map_cons, List.map_nil, Nat.add_zero, Nat.zero_add, Option.map_none, Option.map_some, Option.some.injEq, and_true, decide_false, decide_true, true_and, reduceCtorEq, Nat.reduceEqDiff, ↓reduceIte, Int.reduceEq, Int.reduceLT, Int.reduceLE, Nat.reduceAdd]
      · have d2' : decide ((i : Int) ≤ 60) = false := decide_eq_false d2
        have st := stop (fun hh => d2 hh.2)
        simp only [e0, e3, lv, d1', d2', wantV_undef, resVal, resVals, ARes.val, SX, Opd.ev, resVal, resVals, ARes.val, Bool.false_eq_true, Bool.not_false, Bool.not_true, List.getD_cons_succ, List.getD_cons_zero, List.map_cons, List.map_nil, Nat.add_zero, Nat.zero_add, Option.map_none, Option.map_some, Option.some.injEq, and_true, decide_false, decide_true, true_and, reduceCtorEq, Nat.reduceEqDiff, ↓reduceIte, Int.reduceEq, Int.reduceLT, Int.reduceLE, Nat.reduceAdd]
        exact st
    · have d1' : decide ((i : Int) < L.length) = false := decide_eq_false d1
      have st := stop (fun hh => d1 hh.1)
      simp only [e0, e3, lv, d1', wantV_undef, resVal, resVals, ARes.val, SX, Opd.ev, resVal, resVals, ARes.val, Bool.false_eq_true, Bool.not_false, Bool.not_true, List.getD_cons_succ, List.getD_cons_zero, List.map_cons, List.map_nil, Nat.add_zero, Nat.zero_add, Option.map_none, Option.map_some, Option.some.injEq, and_true, decide_false, decide_true, true_and, reduceCtorEq, Nat.reduceEqDiff, ↓reduceIte, Int.reduceEq, Int.reduceLT, Int.reduceLE, Nat.reduceAdd]
      exact st
end
end Go.Proofs.YtcfjjeipdacbcaaDoor.AM
