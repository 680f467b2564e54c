/-
  strings.Join as an answer that looks at memory; numerals; how a color is said; what leads from one attribute to another: the program's functions and the document's, walked on the abstract machine. The two say the same bytes.
-/
import Derived.Test.YtcfjjeipdacbcaaDoorAtAll
import Derived.Test.YtcfjjeipdacbcaaDoorShelf
import Derived.Lib.ItoaNum
set_option linter.unusedVariables false
set_option linter.unusedSimpArgs false
namespace Go.Proofs.YtcfjjeipdacbcaaDoor.AM
open Go
section
open Go.RowKit
def strsOf : List AV → Option (List (List UInt8))
  | [] => some []
  | .str s :: r => (match strsOf r with | some l => some (s :: l) | none => none)
  | _ :: _ => none
def joinO (args : List AV) (H : AHeap) : Option AV :=
  match args with
  | [.slc b o len cap, .str sep] =>
    (match H.row b with
    | some B =>
      (match cut B.cells o len with
      | some cs =>
        (match strsOf cs with
        | some ls => if 0 < len ∧ len ≤ 100000 ∧ (Lib.join ls sep).length ≤ 100000 then some (.str (Lib.join ls sep)) else none
        | none => none)
      | none => none)
    | none => none)
  | _ => none
theorem strsOf_get : ∀ {cs : List AV} {ls : List (List UInt8)}, strsOf cs = some ls → ls.length = cs.length ∧ ∀ (j : Nat) l, ls[j]? = some l → cs[j]? = some (.str l)
  | [], ls, h => by obtain rfl := Option.some.inj h; exact ⟨rfl, fun j l h => by simp at h⟩
  | .str s :: r, ls, h => by
    unfold strsOf at h
    split at h
    · rename_i l' hl
      obtain rfl := Option.some.inj h
      obtain ⟨h1, h2⟩ := strsOf_get hl
      refine ⟨by simp [h1], fun j l hj => ?_⟩
      cases j with
      | zero => simp at hj; subst hj; rfl
      | succ j => simp at hj; simpa using h2 j l hj
    · cases h
  | .bool _ :: r, ls, h => by cases h
  | .int _ _ :: r, ls, h => by cases h
  | .nilp :: r, ls, h => by cases h
  | .ptr _ _ :: r, ls, h => by cases h
  | .nils :: r, ls, h => by cases h
  | .slc _ _ _ _ :: r, ls, h => by cases h
  | .nilm :: r, ls, h => by cases h
  | .map _ :: r, ls, h => by cases h
  | .nilFn :: r, ls, h => by cases h
  | .fn _ _ _ :: r, ls, h => by cases h
  | .yld _ :: r, ls, h => by cases h
  | .nilIface :: r, ls, h => by cases h
  | .iface _ _ :: r, ls, h => by cases h
  | .agg _ :: r, ls, h => by cases h
  | .tup _ :: r, ls, h => by cases h
theorem joinO_ok {gl : List Nat} (args : List AV) (H : AHeap) (v : AV) (h : joinO args H = some v) : OrhOK Tryd.prog gl 49 args H v := by
  unfold joinO at h
  split at h
  · rename_i b o len cap sep
    split at h
    · rename_i B hB
      split at h
      · rename_i cs hcs
        split at h
        · rename_i ls hls
          split at h
          · rename_i hb
            obtain ⟨hb0, hb1, hb2⟩ := hb
            injection h with h; subst h
            refine ⟨⟨_, Tryd.func49, by kernel_rfl, by kernel_rfl⟩, fun base m W cargs hsr hl => ?_⟩
            obtain ⟨c1, z1, h1, hv1, hz1⟩ := hl.cons_inv
            obtain ⟨c2, z2, rfl, hv2, hz2⟩ := hz1.cons_inv
            rw [hz2.nil_inv] at h1
            obtain ⟨sb, rfl, rfl⟩ := str_inv hv2
            obtain ⟨q1, q2, q3⟩ := cut_some hcs
            obtain ⟨s1, s2⟩ := strsOf_get hls
            obtain ⟨g1, g2⟩ := row_inv hB
            cases hv1 with
            | slc hm hle hc ha =>
              rename_i cap' a L
              have hcap : cap ≤ cap' := by rcases hc with rfl | ⟨hc, _⟩ <;> omega
              obtain rfl := ha (by omega)
              obtain rfl : cargs = #[.slice (some ⟨L.blk, L.off + o, none⟩) len cap', .string sb] := Array.ext' h1
              have hx : (ls.map fun l => (⟨l.toArray⟩ : ByteArray)).map (·.data.toList) = ls := by simp [Function.comp_def]
              have hn : (ls.map fun l => (⟨l.toArray⟩ : ByteArray)).length = len := by simp [s1, q2]
              have hcell : ∀ (j : Nat) x, (ls.map fun l => (⟨l.toArray⟩ : ByteArray))[j]? = some x → W.cell? ⟨L.blk, L.off + o + j, none⟩ = some (.string x) := by
                intro j x hj
                rw [List.getElem?_map] at hj
                cases hlj : ls[j]? with
                | none => rw [hlj] at hj; cases hj
                | some l =>
                  rw [hlj] at hj
                  obtain rfl := Option.some.inj hj
                  have e1 := s2 j l hlj
                  have hj2 : j < len := by rw [← q2]; exact (List.getElem?_eq_some_iff.1 e1).1
                  rw [q3 j hj2] at e1
                  obtain ⟨c, k1, k2⟩ := hsr.cell b L B hm g1 g2 _ _ e1
                  obtain ⟨sb', rfl, he⟩ := str_inv k2
                  subst he
                  rw [Nat.add_assoc, k1]
              have hbk : L.blk < W.heap.size := by
                obtain ⟨x, hx0⟩ : ∃ x, (ls.map fun l => (⟨l.toArray⟩ : ByteArray))[0]? = some x := ⟨_, List.getElem?_eq_getElem (by omega)⟩
                exact World.block_lt_of_cell? _ _ (hcell 0 x hx0)
              have hc := Tryd.strings_Join L.blk (L.off + o) cap' (ls.map fun l => ⟨l.toArray⟩) sb W hcell hbk (by omega) (by omega) (by rw [hx]; omega)
              rw [hn, hx] at hc
              refine hc.mono fun q W' hq => ?_
              obtain ⟨rfl, hw⟩ := hq
              exact ⟨_, rfl, VR.str (m := noInj) ⟨(Lib.join ls sb.data.toList).toArray⟩, hw⟩
          · cases h
        · cases h
      · cases h
    · cases h
  · cases h
end
def bsV (n : Nat) (z : List AV) (ps : List (Nat × Nat × AV)) : Option (AObj × AKind) := if n * 1 > 16777216 ∨ ¬ (n * 1 = 0 ∨ 0 < z.length) then none else match buildIn (zeros z (n * 1)) ps with | some cs => if cs.all AV.one then some (.row ⟨cs, 0, false, true⟩, .slc n n) else none | none => none
theorem run_bsV (e : Env) (n : Nat) (z : List AV) (ps : List (Nat × Opd)) : LOp.run e (.bslice 1 n z ps) = bsV n z (ps.map fun p => (p.1 * 1, 1, p.2.ev e)) := rfl
theorem bs6 (a b c d e f : List UInt8) : bsV 6 [.str []] [(0 * 1, 1, .str a), (1 * 1, 1, .str b), (2 * 1, 1, .str c), (3 * 1, 1, .str d), (4 * 1, 1, .str e), (5 * 1, 1, .str f)] = some (.row ⟨[.str a, .str b, .str c, .str d, .str e, .str f], 0, false, true⟩, .slc 6 6) := rfl
def andV (k : IntKind) (a b : Int) : Int := IntKind.wrap k (((BitVec.ofInt k.bits a &&& BitVec.ofInt k.bits b).toNat : Nat) : Int)
theorem bin_andV (k : IntKind) (a b : Int) : binV .and (.int k a) (.int k b) = some (.int k (andV k a b)) := by simp [binV, intBin, andV]
def shrV (k : IntKind) (a : Int) (i : Nat) : Int := a.fdiv (2 ^ (min i k.bits))
theorem bin_shrV (k k' : IntKind) (a : Int) (i : Nat) : binV .shr (.int k a) (.int k' (i : Int)) = some (.int k (shrV k a i)) := by
  simp only [binV, shiftBin, shrV, Int.toNat_natCast]
  rw [if_neg (by omega)]
theorem wrapU8 {x : Int} (h0 : 0 ≤ x) (h1 : x ≤ 255) : IntKind.wrap .u8 x = x := by
  simp [IntKind.wrap, IntKind.signed, IntKind.bits]
  omega
abbrev D (n : Nat) : List UInt8 := Lib.decDigits n
theorem D1 {n : Nat} (h : n < 10) : D n = [UInt8.ofNat (48 + n)] := Lib.decDigits_one h
theorem Dq {n : Nat} (h : ¬ n < 10) : D n = D (n / 10) ++ D (n % 10) := by
  rw [D1 (n := n % 10) (by omega)]
  show Lib.decDigits n = _
  rw [Lib.decDigits, dif_neg h]
def dec3 (n : Nat) : List UInt8 := if n < 10 then [UInt8.ofNat (48 + n)] else if n < 100 then [UInt8.ofNat (48 + n / 10), UInt8.ofNat (48 + n % 10)] else [UInt8.ofNat (48 + n / 100), UInt8.ofNat (48 + n / 10 % 10), UInt8.ofNat (48 + n % 10)]
theorem dec3_eq {n : Nat} (h : n < 1000) : D n = dec3 n := by
  unfold dec3
  by_cases h1 : n < 10
  · rw [if_pos h1, D1 h1]
  · rw [if_neg h1, Dq h1, D1 (n := n % 10) (by omega)]
    by_cases h2 : n < 100
    · rw [if_pos h2, D1 (by omega)]; rfl
    · rw [if_neg h2, Dq (by omega), D1 (n := n / 10 / 10) (by omega), D1 (n := n / 10 % 10) (by omega), Nat.div_div_eq_div_mul]; rfl
theorem D_len {n : Nat} (h : n < 1000) : (D n).length ≤ 3 := by
  rw [dec3_eq h]; unfold dec3
  (repeat' split) <;> simp
/-- what the walks of the bytes lean on -/
structure BtQ (Q : Prog) : Prop where
  at_ : AtQ Q
  q17 : Q.fns 17 = some A17
  q22 : Q.fns 22 = some A22
  q33 : Q.fns 33 = some A33
  q40 : Q.fns 40 = some A40
  q41 : Q.fns 41 = some A41
  q49 : Q.fns 49 = none
  o49 : ∀ args H, Q.orh 49 args H = joinO args H
  it : ∀ n : Nat, n < 256 → Q.orc 11 [.int .i64 n] = some (.str (D n))
  tb : Q.tabs = TT
section
variable {Q : Prog} (bq : BtQ Q) {H : AHeap}
include bq
theorem itoa_spec {n : Nat} (hn : n < 256) (ht : hasTabs H TT = true) : FnTo Q 11 [.int .i64 n] H (fun r H' => r = .str (D n) ∧ H' = H) :=
  fn_orc (bq.it n hn) (by rw [bq.tb]; exact ht) ⟨rfl, rfl⟩
end
def saysP (c : Nat) (k n : Int) : List UInt8 := if k = 1 then 59 :: (D c ++ ([58, 53, 58] ++ D n.toNat)) else if k = 2 then 59 :: (D c ++ ([58, 50, 58, 58] ++ (D (n.toNat / 65536) ++ (58 :: (D (n.toNat / 256 % 256) ++ (58 :: D (n.toNat % 256))))))) else []
def joinF (a b c d : List UInt8) : List UInt8 := Lib.join [a, [50], [], b, c, d] [58]
theorem joinF_eq (a b c d : List UInt8) : joinF a b c d = a ++ ([58, 50, 58, 58] ++ (b ++ (58 :: (c ++ (58 :: d))))) := by
  simp [joinF, Lib.join, List.intercalate, List.intersperse]
theorem joinO_six {base : Nat} {H : AHeap} {l : List Cel} {b : Nat} {a x y z : List UInt8} (h : Hp base H (⟨b, 1, [.str a, .str [50], .str [], .str x, .str y, .str z]⟩ :: l)) (hl : a.length + x.length + y.length + z.length ≤ 1000) : joinO [.slc b 0 6 6, .str [58]] H = some (.str (joinF a x y z)) := by
  obtain ⟨B, r, hc⟩ := h.rowOf (List.mem_cons_self ..)
  have hc6 : AM.cut [AV.str a, .str [50], .str [], .str x, .str y, .str z] 0 6 = some [AV.str a, .str [50], .str [], .str x, .str y, .str z] := rfl
  have hs : strsOf [AV.str a, .str [50], .str [], .str x, .str y, .str z] = some [a, [50], [], x, y, z] := rfl
  have hlen : (Lib.join [a, [50], [], x, y, z] [58]).length ≤ 100000 := by
    show (joinF a x y z).length ≤ 100000
    rw [joinF_eq]; simp; omega
  simp only [joinO, r, hc, hc6, hs]
  rw [if_pos ⟨by omega, by omega, hlen⟩]
  rfl
theorem and255 {a : Int} (h0 : 0 ≤ a) (h1 : a < 4294967296) : andV .u32 a 255 = ((a.toNat % 256 : Nat) : Int) := by
  unfold andV
  have : (BitVec.ofInt IntKind.u32.bits a &&& BitVec.ofInt IntKind.u32.bits 255).toNat = a.toNat % 256 := by
    rw [BitVec.toNat_and]
    have e1 : (BitVec.ofInt IntKind.u32.bits a).toNat = a.toNat := by
      rw [BitVec.toNat_ofInt]
      show (a % ((2 ^ 32 : Nat) : Int)).toNat = a.toNat
      rw [Int.emod_eq_of_lt h0 (by omega)]
    have e2 : (BitVec.ofInt IntKind.u32.bits 255).toNat = 2 ^ 8 - 1 := rfl
    rw [e1, e2, Nat.and_two_pow_sub_one_eq_mod]
  rw [this, wrapU32 (by omega) (by omega)]
theorem shr16 {a : Int} (h0 : 0 ≤ a) : shrV .u32 a 16 = ((a.toNat / 65536 : Nat) : Int) := by
  unfold shrV
  show a.fdiv 65536 = _
  rw [Int.fdiv_eq_ediv_of_nonneg _ (by omega)]; omega
theorem shr8' {a : Int} (h0 : 0 ≤ a) : shrV .u32 a 8 = ((a.toNat / 256 : Nat) : Int) := by
  unfold shrV
  show a.fdiv 256 = _
  rw [Int.fdiv_eq_ediv_of_nonneg _ (by omega)]; omega
section
variable {Q : Prog} (bq : BtQ Q) {H : AHeap}
include bq
set_option maxHeartbeats 4000000 in
theorem says_spec {c : Nat} (hc : c = 38 ∨ c = 48) {k n : Int} (hn : 0 ≤ n) (hk : colorP k n = true) (hf : Fr H) (ht : hasTabs H TT = true) : FnTo Q 33 [.int .i64 c, .agg [.int .u8 k, .int .u32 n]] H (fun r H' => r = .str (saysP c k n) ∧ Gr H H') := by
  refine fn_wp (bq.at_.ho 33 rfl _) bq.q33 (by simp [A33]) ?_
  have hc256 : c < 256 := by omega
  have lc := D_len (n := c) (by omega)
  obtain ⟨H1, s1, h1, k1⟩ := (Hp.nil H hf).make [.int .u8 k, .int .u32 n] 2
  have g1 := h1.gr k1
  have ht1 := g1.tabs hf ht
  have l0 := h1.load (List.mem_cons_self ..) (o := 0) (v := .int .u8 k) rfl
  have l1 := h1.load (List.mem_cons_self ..) (o := 1) (v := .int .u32 n) rfl
  have bx : boxV (.agg [.int .u8 k, .int .u32 n]) = some (.row ⟨[.int .u8 k, .int .u32 n], 0, false, true⟩, .ptr) := rfl
  simp only [colorP, decide_eq_true_eq] at hk
  by_cases c1 : k = 1
  · have d1 : decide (k = 1) = true := decide_eq_true c1
    obtain ⟨m, rfl⟩ : ∃ m : Nat, n = m := ⟨n.toNat, by omega⟩
    have hm : m < 256 := by omega
    have w1 : IntKind.wrap .i64 (m : Int) = m := wrapI64 (by omega) (by omega)
    have lm := D_len (n := m) (by omega)
    simp only [A33, run_allocL, run_box, bx, s1, l0, l1, d1, w1, SX, Opd.ev, resVal, resVals, ARes.val, Bool.false_eq_true, Bool.not_false, Bool.not_true, List.getD_cons_succ, List.getD_cons_zero, List.map_cons, List.map_nil, Nat.add_zero, Nat.zero_add, Option.map_none, Option.map_some, Option.some.injEq, and_true, decide_false, decide_true, true_and, reduceCtorEq, Nat.reduceEqDiff, ↓reduceIte, Int.reduceEq, Int.reduceLT, Int.reduceLE, Nat.reduceAdd]
    refine (itoa_spec bq hc256 ht1).mono ?_
    rintro _ H2 ⟨rfl, hx⟩
    subst hx
    have a1 := bin_adds [59] (D c) (by simp; omega)
    have a2 := bin_adds ([59] ++ D c) [58, 53, 58] (by simp; omega)
    refine ⟨by simp only [echoOk, l1, SX, Opd.ev, resVal, resVals, ARes.val, Bool.false_eq_true, Bool.not_false, Bool.not_true, List.getD_cons_succ, List.getD_cons_zero, List.map_cons, List.map_nil, Nat.add_zero, Nat.zero_add, Option.map_none, Option.map_some, Option.some.injEq, and_true, decide_false, decide_true, true_and, reduceCtorEq, Nat.reduceEqDiff, ↓reduceIte, Int.reduceEq, Int.reduceLT, Int.reduceLE, Nat.reduceAdd]; simp [AV.same, AV.same1], ?_⟩
    simp only [a1, a2, SX, Opd.ev, resVal, resVals, ARes.val, Bool.false_eq_true, Bool.not_false, Bool.not_true, List.getD_cons_succ, List.getD_cons_zero, List.map_cons, List.map_nil, Nat.add_zero, Nat.zero_add, Option.map_none, Option.map_some, Option.some.injEq, and_true, decide_false, decide_true, true_and, reduceCtorEq, Nat.reduceEqDiff, ↓reduceIte, Int.reduceEq, Int.reduceLT, Int.reduceLE, Nat.reduceAdd]
    refine (itoa_spec bq hm ht1).mono ?_
    rintro _ H3 ⟨rfl, hx⟩
    subst hx
    have a3 := bin_adds ([59] ++ D c ++ [58, 53, 58]) (D m) (by simp; omega)
    simp only [a3, SX, Opd.ev, resVal, resVals, ARes.val, Bool.false_eq_true, Bool.not_false, Bool.not_true, List.getD_cons_succ, List.getD_cons_zero, List.map_cons, List.map_nil, Nat.add_zero, Nat.zero_add, Option.map_none, Option.map_some, Option.some.injEq, and_true, decide_false, decide_true, true_and, reduceCtorEq, Nat.reduceEqDiff, ↓reduceIte, Int.reduceEq, Int.reduceLT, Int.reduceLE, Nat.reduceAdd]
    refine ⟨?_, g1⟩
    unfold saysP
    rw [if_pos c1]; simp
  have d1 : decide (k = 1) = false := decide_eq_false c1
  by_cases c2 : k = 2
  · have d2 : decide (k = 2) = true := decide_eq_true c2
    obtain ⟨m, rfl⟩ : ∃ m : Nat, n = m := ⟨n.toNat, by omega⟩
    have hm : m < 16777216 := by omega
    have r1 : binV .shr (.int .u32 (m : Int)) (.int .u64 16) = some (.int .u32 ((m / 65536 : Nat) : Int)) := by
      rw [show (16 : Int) = ((16 : Nat) : Int) from rfl, bin_shrV, shr16 (by omega)]; rfl
    have r2 : binV .shr (.int .u32 (m : Int)) (.int .u64 8) = some (.int .u32 ((m / 256 : Nat) : Int)) := by
      rw [show (8 : Int) = ((8 : Nat) : Int) from rfl, bin_shrV, shr8' (by omega)]; rfl
    have r3 : binV .and (.int .u32 ((m / 256 : Nat) : Int)) (.int .u32 255) = some (.int .u32 ((m / 256 % 256 : Nat) : Int)) := by
      rw [bin_andV, and255 (by omega) (by omega)]; rfl
    have r4 : binV .and (.int .u32 (m : Int)) (.int .u32 255) = some (.int .u32 ((m % 256 : Nat) : Int)) := by
      rw [bin_andV, and255 (by omega) (by omega)]; rfl
    have w1 : IntKind.wrap .i64 ((m / 65536 : Nat) : Int) = ((m / 65536 : Nat) : Int) := wrapI64 (by omega) (by omega)
    have w2 : IntKind.wrap .i64 ((m / 256 % 256 : Nat) : Int) = ((m / 256 % 256 : Nat) : Int) := wrapI64 (by omega) (by omega)
    have w3 : IntKind.wrap .i64 ((m % 256 : Nat) : Int) = ((m % 256 : Nat) : Int) := wrapI64 (by omega) (by omega)
    have e1 := D_len (n := m / 65536) (by omega)
    have e2 := D_len (n := m / 256 % 256) (by omega)
    have e3 := D_len (n := m % 256) (by omega)
    simp only [A33, run_allocL, run_box, bx, s1, l0, l1, d1, d2, r1, r2, r3, r4, w1, w2, w3, SX, Opd.ev, resVal, resVals, ARes.val, Bool.false_eq_true, Bool.not_false, Bool.not_true, List.getD_cons_succ, List.getD_cons_zero, List.map_cons, List.map_nil, Nat.add_zero, Nat.zero_add, Option.map_none, Option.map_some, Option.some.injEq, and_true, decide_false, decide_true, true_and, reduceCtorEq, Nat.reduceEqDiff, ↓reduceIte, Int.reduceEq, Int.reduceLT, Int.reduceLE, Nat.reduceAdd]
    refine (itoa_spec bq hc256 ht1).mono ?_
    rintro _ H2 ⟨rfl, hx⟩
    subst hx
    have ec : AV.same (.int .u32 (m : Int)) (.int .u32 (m : Int)) = true := by simp [AV.same, AV.same1]
    refine ⟨by simp only [echoOk, l1, ec, Bool.and_self, SX, Opd.ev, resVal, resVals, ARes.val, Bool.false_eq_true, Bool.not_false, Bool.not_true, List.getD_cons_succ, List.getD_cons_zero, List.map_cons, List.map_nil, Nat.add_zero, Nat.zero_add, Option.map_none, Option.map_some, Option.some.injEq, and_true, decide_false, decide_true, true_and, reduceCtorEq, Nat.reduceEqDiff, ↓reduceIte, Int.reduceEq, Int.reduceLT, Int.reduceLE, Nat.reduceAdd], ?_⟩
    simp only [SX, Opd.ev, resVal, resVals, ARes.val, Bool.false_eq_true, Bool.not_false, Bool.not_true, List.getD_cons_succ, List.getD_cons_zero, List.map_cons, List.map_nil, Nat.add_zero, Nat.zero_add, Option.map_none, Option.map_some, Option.some.injEq, and_true, decide_false, decide_true, true_and, reduceCtorEq, Nat.reduceEqDiff, ↓reduceIte, Int.reduceEq, Int.reduceLT, Int.reduceLE, Nat.reduceAdd]
    refine (itoa_spec bq (n := m / 65536) (by omega) ht1).mono ?_
    rintro _ H2 ⟨rfl, hx⟩
    subst hx
    refine ⟨by simp only [echoOk, l1, ec, Bool.and_self, SX, Opd.ev, resVal, resVals, ARes.val, Bool.false_eq_true, Bool.not_false, Bool.not_true, List.getD_cons_succ, List.getD_cons_zero, List.map_cons, List.map_nil, Nat.add_zero, Nat.zero_add, Option.map_none, Option.map_some, Option.some.injEq, and_true, decide_false, decide_true, true_and, reduceCtorEq, Nat.reduceEqDiff, ↓reduceIte, Int.reduceEq, Int.reduceLT, Int.reduceLE, Nat.reduceAdd], ?_⟩
    simp only [SX, Opd.ev, resVal, resVals, ARes.val, Bool.false_eq_true, Bool.not_false, Bool.not_true, List.getD_cons_succ, List.getD_cons_zero, List.map_cons, List.map_nil, Nat.add_zero, Nat.zero_add, Option.map_none, Option.map_some, Option.some.injEq, and_true, decide_false, decide_true, true_and, reduceCtorEq, Nat.reduceEqDiff, ↓reduceIte, Int.reduceEq, Int.reduceLT, Int.reduceLE, Nat.reduceAdd]
    refine (itoa_spec bq (n := m / 256 % 256) (by omega) ht1).mono ?_
    rintro _ H2 ⟨rfl, hx⟩
    subst hx
    refine ⟨by simp only [echoOk, l1, ec, Bool.and_self, SX, Opd.ev, resVal, resVals, ARes.val, Bool.false_eq_true, Bool.not_false, Bool.not_true, List.getD_cons_succ, List.getD_cons_zero, List.map_cons, List.map_nil, Nat.add_zero, Nat.zero_add, Option.map_none, Option.map_some, Option.some.injEq, and_true, decide_false, decide_true, true_and, reduceCtorEq, Nat.reduceEqDiff, ↓reduceIte, Int.reduceEq, Int.reduceLT, Int.reduceLE, Nat.reduceAdd], ?_⟩
    simp only [SX, Opd.ev, resVal, resVals, ARes.val, Bool.false_eq_true, Bool.not_false, Bool.not_true, List.getD_cons_succ, List.getD_cons_zero, List.map_cons, List.map_nil, Nat.add_zero, Nat.zero_add, Option.map_none, Option.map_some, Option.some.injEq, and_true, decide_false, decide_true, true_and, reduceCtorEq, Nat.reduceEqDiff, ↓reduceIte, Int.reduceEq, Int.reduceLT, Int.reduceLE, Nat.reduceAdd]
    refine (itoa_spec bq (n := m % 256) (by omega) ht1).mono ?_
    rintro _ H2 ⟨rfl, hx⟩
    subst hx
    obtain ⟨H3, s3, h3, k3⟩ := h1.make [.str (D c), .str [50], .str [], .str (D (m / 65536)), .str (D (m / 256 % 256)), .str (D (m % 256))] 1
    have jo := joinO_six h3 (by omega)
    simp only [run_bsV, bs6, s3, SX, Opd.ev, resVal, resVals, ARes.val, Bool.false_eq_true, Bool.not_false, Bool.not_true, List.getD_cons_succ, List.getD_cons_zero, List.map_cons, List.map_nil, Nat.add_zero, Nat.zero_add, Option.map_none, Option.map_some, Option.some.injEq, and_true, decide_false, decide_true, true_and, reduceCtorEq, Nat.reduceEqDiff, ↓reduceIte, Int.reduceEq, Int.reduceLT, Int.reduceLE, Nat.reduceAdd]
    refine fn_orh (bq.at_.ho 49 rfl _) bq.q49 (by rw [bq.o49]; exact jo) ?_
    have a1 := bin_adds [59] (joinF (D c) (D (m / 65536)) (D (m / 256 % 256)) (D (m % 256))) (by rw [joinF_eq]; simp; omega)
    simp only [a1, SX, Opd.ev, resVal, resVals, ARes.val, Bool.false_eq_true, Bool.not_false, Bool.not_true, List.getD_cons_succ, List.getD_cons_zero, List.map_cons, List.map_nil, Nat.add_zero, Nat.zero_add, Option.map_none, Option.map_some, Option.some.injEq, and_true, decide_false, decide_true, true_and, reduceCtorEq, Nat.reduceEqDiff, ↓reduceIte, Int.reduceEq, Int.reduceLT, Int.reduceLE, Nat.reduceAdd]
    refine ⟨?_, h3.gr (k1.trans k3)⟩
    unfold saysP
    rw [if_neg c1, if_pos c2, joinF_eq]; simp
  have d2 : decide (k = 2) = false := decide_eq_false c2
  simp only [A33, run_allocL, run_box, bx, s1, l0, l1, d1, d2, SX, Opd.ev, resVal, resVals, ARes.val, Bool.false_eq_true, Bool.not_false, Bool.not_true, List.getD_cons_succ, List.getD_cons_zero, List.map_cons, List.map_nil, Nat.add_zero, Nat.zero_add, Option.map_none, Option.map_some, Option.some.injEq, and_true, decide_false, decide_true, true_and, reduceCtorEq, Nat.reduceEqDiff, ↓reduceIte, Int.reduceEq, Int.reduceLT, Int.reduceLE, Nat.reduceAdd]
  refine ⟨?_, g1⟩
  unfold saysP
  rw [if_neg c1, if_neg c2]
end
theorem saysP_len {c : Nat} (hc : c = 38 ∨ c = 48) {k n : Int} (hn : 0 ≤ n) (hk : colorP k n = true) : (saysP c k n).length ≤ 40 := by
  have lc := D_len (n := c) (by omega)
  simp only [colorP, decide_eq_true_eq] at hk
  unfold saysP
  split
  · have := D_len (n := n.toNat) (by omega)
    simp; omega
  · split
    · have e1 := D_len (n := n.toNat / 65536) (by omega)
      have e2 := D_len (n := n.toNat / 256 % 256) (by omega)
      have e3 := D_len (n := n.toNat % 256) (by omega)
      simp; omega
    · simp
def zf (i : Nat) : Nat := (zflags.getD i 0).toNat
def testA (fl : Int) (i : Nat) : Bool := decide (andV .u16 (shrV .u16 fl i) 1 = 1)
def sA (fl : Int) : Nat → List UInt8
  | 0 => [27, 91, 48]
  | i + 1 => if testA fl i = true then sA fl i ++ (59 :: dec3 (zf i)) else sA fl i
theorem dec3_len (n : Nat) : (dec3 n).length ≤ 3 := by unfold dec3; (repeat' split) <;> simp
theorem sA_len (fl : Int) : ∀ i, (sA fl i).length ≤ 3 + 4 * i
  | 0 => by simp [sA]
  | i + 1 => by
    have h1 := sA_len fl i
    have h2 := dec3_len (zf i)
    unfold sA; split <;> simp <;> omega
instance : DecidableEq At := fun a b =>
  if h : a.fl = b.fl ∧ a.fk = b.fk ∧ a.fn = b.fn ∧ a.bk = b.bk ∧ a.bn = b.bn then .isTrue (by cases a; cases b; simp_all) else .isFalse (fun e => h (by subst e; exact ⟨rfl, rfl, rfl, rfl, rfl⟩))
/-- the bytes -/
def betP (a b : At) (s : List UInt8) : List UInt8 := if a = b ∨ rightP b = false then [] else ((s ++ saysP 38 b.fk b.fn) ++ saysP 48 b.bk b.bn) ++ [109]
theorem seq_ne {a b : At} (h : a ≠ b) : seqV [1, 1, 1, 1, 1] false a.val b.val = some (.bool false) := by
  obtain ⟨a1, a2, a3, a4, a5⟩ := a
  obtain ⟨b1, b2, b3, b4, b5⟩ := b
  simp only [seqV, ROp.run, Opd.ev, At.val, At.cs, cellsEq, List.length_cons, List.length_nil, and_self, if_true]
  by_cases c1 : a1 = b1
  · by_cases c2 : a2 = b2
    · by_cases c3 : a3 = b3
      · by_cases c4 : a4 = b4
        · by_cases c5 : a5 = b5
          · exact absurd (by rw [c1, c2, c3, c4, c5]) h
          · simp [c1, c2, c3, c4, c5]
        · simp [c1, c2, c3, c4]
      · simp [c1, c2, c3]
    · simp [c1, c2]
  · simp [c1]
section
variable {Q : Prog} (bq : BtQ Q) {H : AHeap}
include bq
set_option maxHeartbeats 8000000 in
theorem between_spec {a b : At} (hb1 : 0 ≤ b.fn) (hb2 : 0 ≤ b.bn) (hf : Fr H) (ht : hasTabs H TT = true) : FnTo Q 17 [a.val, b.val] H (fun r H' => r = .str (betP a b (sA b.fl 8)) ∧ Gr H H') := by
  refine fn_wp (bq.at_.ho 17 rfl _) bq.q17 (by simp [A17]) ?_
  obtain ⟨H1, s1, h1, k1⟩ := (Hp.nil H hf).make a.cs 5
  obtain ⟨H2, s2, h2, k2⟩ := h1.make b.cs 5
  have g2 : Gr H H2 := h2.gr (k1.trans k2)
  have ht2 := g2.tabs hf ht
  have la : ∀ {H'}, Gr H2 H' → loadV H' (some 5) (.ptr H.next 0) = some a.val := fun {H'} g => (h2.keep g.keep g.next g.fr).loadN (k := 5) (List.mem_of_getElem? (i := 1) rfl) rfl
  have lb : ∀ {H'}, Gr H2 H' → loadV H' (some 5) (.ptr H1.next 0) = some b.val := fun {H'} g => (h2.keep g.keep g.next g.fr).loadN (k := 5) (List.mem_of_getElem? (i := 0) rfl) rfl
  have la0 := la (Gr.refl g2.fr)
  have lb0 := lb (Gr.refl g2.fr)
  by_cases hab : a = b
  · have sq := seq_at a
    rw [← hab] at lb0 s2
    have s2' : H1.alloc (.row ⟨a.cs, 0, false, true⟩) = H2 := s2
    subst hab
    simp only [A17, box_at, run_box, run_allocL, s1, s2', la0, lb0, sq, wantV_undef, SX, Opd.ev, resVal, resVals, ARes.val, Bool.false_eq_true, Bool.not_false, Bool.not_true, List.getD_cons_succ, List.getD_cons_zero, List.map_cons, List.map_nil, Nat.add_zero, Nat.zero_add, Option.map_none, Option.map_some, Option.some.injEq, and_true, decide_false, decide_true, true_and, reduceCtorEq, Nat.reduceEqDiff, ↓reduceIte, Int.reduceEq, Int.reduceLT, Int.reduceLE, Nat.reduceAdd]
    exact ⟨by unfold betP; rw [if_pos (.inl rfl)], g2⟩
  have sq := seq_ne hab
  simp only [A17, box_at, run_box, run_allocL, s1, s2, la0, lb0, sq, wantV_undef, SX, Opd.ev, resVal, resVals, ARes.val, Bool.false_eq_true, Bool.not_false, Bool.not_true, List.getD_cons_succ, List.getD_cons_zero, List.map_cons, List.map_nil, Nat.add_zero, Nat.zero_add, Option.map_none, Option.map_some, Option.some.injEq, and_true, decide_false, decide_true, true_and, reduceCtorEq, Nat.reduceEqDiff, ↓reduceIte, Int.reduceEq, Int.reduceLT, Int.reduceLE, Nat.reduceAdd]
  refine (right_spec bq.at_ b g2.fr).mono ?_
  rintro _ H3 ⟨rfl, g3⟩
  cases hr : rightP b with
  | false =>
    simp only [wantV_undef, resVal, resVals, ARes.val, SX, Opd.ev, resVal, resVals, ARes.val, Bool.false_eq_true, Bool.not_false, Bool.not_true, List.getD_cons_succ, List.getD_cons_zero, List.map_cons, List.map_nil, Nat.add_zero, Nat.zero_add, Option.map_none, Option.map_some, Option.some.injEq, and_true, decide_false, decide_true, true_and, reduceCtorEq, Nat.reduceEqDiff, ↓reduceIte, Int.reduceEq, Int.reduceLT, Int.reduceLE, Nat.reduceAdd]
    exact ⟨by unfold betP; rw [if_pos (.inr hr)], g2.trans g3⟩
  | true =>
    have hr' := hr
    simp only [rightP, Bool.and_eq_true, decide_eq_true_eq] at hr'
    obtain ⟨hr1, hr2, hr3⟩ := hr'
    have ht3 := g3.tabs g2.fr ht2
    have rt := row_tab ht3
    have h3 := h2.keep g3.keep g3.next g3.fr
    have lf : loadV H3 none (.ptr H1.next 0) = some (.int .u16 b.fl) := h3.load (k := 5) (cs := b.cs) (List.mem_of_getElem? (i := 0) rfl) rfl
    have l1 : ∀ {H'}, Gr H3 H' → loadV H' (some 2) (.ptr H1.next 1) = some (.agg [.int .u8 b.fk, .int .u32 b.fn]) := fun {H'} g => (h3.keep g.keep g.next g.fr).loadO (a := [.int .u16 b.fl]) (x := [.int .u8 b.fk, .int .u32 b.fn]) (c := [.int .u8 b.bk, .int .u32 b.bn]) (k := 5) (List.mem_of_getElem? (i := 0) rfl) rfl rfl
    have l3 : ∀ {H'}, Gr H3 H' → loadV H' (some 2) (.ptr H1.next 3) = some (.agg [.int .u8 b.bk, .int .u32 b.bn]) := fun {H'} g => (h3.keep g.keep g.next g.fr).loadO (a := [.int .u16 b.fl, .int .u8 b.fk, .int .u32 b.fn]) (x := [.int .u8 b.bk, .int .u32 b.bn]) (c := []) (k := 5) (List.mem_of_getElem? (i := 0) rfl) rfl rfl
    have l10 := l1 (Gr.refl g3.fr)
    have l30 := l3 (Gr.refl g3.fr)
    simp only [rt, wantV_undef, SX, Opd.ev, resVal, resVals, ARes.val, Bool.false_eq_true, Bool.not_false, Bool.not_true, List.getD_cons_succ, List.getD_cons_zero, List.map_cons, List.map_nil, Nat.add_zero, Nat.zero_add, Option.map_none, Option.map_some, Option.some.injEq, and_true, decide_false, decide_true, true_and, reduceCtorEq, Nat.reduceEqDiff, ↓reduceIte, Int.reduceEq, Int.reduceLT, Int.reduceLE, Nat.reduceAdd]
    obtain ⟨I, hI⟩ : ∃ I : Nat → Env → AHeap → Prop, ∀ m e H', I m e H' ↔ (H' = H3 ∧ ∃ i : Nat, m = 8 - i ∧ i ≤ 8 ∧ Env.get e 3 = .ptr H1.next 0 ∧ Env.get e 5 = .str (sA b.fl i) ∧ Env.get e 16 = .agg (zflags.map (.int .i64)) ∧ Env.get e 17 = .int .i64 i) := ⟨_, fun _ _ _ => Iff.rfl⟩
    refine loop_by I 8 ?_ ?_
    · refine (hI _ _ _).2 ⟨rfl, 0, rfl, by omega, ?_⟩
      simp only [SX, Opd.ev, resVal, resVals, ARes.val, Bool.false_eq_true, Bool.not_false, Bool.not_true, List.getD_cons_succ, List.getD_cons_zero, List.map_cons, List.map_nil, Nat.add_zero, Nat.zero_add, Option.map_none, Option.map_some, Option.some.injEq, and_true, decide_false, decide_true, true_and, reduceCtorEq, Nat.reduceEqDiff, ↓reduceIte, Int.reduceEq, Int.reduceLT, Int.reduceLE, Nat.reduceAdd]
      exact ⟨rfl, rfl⟩
    · intro m e H' hinv
      obtain ⟨hx, i, rfl, hi, e3, e5, e16, e17⟩ := (hI _ _ _).1 hinv
      subst hx
      have h8 : zflags.length = 8 := rfl
      by_cases d : (i : Int) < 8
      · have d' : decide ((i : Int) < 8) = true := decide_eq_true d
        obtain ⟨k, hk⟩ : ∃ k, zflags[i]? = some k := ⟨_, List.getElem?_eq_getElem (by omega)⟩
        have hkr : 1 ≤ k ∧ k ≤ 9 := by
          have hm := List.mem_of_getElem? hk
          simp only [zflags, List.mem_cons, List.not_mem_nil, or_false] at hm
          omega
        have hz : zf i = k.toNat := by unfold zf; rw [List.getD_eq_getElem?_getD, hk]; rfl
        obtain ⟨z, rfl⟩ : ∃ z : Nat, k = z := ⟨k.toNat, by omega⟩
        have hz : zf i = z := hz
        have it := idx_tab hk
        have w1 : IntKind.wrap .i64 ((i : Int) + 1) = ((i + 1 : Nat) : Int) := by rw [wrapI64 (by omega) (by omega)]; rfl
        have sh := bin_shrV .u16 .i64 b.fl i
        have an := bin_andV .u16 (shrV .u16 b.fl i) 1
        have nx : ∀ s e', s = sA b.fl (i + 1) → Env.get e' 3 = .ptr H1.next 0 → Env.get e' 5 = .str s → Env.get e' 16 = .agg (zflags.map (.int .i64)) → Env.get e' 17 = .int .i64 ((i + 1 : Nat) : Int) → ∃ m', m' < 8 - i ∧ I m' e' H' := by
          intro s e' hs f1 f2 f3 f4
          subst hs
          exact ⟨8 - (i + 1), by omega, (hI _ _ _).2 ⟨rfl, i + 1, rfl, by omega, f1, f2, f3, f4⟩⟩
        cases ht : testA b.fl i with
        | false =>
          have dt : decide (andV .u16 (shrV .u16 b.fl i) 1 = 1) = false := ht
          simp only [e3, e5, e16, e17, d', it, lf, sh, an, dt, w1, SX, Opd.ev, resVal, resVals, ARes.val, Bool.false_eq_true, Bool.not_false, Bool.not_true, List.getD_cons_succ, List.getD_cons_zero, List.map_cons, List.map_nil, Nat.add_zero, Nat.zero_add, Option.map_none, Option.map_some, Option.some.injEq, and_true, decide_false, decide_true, true_and, reduceCtorEq, Nat.reduceEqDiff, ↓reduceIte, Int.reduceEq, Int.reduceLT, Int.reduceLE, Nat.reduceAdd]
          refine nx (sA b.fl i) _ (by rw [sA, if_neg (by rw [ht]; simp)]) ?_ ?_ ?_ ?_ <;> simp only [e3, e5, e16, e17, SX, Opd.ev, resVal, resVals, ARes.val, Bool.false_eq_true, Bool.not_false, Bool.not_true, List.getD_cons_succ, List.getD_cons_zero, List.map_cons, List.map_nil, Nat.add_zero, Nat.zero_add, Option.map_none, Option.map_some, Option.some.injEq, and_true, decide_false, decide_true, true_and, reduceCtorEq, Nat.reduceEqDiff, ↓reduceIte, Int.reduceEq, Int.reduceLT, Int.reduceLE, Nat.reduceAdd]
        | true =>
          have dt : decide (andV .u16 (shrV .u16 b.fl i) 1 = 1) = true := ht
          simp only [e3, e5, e16, e17, d', it, lf, sh, an, dt, w1, SX, Opd.ev, resVal, resVals, ARes.val, Bool.false_eq_true, Bool.not_false, Bool.not_true, List.getD_cons_succ, List.getD_cons_zero, List.map_cons, List.map_nil, Nat.add_zero, Nat.zero_add, Option.map_none, Option.map_some, Option.some.injEq, and_true, decide_false, decide_true, true_and, reduceCtorEq, Nat.reduceEqDiff, ↓reduceIte, Int.reduceEq, Int.reduceLT, Int.reduceLE, Nat.reduceAdd]
          refine (itoa_spec bq (n := z) (by omega) ht3).mono ?_
          rintro _ H4 ⟨rfl, hx⟩
          subst hx
          have dl := D_len (n := z) (by omega)
          have sl := sA_len b.fl i
          have a1 := bin_adds [59] (D z) (by simp; omega)
          have a2 := bin_adds (sA b.fl i) ([59] ++ D z) (by simp; omega)
          simp only [e3, e5, e16, e17, a1, a2, w1, SX, Opd.ev, resVal, resVals, ARes.val, Bool.false_eq_true, Bool.not_false, Bool.not_true, List.getD_cons_succ, List.getD_cons_zero, List.map_cons, List.map_nil, Nat.add_zero, Nat.zero_add, Option.map_none, Option.map_some, Option.some.injEq, and_true, decide_false, decide_true, true_and, reduceCtorEq, Nat.reduceEqDiff, ↓reduceIte, Int.reduceEq, Int.reduceLT, Int.reduceLE, Nat.reduceAdd]
          refine nx (sA b.fl i ++ ([59] ++ D z)) _ (by rw [sA, if_pos ht, hz, ← dec3_eq (by omega)]; rfl) ?_ ?_ ?_ ?_ <;> simp only [e3, e5, e16, e17, SX, Opd.ev, resVal, resVals, ARes.val, Bool.false_eq_true, Bool.not_false, Bool.not_true, List.getD_cons_succ, List.getD_cons_zero, List.map_cons, List.map_nil, Nat.add_zero, Nat.zero_add, Option.map_none, Option.map_some, Option.some.injEq, and_true, decide_false, decide_true, true_and, reduceCtorEq, Nat.reduceEqDiff, ↓reduceIte, Int.reduceEq, Int.reduceLT, Int.reduceLE, Nat.reduceAdd]
      · have d' : decide ((i : Int) < 8) = false := decide_eq_false d
        obtain rfl : i = 8 := by omega
        have sl := sA_len b.fl 8
        have q1 := saysP_len (c := 38) (.inl rfl) hb1 hr2
        have q2 := saysP_len (c := 48) (.inr rfl) hb2 hr3
        simp only [e3, e5, e16, e17, d', l10, l30, SX, Opd.ev, resVal, resVals, ARes.val, Bool.false_eq_true, Bool.not_false, Bool.not_true, List.getD_cons_succ, List.getD_cons_zero, List.map_cons, List.map_nil, Nat.add_zero, Nat.zero_add, Option.map_none, Option.map_some, Option.some.injEq, and_true, decide_false, decide_true, true_and, reduceCtorEq, Nat.reduceEqDiff, ↓reduceIte, Int.reduceEq, Int.reduceLT, Int.reduceLE, Nat.reduceAdd]
        refine (says_spec bq (c := 38) (.inl rfl) hb1 hr2 g3.fr ht3).mono ?_
        rintro _ H4 ⟨rfl, g4⟩
        have l34 := l3 g4
        have ec : AV.same (.agg [.int .u8 b.bk, .int .u32 b.bn]) (.agg [.int .u8 b.bk, .int .u32 b.bn]) = true := by simp [AV.same, AV.sameL, AV.same1]
        have a1 := bin_adds (sA b.fl 8) (saysP 38 b.fk b.fn) (by omega)
        refine ⟨by simp only [echoOk, e3, l34, ec, Bool.and_self, SX, Opd.ev, resVal, resVals, ARes.val, Bool.false_eq_true, Bool.not_false, Bool.not_true, List.getD_cons_succ, List.getD_cons_zero, List.map_cons, List.map_nil, Nat.add_zero, Nat.zero_add, Option.map_none, Option.map_some, Option.some.injEq, and_true, decide_false, decide_true, true_and, reduceCtorEq, Nat.reduceEqDiff, ↓reduceIte, Int.reduceEq, Int.reduceLT, Int.reduceLE, Nat.reduceAdd], ?_⟩
        simp only [e3, e5, a1, SX, Opd.ev, resVal, resVals, ARes.val, Bool.false_eq_true, Bool.not_false, Bool.not_true, List.getD_cons_succ, List.getD_cons_zero, List.map_cons, List.map_nil, Nat.add_zero, Nat.zero_add, Option.map_none, Option.map_some, Option.some.injEq, and_true, decide_false, decide_true, true_and, reduceCtorEq, Nat.reduceEqDiff, ↓reduceIte, Int.reduceEq, Int.reduceLT, Int.reduceLE, Nat.reduceAdd]
        refine (says_spec bq (c := 48) (.inr rfl) hb2 hr3 g4.fr (g4.tabs g3.fr ht3)).mono ?_
        rintro _ H5 ⟨rfl, g5⟩
        have a2 := bin_adds (sA b.fl 8 ++ saysP 38 b.fk b.fn) (saysP 48 b.bk b.bn) (by simp; omega)
        have a3 := bin_adds (sA b.fl 8 ++ saysP 38 b.fk b.fn ++ saysP 48 b.bk b.bn) [109] (by simp; omega)
        simp only [e3, e5, a2, a3, resVal, resVals, ARes.val, SX, Opd.ev, resVal, resVals, ARes.val, Bool.false_eq_true, Bool.not_false, Bool.not_true, List.getD_cons_succ, List.getD_cons_zero, List.map_cons, List.map_nil, Nat.add_zero, Nat.zero_add, Option.map_none, Option.map_some, Option.some.injEq, and_true, decide_false, decide_true, true_and, reduceCtorEq, Nat.reduceEqDiff, ↓reduceIte, Int.reduceEq, Int.reduceLT, Int.reduceLE, Nat.reduceAdd]
        exact ⟨by unfold betP; rw [if_neg (fun h => h.elim hab (fun h => by rw [hr] at h; cases h))], ((g2.trans g3).trans g4).trans g5⟩
end
end Go.Proofs.YtcfjjeipdacbcaaDoor.AM
