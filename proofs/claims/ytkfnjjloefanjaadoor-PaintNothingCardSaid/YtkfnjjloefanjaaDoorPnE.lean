/-
  strings.Join as an answer that looks at memory; numerals; how a color is said; what leads from one attribute to another, with a bound of its length; walked on the abstract machine.
-/
import Derived.Test.YtkfnjjloefanjaaDoorPnC
import Derived.Test.YtkfnjjloefanjaaDoorShelf
import Derived.Lib.ItoaNum
set_option linter.unusedVariables false
set_option linter.unusedSimpArgs false
namespace Go.Proofs.YtkfnjjloefanjaaDoor.AM
open Go
section
open Go.RowKit
def strsOf : List AV → Option (List (List UInt8))
  | [] => some []
  | .str s :: r => (match strsOf r with | some l => some (s :: l) | none => none)
  | _ :: _ => none
def joinO (args : List AV) (H : AHeap) : Option AV :=
  match args with
  | [.slc b o len cap, .str sep] =>
    (match H.row b with
    | some B =>
      (match cut B.cells o len with
      | some cs =>
        (match strsOf cs with
        | some ls => if 0 < len ∧ len ≤ 100000 ∧ (Lib.join ls sep).length ≤ 100000 then some (.str (Lib.join ls sep)) else none
        | none => none)
      | none => none)
    | none => none)
  | _ => none
theorem strsOf_get : ∀ {cs : List AV} {ls : List (List UInt8)}, strsOf cs = some ls → ls.length = cs.length ∧ ∀ (j : Nat) l, ls[j]? = some l → cs[j]? = some (.str l)
  | [], ls, h => by obtain rfl := Option.some.inj h; exact ⟨rfl, fun j l h => by simp at h⟩
  | .str s :: r, ls, h => by
    unfold strsOf at h
    split at h
    · rename_i l' hl
      obtain rfl := Option.some.inj h
      obtain ⟨h1, h2⟩ := strsOf_get hl
      refine ⟨by simp [h1], fun j l hj => ?_⟩
      cases j with
      | zero => simp at hj; subst hj; rfl
      | succ j => simp at hj; simpa using h2 j l hj
    · cases h
  | .bool _ :: r, ls, h => by cases h
  | .int _ _ :: r, ls, h => by cases h
  | .nilp :: r, ls, h => by cases h
  | .ptr _ _ :: r, ls, h => by cases h
  | .nils :: r, ls, h => by cases h
  | .slc _ _ _ _ :: r, ls, h => by cases h
  | .nilm :: r, ls, h => by cases h
  | .map _ :: r, ls, h => by cases h
  | .nilFn :: r, ls, h => by cases h
  | .fn _ _ _ :: r, ls, h => by cases h
  | .yld _ :: r, ls, h => by cases h
  | .nilIface :: r, ls, h => by cases h
  | .iface _ _ :: r, ls, h => by cases h
  | .agg _ :: r, ls, h => by cases h
  | .tup _ :: r, ls, h => by cases h
theorem joinO_ok {gl : List Nat} (args : List AV) (H : AHeap) (v : AV) (h : joinO args H = some v) : OrhOK Tryd.prog gl 56 args H v := by
  unfold joinO at h
  split at h
  · rename_i b o len cap sep
    split at h
    · rename_i B hB
      split at h
      · rename_i cs hcs
        split at h
        · rename_i ls hls
          split at h
          · rename_i hb
            obtain ⟨hb0, hb1, hb2⟩ := hb
            injection h with h; subst h
            refine ⟨⟨_, Tryd.func56, by kernel_rfl, by kernel_rfl⟩, fun base m W cargs hsr hl => ?_⟩
            obtain ⟨c1, z1, h1, hv1, hz1⟩ := hl.cons_inv
            obtain ⟨c2, z2, rfl, hv2, hz2⟩ := hz1.cons_inv
            rw [hz2.nil_inv] at h1
            obtain ⟨sb, rfl, rfl⟩ := str_inv hv2
            obtain ⟨q1, q2, q3⟩ := cut_some hcs
            obtain ⟨s1, s2⟩ := strsOf_get hls
            obtain ⟨g1, g2⟩ := row_inv hB
            cases hv1 with
            | slc hm hle hc ha =>
              rename_i cap' a L
              have hcap : cap ≤ cap' := by rcases hc with rfl | ⟨hc, _⟩ <;> omega
              obtain rfl := ha (by omega)
              obtain rfl : cargs = #[.slice (some ⟨L.blk, L.off + o, none⟩) len cap', .string sb] := Array.ext' h1
              have hx : (ls.map fun l => (⟨l.toArray⟩ : ByteArray)).map (·.data.toList) = ls := by simp [Function.comp_def]
              have hn : (ls.map fun l => (⟨l.toArray⟩ : ByteArray)).length = len := by simp [s1, q2]
              have hcell : ∀ (j : Nat) x, (ls.map fun l => (⟨l.toArray⟩ : ByteArray))[j]? = some x → W.cell? ⟨L.blk, L.off + o + j, none⟩ = some (.string x) := by
                intro j x hj
                rw [List.getElem?_map] at hj
                cases hlj : ls[j]? with
                | none => rw [hlj] at hj; cases hj
                | some l =>
                  rw [hlj] at hj
                  obtain rfl := Option.some.inj hj
                  have e1 := s2 j l hlj
                  have hj2 : j < len := by rw [← q2]; exact (List.getElem?_eq_some_iff.1 e1).1
                  rw [q3 j hj2] at e1
                  obtain ⟨c, k1, k2⟩ := hsr.cell b L B hm g1 g2 _ _ e1
                  obtain ⟨sb', rfl, he⟩ := str_inv k2
                  subst he
                  rw [Nat.add_assoc, k1]
              have hbk : L.blk < W.heap.size := by
                obtain ⟨x, hx0⟩ : ∃ x, (ls.map fun l => (⟨l.toArray⟩ : ByteArray))[0]? = some x := ⟨_, List.getElem?_eq_getElem (by omega)⟩
                exact World.block_lt_of_cell? _ _ (hcell 0 x hx0)
              have hc := Tryd.strings_Join L.blk (L.off + o) cap' (ls.map fun l => ⟨l.toArray⟩) sb W hcell hbk (by omega) (by omega) (by rw [hx]; omega)
              rw [hn, hx] at hc
              refine hc.mono fun q W' hq => ?_
              obtain ⟨rfl, hw⟩ := hq
              exact ⟨_, rfl, VR.str (m := noInj) ⟨(Lib.join ls sb.data.toList).toArray⟩, hw⟩
          · cases h
        · cases h
      · cases h
    · cases h
  · cases h
end
def bs6V (a b c d e f : AV) : Option (AObj × AKind) := LOp.run .nil (.bslice 1 6 [.str []] [(0, .c a), (1, .c b), (2, .c c), (3, .c d), (4, .c e), (5, .c f)])
theorem run_bs6 (e : Env) (a b c d x f : Opd) : LOp.run e (.bslice 1 6 [.str []] [(0, a), (1, b), (2, c), (3, d), (4, x), (5, f)]) = bs6V (a.ev e) (b.ev e) (c.ev e) (d.ev e) (x.ev e) (f.ev e) := rfl
theorem bs6_ok (a b c d e f : List UInt8) : bs6V (.str a) (.str b) (.str c) (.str d) (.str e) (.str f) = some (.row ⟨[.str a, .str b, .str c, .str d, .str e, .str f], 0, false, true, 0⟩, .slc 6 6) := rfl
theorem wrapU32k {x : Int} (h0 : 0 ≤ x) (h1 : x ≤ 4294967295) : IntKind.wrap .u32 x = x := by
  simp [IntKind.wrap, IntKind.signed, IntKind.bits]
  omega
def andV (k : IntKind) (a b : Int) : Int := IntKind.wrap k (((BitVec.ofInt k.bits a &&& BitVec.ofInt k.bits b).toNat : Nat) : Int)
theorem bin_andV (k : IntKind) (a b : Int) : binV .and (.int k a) (.int k b) = some (.int k (andV k a b)) := by simp [binV, intBin, andV]
def shrV (k : IntKind) (a : Int) (i : Nat) : Int := a.fdiv (2 ^ (min i k.bits))
theorem bin_shrV (k k' : IntKind) (a : Int) (i : Nat) : binV .shr (.int k a) (.int k' (i : Int)) = some (.int k (shrV k a i)) := by
  simp only [binV, shiftBin, shrV, Int.toNat_natCast]
  rw [if_neg (by omega)]
abbrev D (n : Nat) : List UInt8 := Lib.decDigits n
theorem D1 {n : Nat} (h : n < 10) : D n = [UInt8.ofNat (48 + n)] := Lib.decDigits_one h
theorem Dq {n : Nat} (h : ¬ n < 10) : D n = D (n / 10) ++ D (n % 10) := by
  rw [D1 (n := n % 10) (by omega)]
  show Lib.decDigits n = _
  rw [Lib.decDigits, dif_neg h]
def dec3 (n : Nat) : List UInt8 := if n < 10 then [UInt8.ofNat (48 + n)] else if n < 100 then [UInt8.ofNat (48 + n / 10), UInt8.ofNat (48 + n % 10)] else [UInt8.ofNat (48 + n / 100), UInt8.ofNat (48 + n / 10 % 10), UInt8.ofNat (48 + n % 10)]
theorem dec3_eq {n : Nat} (h : n < 1000) : D n = dec3 n := by
  unfold dec3
  by_cases h1 : n < 10
  · rw [if_pos h1, D1 h1]
  · rw [if_neg h1, Dq h1, D1 (n := n % 10) (by omega)]
    by_cases h2 : n < 100
    · rw [if_pos h2, D1 (by omega)]; rfl
    · rw [if_neg h2, Dq (by omega), D1 (n := n / 10 / 10) (by omega), D1 (n := n / 10 % 10) (by omega), Nat.div_div_eq_div_mul]; rfl
theorem D_len {n : Nat} (h : n < 1000) : (D n).length ≤ 3 := by
  rw [dec3_eq h]; unfold dec3
  (repeat' split) <;> simp
def saysP (c : Nat) (k n : Int) : List UInt8 := if k = 1 then 59 :: (D c ++ ([58, 53, 58] ++ D n.toNat)) else if k = 2 then 59 :: (D c ++ ([58, 50, 58, 58] ++ (D (n.toNat / 65536) ++ (58 :: (D (n.toNat / 256 % 256) ++ (58 :: D (n.toNat % 256))))))) else []
def joinF (a b c d : List UInt8) : List UInt8 := Lib.join [a, [50], [], b, c, d] [58]
theorem joinF_eq (a b c d : List UInt8) : joinF a b c d = a ++ ([58, 50, 58, 58] ++ (b ++ (58 :: (c ++ (58 :: d))))) := by
  simp [joinF, Lib.join, List.intercalate, List.intersperse]
theorem joinO_six {base : Nat} {H : AHeap} {l : List Cel} {b : Nat} {a x y z : List UInt8} (h : Hp base H (⟨b, 1, [.str a, .str [50], .str [], .str x, .str y, .str z]⟩ :: l)) (hl : a.length + x.length + y.length + z.length ≤ 1000) : joinO [.slc b 0 6 6, .str [58]] H = some (.str (joinF a x y z)) := by
  obtain ⟨B, r, hc⟩ := h.rowOf (List.mem_cons_self ..)
  have hc6 : AM.cut [AV.str a, .str [50], .str [], .str x, .str y, .str z] 0 6 = some [AV.str a, .str [50], .str [], .str x, .str y, .str z] := rfl
  have hs : strsOf [AV.str a, .str [50], .str [], .str x, .str y, .str z] = some [a, [50], [], x, y, z] := rfl
  have hlen : (Lib.join [a, [50], [], x, y, z] [58]).length ≤ 100000 := by
    show (joinF a x y z).length ≤ 100000
    rw [joinF_eq]; simp; omega
  simp only [joinO, r, hc, hc6, hs]
  rw [if_pos ⟨by omega, by omega, hlen⟩]
  rfl
theorem and255 {a : Int} (h0 : 0 ≤ a) (h1 : a < 4294967296) : andV .u32 a 255 = ((a.toNat % 256 : Nat) : Int) := by
  unfold andV
  have : (BitVec.ofInt IntKind.u32.bits a &&& BitVec.ofInt IntKind.u32.bits 255).toNat = a.toNat % 256 := by
    rw [BitVec.toNat_and]
    have e1 : (BitVec.ofInt IntKind.u32.bits a).toNat = a.toNat := by
      rw [BitVec.toNat_ofInt]
      show (a % ((2 ^ 32 : Nat) : Int)).toNat = a.toNat
      rw [Int.emod_eq_of_lt h0 (by omega)]
    have e2 : (BitVec.ofInt IntKind.u32.bits 255).toNat = 2 ^ 8 - 1 := rfl
    rw [e1, e2, Nat.and_two_pow_sub_one_eq_mod]
  rw [this, wrapU32k (by omega) (by omega)]
theorem shr16 {a : Int} (h0 : 0 ≤ a) : shrV .u32 a 16 = ((a.toNat / 65536 : Nat) : Int) := by
  unfold shrV
  show a.fdiv 65536 = _
  rw [Int.fdiv_eq_ediv_of_nonneg _ (by omega)]; omega
theorem shr8' {a : Int} (h0 : 0 ≤ a) : shrV .u32 a 8 = ((a.toNat / 256 : Nat) : Int) := by
  unfold shrV
  show a.fdiv 256 = _
  rw [Int.fdiv_eq_ediv_of_nonneg _ (by omega)]; omega
/-- what the walks of the bytes lean on -/
structure PeQ (Q : Prog) : Prop where
  cq : PcQ Q
  q50 : Q.fns 50 = some A50
  q53 : Q.fns 53 = some A53
  q56 : Q.fns 56 = none
  o56 : ∀ args H, Q.orh 56 args H = joinO args H
  it : ∀ n : Nat, n < 401 → Q.orc 46 [.int .i64 n] = some (.str (D n))
  tb : Q.tabs = TT
section
variable {Q : Prog} (bq : PeQ Q) {H : AHeap}
include bq
theorem itoa_spec {n : Nat} (hn : n < 401) (ht : hasTabs H TT = true) : FnTo Q 46 [.int .i64 n] H (fun r H' => r = .str (D n) ∧ H' = H) :=
  fn_orc (bq.it n hn) (by rw [bq.tb]; exact ht) ⟨rfl, rfl⟩
set_option maxHeartbeats 4000000 in
theorem says_spec {c : Nat} (hc : c = 38 ∨ c = 48) {k n : Int} (hn : 0 ≤ n) (hk : colP k n = true) (hf : Fr H) (ht : hasTabs H TT = true) : FnTo Q 53 [.int .i64 c, .agg [.int .u8 k, .int .u32 n]] H (fun r H' => r = .str (saysP c k n) ∧ Gr H H') := by
  refine fn_wp (bq.cq.nq.pq.ho 53 rfl _) bq.q53 (by simp [A53]) ?_
  have hc256 : c < 401 := by omega
  have lc := D_len (n := c) (by omega)
  obtain ⟨H1, s1, h1, k1⟩ := (Hp.nil H hf).make [.int .u8 k, .int .u32 n] 2
  have g1 := h1.gr k1
  have ht1 := g1.tabs hf ht
  have l0 := h1.load (List.mem_cons_self ..) (o := 0) (v := .int .u8 k) rfl
  have l1 := h1.load (List.mem_cons_self ..) (o := 1) (v := .int .u32 n) rfl
  have bx : boxV (.agg [.int .u8 k, .int .u32 n]) = some (.row ⟨[.int .u8 k, .int .u32 n], 0, false, true, 0⟩, .ptr) := rfl
  simp only [colP, Bool.or_eq_true, Bool.and_eq_true, decide_eq_true_eq] at hk
  by_cases c1 : k = 1
  · have d1 : decide (k = 1) = true := decide_eq_true c1
    obtain ⟨m, rfl⟩ : ∃ m : Nat, n = m := ⟨n.toNat, by omega⟩
    have hm : m < 401 := by omega
    have w1 : IntKind.wrap .i64 (m : Int) = m := wrapI64 (by omega) (by omega)
    have lm := D_len (n := m) (by omega)
    simp only [A53, run_allocL, run_box, bx, s1, l0, l1, d1, w1, SX, Opd.ev, resVal, resVals, ARes.val, Bool.false_eq_true, Bool.not_false, Bool.not_true, List.getD_cons_succ, List.getD_cons_zero, List.map_cons, List.map_nil, Nat.add_zero, Nat.zero_add, Option.map_none, Option.map_some, Option.some.injEq, and_true, decide_false, decide_true, true_and, reduceCtorEq, Nat.reduceEqDiff, ↓reduceIte, Int.reduceEq, Int.reduceLT, Int.reduceLE, Nat.reduceAdd]
    refine (itoa_spec bq hc256 ht1).mono ?_
    rintro _ H2 ⟨rfl, hx⟩
    subst hx
    have a1 := bin_adds [59] (D c) (by simp; omega)
    have a2 := bin_adds ([59] ++ D c) [58, 53, 58] (by simp; omega)
    refine ⟨by simp only [echoOk, l1, SX, Opd.ev, resVal, resVals, ARes.val, Bool.false_eq_true, Bool.not_false, Bool.not_true, List.getD_cons_succ, List.getD_cons_zero, List.map_cons, List.map_nil, Nat.add_zero, Nat.zero_add, Option.map_none, Option.map_some, Option.some.injEq, and_true, decide_false, decide_true, true_and, reduceCtorEq, Nat.reduceEqDiff, ↓reduceIte, Int.reduceEq, Int.reduceLT, Int.reduceLE, Nat.reduceAdd]; simp [AV.same, AV.same1], ?_⟩
    simp only [a1, a2, SX, Opd.ev, resVal, resVals, ARes.val, Bool.false_eq_true, Bool.not_false, Bool.not_true, List.getD_cons_succ, List.getD_cons_zero, List.map_cons, List.map_nil, Nat.add_zero, Nat.zero_add, Option.map_none, Option.map_some, Option.some.injEq, and_true, decide_false, decide_true, true_and, reduceCtorEq, Nat.reduceEqDiff, ↓reduceIte, Int.reduceEq, Int.reduceLT, Int.reduceLE, Nat.reduceAdd]
    refine (itoa_spec bq hm ht1).mono ?_
    rintro _ H3 ⟨rfl, hx⟩
    subst hx
    have a3 := bin_adds ([59] ++ D c ++ [58, 53, 58]) (D m) (by simp; omega)
    simp only [a3, SX, Opd.ev, resVal, resVals, ARes.val, Bool.false_eq_true, Bool.not_false, Bool.not_true, List.getD_cons_succ, List.getD_cons_zero, List.map_cons, List.map_nil, Nat.add_zero, Nat.zero_add, Option.map_none, Option.map_some, Option.some.injEq, and_true, decide_false, decide_true, true_and, reduceCtorEq, Nat.reduceEqDiff, ↓reduceIte, Int.reduceEq, Int.reduceLT, Int.reduceLE, Nat.reduceAdd]
    refine ⟨?_, g1⟩
    unfold saysP
    rw [if_pos c1]; simp
  have d1 : decide (k = 1) = false := decide_eq_false c1
  by_cases c2 : k = 2
  · have d2 : decide (k = 2) = true := decide_eq_true c2
    obtain ⟨m, rfl⟩ : ∃ m : Nat, n = m := ⟨n.toNat, by omega⟩
    have hm : m < 16777216 := by omega
    have r1 : binV .shr (.int .u32 (m : Int)) (.int .u64 16) = some (.int .u32 ((m / 65536 : Nat) : Int)) := by
      rw [show (16 : Int) = ((16 : Nat) : Int) from rfl, bin_shrV, shr16 (by omega)]; rfl
    have r2 : binV .shr (.int .u32 (m : Int)) (.int .u64 8) = some (.int .u32 ((m / 256 : Nat) : Int)) := by
      rw [show (8 : Int) = ((8 : Nat) : Int) from rfl, bin_shrV, shr8' (by omega)]; rfl
    have r3 : binV .and (.int .u32 ((m / 256 : Nat) : Int)) (.int .u32 255) = some (.int .u32 ((m / 256 % 256 : Nat) : Int)) := by
      rw [bin_andV, and255 (by omega) (by omega)]; rfl
    have r4 : binV .and (.int .u32 (m : Int)) (.int .u32 255) = some (.int .u32 ((m % 256 : Nat) : Int)) := by
      rw [bin_andV, and255 (by omega) (by omega)]; rfl
    have w1 : IntKind.wrap .i64 ((m / 65536 : Nat) : Int) = ((m / 65536 : Nat) : Int) := wrapI64 (by omega) (by omega)
    have w2 : IntKind.wrap .i64 ((m / 256 % 256 : Nat) : Int) = ((m / 256 % 256 : Nat) : Int) := wrapI64 (by omega) (by omega)
    have w3 : IntKind.wrap .i64 ((m % 256 : Nat) : Int) = ((m % 256 : Nat) : Int) := wrapI64 (by omega) (by omega)
    have e1 := D_len (n := m / 65536) (by omega)
    have e2 := D_len (n := m / 256 % 256) (by omega)
    have e3 := D_len (n := m % 256) (by omega)
    simp only [A53, run_allocL, run_box, bx, s1, l0, l1, d1, d2, r1, r2, r3, r4, w1, w2, w3, SX, Opd.ev, resVal, resVals, ARes.val, Bool.false_eq_true, Bool.not_false, Bool.not_true, List.getD_cons_succ, List.getD_cons_zero, List.map_cons, List.map_nil, Nat.add_zero, Nat.zero_add, Option.map_none, Option.map_some, Option.some.injEq, and_true, decide_false, decide_true, true_and, reduceCtorEq, Nat.reduceEqDiff, ↓reduceIte, Int.reduceEq, Int.reduceLT, Int.reduceLE, Nat.reduceAdd]
    refine (itoa_spec bq hc256 ht1).mono ?_
    rintro _ H2 ⟨rfl, hx⟩
    subst hx
    have ec : AV.same (.int .u32 (m : Int)) (.int .u32 (m : Int)) = true := by simp [AV.same, AV.same1]
    refine ⟨by simp only [echoOk, l1, ec, Bool.and_self, SX, Opd.ev, resVal, resVals, ARes.val, Bool.false_eq_true, Bool.not_false, Bool.not_true, List.getD_cons_succ, List.getD_cons_zero, List.map_cons, List.map_nil, Nat.add_zero, Nat.zero_add, Option.map_none, Option.map_some, Option.some.injEq, and_true, decide_false, decide_true, true_and, reduceCtorEq, Nat.reduceEqDiff, ↓reduceIte, Int.reduceEq, Int.reduceLT, Int.reduceLE, Nat.reduceAdd], ?_⟩
    simp only [SX, Opd.ev, resVal, resVals, ARes.val, Bool.false_eq_true, Bool.not_false, Bool.not_true, List.getD_cons_succ, List.getD_cons_zero, List.map_cons, List.map_nil, Nat.add_zero, Nat.zero_add, Option.map_none, Option.map_some, Option.some.injEq, and_true, decide_false, decide_true, true_and, reduceCtorEq, Nat.reduceEqDiff, ↓reduceIte, Int.reduceEq, Int.reduceLT, Int.reduceLE, Nat.reduceAdd]
    refine (itoa_spec bq (n := m / 65536) (by omega) ht1).mono ?_
    rintro _ H2 ⟨rfl, hx⟩
    subst hx
    refine ⟨by simp only [echoOk, l1, ec, Bool.and_self, SX, Opd.ev, resVal, resVals, ARes.val, Bool.false_eq_true, Bool.not_false, Bool.not_true, List.getD_cons_succ, List.getD_cons_zero, List.map_cons, List.map_nil, Nat.add_zero, Nat.zero_add, Option.map_none, Option.map_some, Option.some.injEq, and_true, decide_false, decide_true, true_and, reduceCtorEq, Nat.reduceEqDiff, ↓reduceIte, Int.reduceEq, Int.reduceLT, Int.reduceLE, Nat.reduceAdd], ?_⟩
    simp only [SX, Opd.ev, resVal, resVals, ARes.val, Bool.false_eq_true, Bool.not_false, Bool.not_true, List.getD_cons_succ, List.getD_cons_zero, List.map_cons, List.map_nil, Nat.add_zero, Nat.zero_add, Option.map_none, Option.map_some, Option.some.injEq, and_true, decide_false, decide_true, true_and, reduceCtorEq, Nat.reduceEqDiff, ↓reduceIte, Int.reduceEq, Int.reduceLT, Int.reduceLE, Nat.reduceAdd]
    refine (itoa_spec bq (n := m / 256 % 256) (by omega) ht1).mono ?_
    rintro _ H2 ⟨rfl, hx⟩
    subst hx
    refine ⟨by simp only [echoOk, l1, ec, Bool.and_self, SX, Opd.ev, resVal, resVals, ARes.val, Bool.false_eq_true, Bool.not_false, Bool.not_true, List.getD_cons_succ, List.getD_cons_zero, List.map_cons, List.map_nil, Nat.add_zero, Nat.zero_add, Option.map_none, Option.map_some, Option.some.injEq, and_true, decide_false, decide_true, true_and, reduceCtorEq, Nat.reduceEqDiff, ↓reduceIte, Int.reduceEq, Int.reduceLT, Int.reduceLE, Nat.reduceAdd], ?_⟩
    simp only [SX, Opd.ev, resVal, resVals, ARes.val, Bool.false_eq_true, Bool.not_false, Bool.not_true, List.getD_cons_succ, List.getD_cons_zero, List.map_cons, List.map_nil, Nat.add_zero, Nat.zero_add, Option.map_none, Option.map_some, Option.some.injEq, and_true, decide_false, decide_true, true_and, reduceCtorEq, Nat.reduceEqDiff, ↓reduceIte, Int.reduceEq, Int.reduceLT, Int.reduceLE, Nat.reduceAdd]
    refine (itoa_spec bq (n := m % 256) (by omega) ht1).mono ?_
    rintro _ H2 ⟨rfl, hx⟩
    subst hx
    obtain ⟨H3, s3, h3, k3⟩ := h1.make [.str (D c), .str [50], .str [], .str (D (m / 65536)), .str (D (m / 256 % 256)), .str (D (m % 256))] 1
    have jo := joinO_six h3 (by omega)
    simp only [run_bs6, bs6_ok, s3, SX, Opd.ev, resVal, resVals, ARes.val, Bool.false_eq_true, Bool.not_false, Bool.not_true, List.getD_cons_succ, List.getD_cons_zero, List.map_cons, List.map_nil, Nat.add_zero, Nat.zero_add, Option.map_none, Option.map_some, Option.some.injEq, and_true, decide_false, decide_true, true_and, reduceCtorEq, Nat.reduceEqDiff, ↓reduceIte, Int.reduceEq, Int.reduceLT, Int.reduceLE, Nat.reduceAdd]
    refine fn_orh (bq.cq.nq.pq.ho 56 rfl _) bq.q56 (by rw [bq.o56]; exact jo) ?_
    have a1 := bin_adds [59] (joinF (D c) (D (m / 65536)) (D (m / 256 % 256)) (D (m % 256))) (by rw [joinF_eq]; simp; omega)
    simp only [a1, SX, Opd.ev, resVal, resVals, ARes.val, Bool.false_eq_true, Bool.not_false, Bool.not_true, List.getD_cons_succ, List.getD_cons_zero, List.map_cons, List.map_nil, Nat.add_zero, Nat.zero_add, Option.map_none, Option.map_some, Option.some.injEq, and_true, decide_false, decide_true, true_and, reduceCtorEq, Nat.reduceEqDiff, ↓reduceIte, Int.reduceEq, Int.reduceLT, Int.reduceLE, Nat.reduceAdd]
    refine ⟨?_, h3.gr (k1.trans k3)⟩
    unfold saysP
    rw [if_neg c1, if_pos c2, joinF_eq]; simp
  have d2 : decide (k = 2) = false := decide_eq_false c2
  simp only [A53, run_allocL, run_box, bx, s1, l0, l1, d1, d2, SX, Opd.ev, resVal, resVals, ARes.val, Bool.false_eq_true, Bool.not_false, Bool.not_true, List.getD_cons_succ, List.getD_cons_zero, List.map_cons, List.map_nil, Nat.add_zero, Nat.zero_add, Option.map_none, Option.map_some, Option.some.injEq, and_true, decide_false, decide_true, true_and, reduceCtorEq, Nat.reduceEqDiff, ↓reduceIte, Int.reduceEq, Int.reduceLT, Int.reduceLE, Nat.reduceAdd]
  refine ⟨?_, g1⟩
  unfold saysP
  rw [if_neg c1, if_neg c2]
end
theorem saysP_len {c : Nat} (hc : c = 38 ∨ c = 48) {k n : Int} (hn : 0 ≤ n) (hk : colP k n = true) : (saysP c k n).length ≤ 40 := by
  have lc := D_len (n := c) (by omega)
  simp only [colP, Bool.or_eq_true, Bool.and_eq_true, decide_eq_true_eq] at hk
  unfold saysP
  split
  · have := D_len (n := n.toNat) (by omega)
    simp; omega
  · split
    · have e1 := D_len (n := n.toNat / 65536) (by omega)
      have e2 := D_len (n := n.toNat / 256 % 256) (by omega)
      have e3 := D_len (n := n.toNat % 256) (by omega)
      simp; omega
    · simp
theorem row_tab1 {H : AHeap} (h : hasTabs H TT = true) : loadV H (some 8) (.ptr 1 0) = some (.agg (zflags.map (.int .i64))) := by
  have h1 := List.all_eq_true.1 h ⟨1, .i64, zflags⟩ (by simp [TT])
  split at h1
  · rename_i B hB
    simp only [Bool.and_eq_true] at h1
    have hc := sameL_eq1 h1.2
    have hr : H.row 1 = some B := by simp only [AHeap.row, hB, h1.1, if_true]
    simp only [loadV, ROp.run, Opd.ev, hr, hc]
    rfl
  · cases h1
theorem idx_tab {i : Nat} {k : Int} (h : zflags[i]? = some k) : idxArrV 8 1 none (.agg (zflags.map (.int .i64))) (.int .i64 (i : Int)) = some (.int .i64 k) := by
  have hi := (List.getElem?_eq_some_iff.1 h).1
  have h8 : zflags.length = 8 := rfl
  simp only [idxArrV, ROp.run, Opd.ev, inIndex, if_pos (show 0 ≤ (i : Int) ∧ (i : Int) < ((8 : Nat) : Int) by omega), Int.toNat_natCast, Nat.mul_one, sub, List.getElem?_map, h, Option.map_some]
theorem seq5f (c d : Ce) : seqV [1, 1, 1, 1, 1] false (.agg c.at) (.agg d.at) = some (.bool (decide (sameA c d))) := by
  simp only [seqV, ROp.run, Opd.ev, Ce.at, List.length_cons, List.length_nil, Nat.zero_add, Nat.reduceAdd, and_self, if_true, cellsEq, sameA]
  by_cases h1 : c.f = d.f <;> by_cases h2 : c.k1 = d.k1 <;> by_cases h3 : c.n1 = d.n1 <;> by_cases h4 : c.k2 = d.k2 <;> by_cases h5 : c.n2 = d.n2 <;> simp [h1, h2, h3, h4, h5]
section
variable {Q : Prog} (bq : PeQ Q) {H : AHeap}
include bq
set_option maxHeartbeats 16000000 in
theorem between_spec {c d : Ce} (hn1 : 0 ≤ d.n1) (hn2 : 0 ≤ d.n2) (hf : Fr H) (ht : hasTabs H TT = true) : FnTo Q 50 [.agg c.at, .agg d.at] H (fun r H' => (∃ s, r = .str s ∧ s.length ≤ 200) ∧ Gr H H') := by
  refine fn_wp (bq.cq.nq.pq.ho 50 rfl _) bq.q50 (by simp [A50]) ?_
  obtain ⟨H1, s1, h1, k1⟩ := (Hp.nil H hf).make c.at 5
  obtain ⟨H2, s2, h2, k2⟩ := h1.make d.at 5
  have g2 : Gr H H2 := h2.gr (k1.trans k2)
  have ht2 := g2.tabs hf ht
  obtain ⟨p, hp⟩ : ∃ p, H.next = p := ⟨_, rfl⟩
  obtain ⟨q, hq⟩ : ∃ q, H1.next = q := ⟨_, rfl⟩
  rw [hp, hq] at h2
  have la := h2.loadN (b := p) (k := 5) (cs := c.at) (by simp) (n := 5) rfl
  have lb := h2.loadN (b := q) (k := 5) (cs := d.at) (by simp) (n := 5) rfl
  have bc : c.at.all AV.one = true := rfl
  have bd : d.at.all AV.one = true := rfl
  by_cases hab : sameA c d
  · simp only [A50, boxV_agg bc, boxV_agg bd, s1, s2, hp, hq, la, lb, seq5f, decide_eq_true hab, wantV_undef, SX, Opd.ev, resVal, resVals, ARes.val, Bool.false_eq_true, Bool.not_false, Bool.not_true, List.getD_cons_succ, List.getD_cons_zero, List.map_cons, List.map_nil, Nat.add_zero, Nat.zero_add, Option.map_none, Option.map_some, Option.some.injEq, and_true, decide_false, decide_true, true_and, reduceCtorEq, Nat.reduceEqDiff, ↓reduceIte, Int.reduceEq, Int.reduceLT, Int.reduceLE, Nat.reduceAdd]
    exact ⟨by simp, g2⟩
  simp only [A50, boxV_agg bc, boxV_agg bd, s1, s2, hp, hq, la, lb, seq5f, decide_eq_false hab, wantV_undef, SX, Opd.ev, resVal, resVals, ARes.val, Bool.false_eq_true, Bool.not_false, Bool.not_true, List.getD_cons_succ, List.getD_cons_zero, List.map_cons, List.map_nil, Nat.add_zero, Nat.zero_add, Option.map_none, Option.map_some, Option.some.injEq, and_true, decide_false, decide_true, true_and, reduceCtorEq, Nat.reduceEqDiff, ↓reduceIte, Int.reduceEq, Int.reduceLT, Int.reduceLE, Nat.reduceAdd]
  refine (attr_spec bq.cq.nq.pq g2.fr d).mono ?_
  rintro _ H3 ⟨rfl, g3⟩
  cases hr : attrP d with
  | false =>
    simp only [wantV_undef, SX, Opd.ev, resVal, resVals, ARes.val, Bool.false_eq_true, Bool.not_false, Bool.not_true, List.getD_cons_succ, List.getD_cons_zero, List.map_cons, List.map_nil, Nat.add_zero, Nat.zero_add, Option.map_none, Option.map_some, Option.some.injEq, and_true, decide_false, decide_true, true_and, reduceCtorEq, Nat.reduceEqDiff, ↓reduceIte, Int.reduceEq, Int.reduceLT, Int.reduceLE, Nat.reduceAdd]
    exact ⟨by simp, g2.trans g3⟩
  | true =>
    have hr' := hr
    simp only [attrP, Bool.and_eq_true, decide_eq_true_eq] at hr'
    obtain ⟨⟨hr1, hr2⟩, hr3⟩ := hr'
    have ht3 := g3.tabs g2.fr ht2
    have rt := row_tab1 ht3
    have h3 := h2.of_gr g3
    have lf : loadV H3 none (.ptr q 0) = some (.int .u16 d.f) := h3.load (b := q) (k := 5) (cs := d.at) (by simp) (o := 0) rfl
    have l1 : loadV H3 (some 2) (.ptr q 1) = some (.agg [.int .u8 d.k1, .int .u32 d.n1]) := h3.loadO (b := q) (a := [.int .u16 d.f]) (x := [.int .u8 d.k1, .int .u32 d.n1]) (c := [.int .u8 d.k2, .int .u32 d.n2]) (k := 5) (by simp [Ce.at]) rfl rfl
    have l3 : ∀ {H'}, Gr H3 H' → loadV H' (some 2) (.ptr q 3) = some (.agg [.int .u8 d.k2, .int .u32 d.n2]) := fun {H'} g => (h3.of_gr g).loadO (b := q) (a := [.int .u16 d.f, .int .u8 d.k1, .int .u32 d.n1]) (x := [.int .u8 d.k2, .int .u32 d.n2]) (c := []) (k := 5) (by simp [Ce.at]) rfl rfl
    have l30 := l3 (Gr.refl g3.fr)
    simp only [rt, wantV_undef, SX, Opd.ev, resVal, resVals, ARes.val, Bool.false_eq_true, Bool.not_false, Bool.not_true, List.getD_cons_succ, List.getD_cons_zero, List.map_cons, List.map_nil, Nat.add_zero, Nat.zero_add, Option.map_none, Option.map_some, Option.some.injEq, and_true, decide_false, decide_true, true_and, reduceCtorEq, Nat.reduceEqDiff, ↓reduceIte, Int.reduceEq, Int.reduceLT, Int.reduceLE, Nat.reduceAdd]
    obtain ⟨I, hI⟩ : ∃ I : Nat → Env → AHeap → Prop, ∀ m e H', I m e H' ↔ (H' = H3 ∧ ∃ (i : Nat) (s : List UInt8), m = 8 - i ∧ i ≤ 8 ∧ s.length ≤ 3 + 4 * i ∧ Env.get e 3 = .ptr q 0 ∧ Env.get e 5 = .str s ∧ Env.get e 16 = .agg (zflags.map (.int .i64)) ∧ Env.get e 17 = .int .i64 i) := ⟨_, fun _ _ _ => Iff.rfl⟩
    refine loop_by I 8 ?_ ?_
    · exact (hI _ _ _).2 ⟨rfl, 0, [27, 91, 48], rfl, by omega, by simp, (by first | (simp only [SX, Opd.ev, resVal, resVals, ARes.val, Bool.false_eq_true, Bool.not_false, Bool.not_true, List.getD_cons_succ, List.getD_cons_zero, List.map_cons, List.map_nil, Nat.add_zero, Nat.zero_add, Option.map_none, Option.map_some, Option.some.injEq, and_true, decide_false, decide_true, true_and, reduceCtorEq, Nat.reduceEqDiff, ↓reduceIte, Int.reduceEq, Int.reduceLT, Int.reduceLE, Nat.reduceAdd]; done) | (simp only [SX, Opd.ev, resVal, resVals, ARes.val, Bool.false_eq_true, Bool.not_false, Bool.not_true, List.getD_cons_succ, List.getD_cons_zero, List.map_cons, List.map_nil, Nat.add_zero, Nat.zero_add, Option.map_none, Option.map_some, Option.some.injEq, and_true, decide_false, decide_true, true_and, reduceCtorEq, Nat.reduceEqDiff, ↓reduceIte, Int.reduceEq, Int.reduceLT, Int.reduceLE, Nat.reduceAdd]; rfl) | rfl), (by first | (simp only [SX, Opd.ev, resVal, resVals, ARes.val, Bool.false_eq_true, Bool.not_false, Bool.not_true, List.getD_cons_succ, List.getD_cons_zero, List.map_cons, List.map_nil, Nat.add_zero, Nat.zero_add, Option.map_none, Option.map_some, Option.some.injEq, and_true, decide_false, decide_true, true_and, reduceCtorEq, Nat.reduceEqDiff, ↓reduceIte, Int.reduceEq, Int.reduceLT, Int.reduceLE, Nat.reduceAdd]; done) | (simp only [SX, Opd.ev, resVal, resVals, ARes.val, Bool.false_eq_true, Bool.not_false, Bool.not_true, List.getD_cons_succ, List.getD_cons_zero, List.map_cons, List.map_nil, Nat.add_zero, Nat.zero_add, Option.map_none, Option.map_some, Option.some.injEq, and_true, decide_false, decide_true, true_and, reduceCtorEq, Nat.reduceEqDiff, ↓reduceIte, Int.reduceEq, Int.reduceLT, Int.reduceLE, Nat.reduceAdd]; rfl) | rfl), (by first | (simp only [SX, Opd.ev, resVal, resVals, ARes.val, Bool.false_eq_true, Bool.not_false, Bool.not_true, List.getD_cons_succ, List.getD_cons_zero, List.map_cons, List.map_nil, Nat.add_zero, Nat.zero_add, Option.map_none, Option.map_some, Option.some.injEq, and_true, decide_false, decide_true, true_and, reduceCtorEq, Nat.reduceEqDiff, ↓reduceIte, Int.reduceEq, Int.reduceLT, Int.reduceLE, Nat.reduceAdd]; done) | (simp only [SX, Opd.ev, resVal, resVals, ARes.val, Bool.false_eq_true, Bool.not_false, Bool.not_true, List.getD_cons_succ, List.getD_cons_zero, List.map_cons, List.map_nil, Nat.add_zero, Nat.zero_add, Option.map_none, Option.map_some, Option.some.injEq, and_true, decide_false, decide_true, true_and, reduceCtorEq, Nat.reduceEqDiff, ↓reduceIte, Int.reduceEq, Int.reduceLT, Int.reduceLE, Nat.reduceAdd]; rfl) | rfl), (by first | (simp only [SX, Opd.ev, resVal, resVals, ARes.val, Bool.false_eq_true, Bool.not_false, Bool.not_true, List.getD_cons_succ, List.getD_cons_zero, List.map_cons, List.map_nil, Nat.add_zero, Nat.zero_add, Option.map_none, Option.map_some, Option.some.injEq, and_true, decide_false, decide_true, true_and, reduceCtorEq, Nat.reduceEqDiff, ↓reduceIte, Int.reduceEq, Int.reduceLT, Int.reduceLE, Nat.reduceAdd]; done) | (simp only [SX, Opd.ev, resVal, resVals, ARes.val, Bool.false_eq_true, Bool.not_false, Bool.not_true, List.getD_cons_succ, List.getD_cons_zero, List.map_cons, List.map_nil, Nat.add_zero, Nat.zero_add, Option.map_none, Option.map_some, Option.some.injEq, and_true, decide_false, decide_true, true_and, reduceCtorEq, Nat.reduceEqDiff, ↓reduceIte, Int.reduceEq, Int.reduceLT, Int.reduceLE, Nat.reduceAdd]; rfl) | rfl)⟩
    · intro m e H' hinv
      obtain ⟨hx, i, s, rfl, hi, hs, e3, e5, e16, e17⟩ := (hI _ _ _).1 hinv
      rw [hx]
      have h8 : zflags.length = 8 := rfl
      by_cases dd : (i : Int) < 8
      · have d' : decide ((i : Int) < 8) = true := decide_eq_true dd
        obtain ⟨k, hk⟩ : ∃ k, zflags[i]? = some k := ⟨_, List.getElem?_eq_getElem (by omega)⟩
        have hkr : 1 ≤ k ∧ k ≤ 9 := by
          have hm := List.mem_of_getElem? hk
          simp only [zflags, List.mem_cons, List.not_mem_nil, or_false] at hm
          omega
        obtain ⟨z, rfl⟩ : ∃ z : Nat, k = z := ⟨k.toNat, by omega⟩
        have it := idx_tab hk
        have w1 : IntKind.wrap .i64 ((i : Int) + 1) = ((i + 1 : Nat) : Int) := wrapNat (n := i + 1) (by omega)
        have sh := bin_shrV .u16 .i64 d.f i
        have an := bin_andV .u16 (shrV .u16 d.f i) 1
        by_cases hb : andV .u16 (shrV .u16 d.f i) 1 = 1
        case neg =>
          have dt := decide_eq_false hb
          simp only [e3, e5, e16, e17, d', it, lf, sh, an, dt, w1, SX, Opd.ev, resVal, resVals, ARes.val, Bool.false_eq_true, Bool.not_false, Bool.not_true, List.getD_cons_succ, List.getD_cons_zero, List.map_cons, List.map_nil, Nat.add_zero, Nat.zero_add, Option.map_none, Option.map_some, Option.some.injEq, and_true, decide_false, decide_true, true_and, reduceCtorEq, Nat.reduceEqDiff, ↓reduceIte, Int.reduceEq, Int.reduceLT, Int.reduceLE, Nat.reduceAdd]
          exact ⟨8 - (i + 1), by omega, (hI _ _ _).2 ⟨rfl, i + 1, s, rfl, by omega, by omega, (by first | (simp only [SX, Opd.ev, resVal, resVals, ARes.val, Bool.false_eq_true, Bool.not_false, Bool.not_true, List.getD_cons_succ, List.getD_cons_zero, List.map_cons, List.map_nil, Nat.add_zero, Nat.zero_add, Option.map_none, Option.map_some, Option.some.injEq, and_true, decide_false, decide_true, true_and, reduceCtorEq, Nat.reduceEqDiff, ↓reduceIte, Int.reduceEq, Int.reduceLT, Int.reduceLE, Nat.reduceAdd, e3]; done) | exact e3 | (simp only [SX, Opd.ev, resVal, resVals, ARes.val, Bool.false_eq_true, Bool.not_false, Bool.not_true, List.getD_cons_succ, List.getD_cons_zero, List.map_cons, List.map_nil, Nat.add_zero, Nat.zero_add, Option.map_none, Option.map_some, Option.some.injEq, and_true, decide_false, decide_true, true_and, reduceCtorEq, Nat.reduceEqDiff, ↓reduceIte, Int.reduceEq, Int.reduceLT, Int.reduceLE, Nat.reduceAdd, e3]; rfl)), (by first | (simp only [SX, Opd.ev, resVal, resVals, ARes.val, Bool.false_eq_true, Bool.not_false, Bool.not_true, List.getD_cons_succ, List.getD_cons_zero, List.map_cons, List.map_nil, Nat.add_zero, Nat.zero_add, Option.map_none, Option.map_some, Option.some.injEq, and_true, decide_false, decide_true, true_and, reduceCtorEq, Nat.reduceEqDiff, ↓reduceIte, Int.reduceEq, Int.reduceLT, Int.reduceLE, Nat.reduceAdd, e5]; done) | exact e5 | (simp only [SX, Opd.ev, resVal, resVals, ARes.val, Bool.false_eq_true, Bool.not_false, Bool.not_true, List.getD_cons_succ, List.getD_cons_zero, List.map_cons, List.map_nil, Nat.add_zero, Nat.zero_add, Option.map_none, Option.map_some, Option.some.injEq, and_true, decide_false, decide_true, true_and, reduceCtorEq, Nat.reduceEqDiff, ↓reduceIte, Int.reduceEq, Int.reduceLT, Int.reduceLE, Nat.reduceAdd, e5]; rfl)), (by first | (simp only [SX, Opd.ev, resVal, resVals, ARes.val, Bool.false_eq_true, Bool.not_false, Bool.not_true, List.getD_cons_succ, List.getD_cons_zero, List.map_cons, List.map_nil, Nat.add_zero, Nat.zero_add, Option.map_none, Option.map_some, Option.some.injEq, and_true, decide_false, decide_true, true_and, reduceCtorEq, Nat.reduceEqDiff, ↓reduceIte, Int.reduceEq, Int.reduceLT, Int.reduceLE, Nat.reduceAdd, e16]; done) | exact e16 | (simp only [SX, Opd.ev, resVal, resVals, ARes.val, Bool.false_eq_true, Bool.not_false, Bool.not_true, List.getD_cons_succ, List.getD_cons_zero, List.map_cons, List.map_nil, Nat.add_zero, Nat.zero_add, Option.map_none, Option.map_some, Option.some.injEq, and_true, decide_false, decide_true, true_and, reduceCtorEq, Nat.reduceEqDiff, ↓reduceIte, Int.reduceEq, Int.reduceLT, Int.reduceLE, Nat.reduceAdd, e16]; rfl)), (by first | (simp only [SX, Opd.ev, resVal, resVals, ARes.val, Bool.false_eq_true, Bool.not_false, Bool.not_true, List.getD_cons_succ, List.getD_cons_zero, List.map_cons, List.map_nil, Nat.add_zero, Nat.zero_add, Option.map_none, Option.map_some, Option.some.injEq, and_true, decide_false, decide_true, true_and, reduceCtorEq, Nat.reduceEqDiff, ↓reduceIte, Int.reduceEq, Int.reduceLT, Int.reduceLE, Nat.reduceAdd]; done) | (simp only [SX, Opd.ev, resVal, resVals, ARes.val, Bool.false_eq_true, Bool.not_false, Bool.not_true, List.getD_cons_succ, List.getD_cons_zero, List.map_cons, List.map_nil, Nat.add_zero, Nat.zero_add, Option.map_none, Option.map_some, Option.some.injEq, and_true, decide_false, decide_true, true_and, reduceCtorEq, Nat.reduceEqDiff, ↓reduceIte, Int.reduceEq, Int.reduceLT, Int.reduceLE, Nat.reduceAdd]; rfl) | rfl)⟩⟩
        have dt := decide_eq_true hb
        simp only [e3, e5, e16, e17, d', it, lf, sh, an, dt, w1, SX, Opd.ev, resVal, resVals, ARes.val, Bool.false_eq_true, Bool.not_false, Bool.not_true, List.getD_cons_succ, List.getD_cons_zero, List.map_cons, List.map_nil, Nat.add_zero, Nat.zero_add, Option.map_none, Option.map_some, Option.some.injEq, and_true, decide_false, decide_true, true_and, reduceCtorEq, Nat.reduceEqDiff, ↓reduceIte, Int.reduceEq, Int.reduceLT, Int.reduceLE, Nat.reduceAdd]
        refine (itoa_spec bq (n := z) (by omega) ht3).mono ?_
        rintro _ H4 ⟨rfl, hx⟩
        rw [hx]
        have dl : (D z).length ≤ 1 := by rw [D1 (by omega)]; simp
        have a1 := bin_adds [59] (D z) (by simp; omega)
        have a2 := bin_adds s ([59] ++ D z) (by simp; omega)
        simp only [e3, e5, e16, e17, a1, a2, w1, SX, Opd.ev, resVal, resVals, ARes.val, Bool.false_eq_true, Bool.not_false, Bool.not_true, List.getD_cons_succ, List.getD_cons_zero, List.map_cons, List.map_nil, Nat.add_zero, Nat.zero_add, Option.map_none, Option.map_some, Option.some.injEq, and_true, decide_false, decide_true, true_and, reduceCtorEq, Nat.reduceEqDiff, ↓reduceIte, Int.reduceEq, Int.reduceLT, Int.reduceLE, Nat.reduceAdd]
        exact ⟨8 - (i + 1), by omega, (hI _ _ _).2 ⟨rfl, i + 1, s ++ ([59] ++ D z), rfl, by omega, by simp; omega, (by first | (simp only [SX, Opd.ev, resVal, resVals, ARes.val, Bool.false_eq_true, Bool.not_false, Bool.not_true, List.getD_cons_succ, List.getD_cons_zero, List.map_cons, List.map_nil, Nat.add_zero, Nat.zero_add, Option.map_none, Option.map_some, Option.some.injEq, and_true, decide_false, decide_true, true_and, reduceCtorEq, Nat.reduceEqDiff, ↓reduceIte, Int.reduceEq, Int.reduceLT, Int.reduceLE, Nat.reduceAdd, e3]; done) | exact e3 | (simp only [SX, Opd.ev, resVal, resVals, ARes.val, Bool.false_eq_true, Bool.not_false, Bool.not_true, List.getD_cons_succ, List.getD_cons_zero, List.map_cons, List.map_nil, Nat.add_zero, Nat.zero_add, Option.map_none, Option.map_some, Option.some.injEq, and_true, decide_false, decide_true, true_and, reduceCtorEq, Nat.reduceEqDiff, ↓reduceIte, Int.reduceEq, Int.reduceLT, Int.reduceLE, Nat.reduceAdd, e3]; rfl)), (by first | (simp only [SX, Opd.ev, resVal, resVals, ARes.val, Bool.false_eq_true, Bool.not_false, Bool.not_true, List.getD_cons_succ, List.getD_cons_zero, List.map_cons, List.map_nil, Nat.add_zero, Nat.zero_add, Option.map_none, Option.map_some, Option.some.injEq, and_true, decide_false, decide_true, true_and, reduceCtorEq, Nat.reduceEqDiff, ↓reduceIte, Int.reduceEq, Int.reduceLT, Int.reduceLE, Nat.reduceAdd]; done) | (simp only [SX, Opd.ev, resVal, resVals, ARes.val, Bool.false_eq_true, Bool.not_false, Bool.not_true, List.getD_cons_succ, List.getD_cons_zero, List.map_cons, List.map_nil, Nat.add_zero, Nat.zero_add, Option.map_none, Option.map_some, Option.some.injEq, and_true, decide_false, decide_true, true_and, reduceCtorEq, Nat.reduceEqDiff, ↓reduceIte, Int.reduceEq, Int.reduceLT, Int.reduceLE, Nat.reduceAdd]; rfl) | rfl), (by first | (simp only [SX, Opd.ev, resVal, resVals, ARes.val, Bool.false_eq_true, Bool.not_false, Bool.not_true, List.getD_cons_succ, List.getD_cons_zero, List.map_cons, List.map_nil, Nat.add_zero, Nat.zero_add, Option.map_none, Option.map_some, Option.some.injEq, and_true, decide_false, decide_true, true_and, reduceCtorEq, Nat.reduceEqDiff, ↓reduceIte, Int.reduceEq, Int.reduceLT, Int.reduceLE, Nat.reduceAdd, e16]; done) | exact e16 | (simp only [SX, Opd.ev, resVal, resVals, ARes.val, Bool.false_eq_true, Bool.not_false, Bool.not_true, List.getD_cons_succ, List.getD_cons_zero, List.map_cons, List.map_nil, Nat.add_zero, Nat.zero_add, Option.map_none, Option.map_some, Option.some.injEq, and_true, decide_false, decide_true, true_and, reduceCtorEq, Nat.reduceEqDiff, ↓reduceIte, Int.reduceEq, Int.reduceLT, Int.reduceLE, Nat.reduceAdd, e16]; rfl)), (by first | (simp only [SX, Opd.ev, resVal, resVals, ARes.val, Bool.false_eq_true, Bool.not_false, Bool.not_true, List.getD_cons_succ, List.getD_cons_zero, List.map_cons, List.map_nil, Nat.add_zero, Nat.zero_add, Option.map_none, Option.map_some, Option.some.injEq, and_true, decide_false, decide_true, true_and, reduceCtorEq, Nat.reduceEqDiff, ↓reduceIte, Int.reduceEq, Int.reduceLT, Int.reduceLE, Nat.reduceAdd]; done) | (simp only [SX, Opd.ev, resVal, resVals, ARes.val, Bool.false_eq_true, Bool.not_false, Bool.not_true, List.getD_cons_succ, List.getD_cons_zero, List.map_cons, List.map_nil, Nat.add_zero, Nat.zero_add, Option.map_none, Option.map_some, Option.some.injEq, and_true, decide_false, decide_true, true_and, reduceCtorEq, Nat.reduceEqDiff, ↓reduceIte, Int.reduceEq, Int.reduceLT, Int.reduceLE, Nat.reduceAdd]; rfl) | rfl)⟩⟩
      · have d' : decide ((i : Int) < 8) = false := decide_eq_false dd
        have q1 := saysP_len (c := 38) (.inl rfl) hn1 hr2
        have q2 := saysP_len (c := 48) (.inr rfl) hn2 hr3
        simp only [e3, e5, e16, e17, d', l1, l30, SX, Opd.ev, resVal, resVals, ARes.val, Bool.false_eq_true, Bool.not_false, Bool.not_true, List.getD_cons_succ, List.getD_cons_zero, List.map_cons, List.map_nil, Nat.add_zero, Nat.zero_add, Option.map_none, Option.map_some, Option.some.injEq, and_true, decide_false, decide_true, true_and, reduceCtorEq, Nat.reduceEqDiff, ↓reduceIte, Int.reduceEq, Int.reduceLT, Int.reduceLE, Nat.reduceAdd]
        refine (says_spec bq (c := 38) (.inl rfl) hn1 hr2 g3.fr ht3).mono ?_
        rintro _ H4 ⟨rfl, g4⟩
        have l34 := l3 g4
        have ec : AV.same (.agg [.int .u8 d.k2, .int .u32 d.n2]) (.agg [.int .u8 d.k2, .int .u32 d.n2]) = true := by simp [AV.same, AV.sameL, AV.same1]
        have a1 := bin_adds s (saysP 38 d.k1 d.n1) (by omega)
        refine ⟨by simp only [echoOk, e3, l34, ec, Bool.and_self, SX, Opd.ev, resVal, resVals, ARes.val, Bool.false_eq_true, Bool.not_false, Bool.not_true, List.getD_cons_succ, List.getD_cons_zero, List.map_cons, List.map_nil, Nat.add_zero, Nat.zero_add, Option.map_none, Option.map_some, Option.some.injEq, and_true, decide_false, decide_true, true_and, reduceCtorEq, Nat.reduceEqDiff, ↓reduceIte, Int.reduceEq, Int.reduceLT, Int.reduceLE, Nat.reduceAdd], ?_⟩
        simp only [e3, e5, a1, SX, Opd.ev, resVal, resVals, ARes.val, Bool.false_eq_true, Bool.not_false, Bool.not_true, List.getD_cons_succ, List.getD_cons_zero, List.map_cons, List.map_nil, Nat.add_zero, Nat.zero_add, Option.map_none, Option.map_some, Option.some.injEq, and_true, decide_false, decide_true, true_and, reduceCtorEq, Nat.reduceEqDiff, ↓reduceIte, Int.reduceEq, Int.reduceLT, Int.reduceLE, Nat.reduceAdd]
        refine (says_spec bq (c := 48) (.inr rfl) hn2 hr3 g4.fr (g4.tabs g3.fr ht3)).mono ?_
        rintro _ H5 ⟨rfl, g5⟩
        have a2 := bin_adds (s ++ saysP 38 d.k1 d.n1) (saysP 48 d.k2 d.n2) (by simp; omega)
        have a3 := bin_adds (s ++ saysP 38 d.k1 d.n1 ++ saysP 48 d.k2 d.n2) [109] (by simp; omega)
        simp only [e3, e5, a2, a3, SX, Opd.ev, resVal, resVals, ARes.val, Bool.false_eq_true, Bool.not_false, Bool.not_true, List.getD_cons_succ, List.getD_cons_zero, List.map_cons, List.map_nil, Nat.add_zero, Nat.zero_add, Option.map_none, Option.map_some, Option.some.injEq, and_true, decide_false, decide_true, true_and, reduceCtorEq, Nat.reduceEqDiff, ↓reduceIte, Int.reduceEq, Int.reduceLT, Int.reduceLE, Nat.reduceAdd]
        exact ⟨⟨_, rfl, by simp; omega⟩, ((g2.trans g3).trans g4).trans g5⟩
end
end Go.Proofs.YtkfnjjloefanjaaDoor.AM
