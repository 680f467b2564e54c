/-
  The builder's functions, on a builder within a struct; walked on the abstract machine.
-/
import Derived.Test.YtkfnjjloefanjaaDoorPnT
set_option linter.unusedVariables false
set_option linter.unusedSimpArgs false
namespace Go.Proofs.YtkfnjjloefanjaaDoor.AM
open Go
theorem u8of (x : Int) : ∃ c : UInt8, IntKind.wrap .u8 x = (c.toNat : Int) := by
  have e : IntKind.wrap .u8 x = x % 256 := by simp [IntKind.wrap, IntKind.bits, IntKind.signed]
  obtain ⟨n, hn⟩ : ∃ n : Nat, x % 256 = n := ⟨(x % 256).toNat, by omega⟩
  have h : n < 256 := by omega
  exact ⟨UInt8.ofNat n, by rw [e, hn, UInt8.toNat_ofNat_of_lt' h]⟩
def shrI (a : Int) (i : Nat) : Int := a.fdiv (2 ^ (min i 32))
theorem bin_shrI (k : IntKind) (a : Int) (i : Nat) : binV .shr (.int .i32 a) (.int k (i : Int)) = some (.int .i32 (shrI a i)) := by
  simp only [binV, shiftBin, shrI, Int.toNat_natCast]
  rw [if_neg (by omega)]
  rfl
theorem bin_shr6 (k : IntKind) (a : Int) : binV .shr (.int .i32 a) (.int k 6) = some (.int .i32 (shrI a 6)) := bin_shrI k a 6
theorem bin_shr12 (k : IntKind) (a : Int) : binV .shr (.int .i32 a) (.int k 12) = some (.int .i32 (shrI a 12)) := bin_shrI k a 12
theorem bin_shr18 (k : IntKind) (a : Int) : binV .shr (.int .i32 a) (.int k 18) = some (.int .i32 (shrI a 18)) := bin_shrI k a 18
def or8 (a b : Int) : Int := IntKind.wrap .u8 (((BitVec.ofInt IntKind.u8.bits a ||| BitVec.ofInt IntKind.u8.bits b).toNat : Nat) : Int)
def and8 (a b : Int) : Int := IntKind.wrap .u8 (((BitVec.ofInt IntKind.u8.bits a &&& BitVec.ofInt IntKind.u8.bits b).toNat : Nat) : Int)
theorem bin_or8 (a b : Int) : binV .or (.int .u8 a) (.int .u8 b) = some (.int .u8 (or8 a b)) := by simp [binV, intBin, or8]
theorem bin_and8 (a b : Int) : binV .and (.int .u8 a) (.int .u8 b) = some (.int .u8 (and8 a b)) := by simp [binV, intBin, and8]
theorem or8_of (a b : Int) : ∃ c : UInt8, or8 a b = (c.toNat : Int) := u8of _
def bs2V (a b : AV) : Option (AObj × AKind) := LOp.run .nil (.bslice 1 2 [.int .u8 0] [(0, .c a), (1, .c b)])
theorem run_bs2 (e : Env) (x y : Opd) : LOp.run e (.bslice 1 2 [.int .u8 0] [(0, x), (1, y)]) = bs2V (x.ev e) (y.ev e) := rfl
theorem bs2_ok (a b : Int) : bs2V (.int .u8 a) (.int .u8 b) = some (.row ⟨[.int .u8 a, .int .u8 b], 0, false, true, 0⟩, .slc 2 2) := rfl
def bs3V (a b c : AV) : Option (AObj × AKind) := LOp.run .nil (.bslice 1 3 [.int .u8 0] [(0, .c a), (1, .c b), (2, .c c)])
theorem run_bs3 (e : Env) (x y z : Opd) : LOp.run e (.bslice 1 3 [.int .u8 0] [(0, x), (1, y), (2, z)]) = bs3V (x.ev e) (y.ev e) (z.ev e) := rfl
theorem bs3_ok (a b c : Int) : bs3V (.int .u8 a) (.int .u8 b) (.int .u8 c) = some (.row ⟨[.int .u8 a, .int .u8 b, .int .u8 c], 0, false, true, 0⟩, .slc 3 3) := rfl
def bs4V (a b c d : AV) : Option (AObj × AKind) := LOp.run .nil (.bslice 1 4 [.int .u8 0] [(0, .c a), (1, .c b), (2, .c c), (3, .c d)])
theorem run_bs4 (e : Env) (x y z w : Opd) : LOp.run e (.bslice 1 4 [.int .u8 0] [(0, x), (1, y), (2, z), (3, w)]) = bs4V (x.ev e) (y.ev e) (z.ev e) (w.ev e) := rfl
theorem bs4_ok (a b c d : Int) : bs4V (.int .u8 a) (.int .u8 b) (.int .u8 c) (.int .u8 d) = some (.row ⟨[.int .u8 a, .int .u8 b, .int .u8 c, .int .u8 d], 0, false, true, 0⟩, .slc 4 4) := rfl
section
variable {base : Nat} {H : AHeap} {b : Nat} {t : List UInt8} {a : List AV}
theorem TelAt.put (h : TelAt 62 5 base H b t a) {v : AV} (hv : loadV H none (.ptr b 1) = some v) {s : List UInt8} (hs : s ≠ []) (hl : t.length + s.length ≤ 70368744177664) :
    ∃ H1 H2 H3 w, H.alloc (.row ⟨ofBytes s, 0, false, true, 0⟩) = H1 ∧ appendTE 5 H1 1 1 v (.slc H.next 0 s.length s.length) = some (w, H2) ∧ storeE H2 1 (.ptr b 1) w = some (.undef, H3) ∧ TelAt 62 5 base H3 b (t ++ s) a ∧ Keep base H H3 ∧ Nx 5 b H H3 := by
  have h1 := h.alloc (.row ⟨ofBytes s, 0, false, true, 0⟩)
  have hs0 : s.length ≠ 0 := by simpa using hs
  have hsrc : srcCells (H.alloc (.row ⟨ofBytes s, 0, false, true, 0⟩)) 1 (.slc H.next 0 s.length s.length) = some (s.length, ofBytes s) := by
    have hc : AM.cut (ofBytes s) 0 (s.length * 1) = some (ofBytes s) := cut_all _ (by simp [ofBytes])
    have hr : (H.alloc (.row ⟨ofBytes s, 0, false, true, 0⟩)).row H.next = some ⟨ofBytes s, 0, false, true, 0⟩ := row_get (by rw [AHeap.get_alloc, if_pos rfl]) rfl
    simp only [srcCells]
    rw [if_neg hs0]
    simp only [hr, hc]
  obtain ⟨v', H2, H3, w, q1, q2, q3, q4, q5, q6⟩ := h1.app hsrc hl
  refine ⟨_, H2, H3, w, rfl, ?_, q3, q4, (h.keep_alloc _).trans q5, (Nx.gr h.fr ⟨fun c hc => by rw [AHeap.get_alloc, if_neg (by omega)], by rw [AHeap.next_alloc]; omega, fun c hc => by rw [AHeap.next_alloc] at hc; rw [AHeap.get_alloc, if_neg (by omega)]; exact h.fr c (by omega)⟩).trans q6⟩
  obtain ⟨p, v'', r1, _⟩ := h.row
  have e1 := load_raw (o := 1) r1 rfl (v := v'') rfl
  have hlt := h.lt
  have r2 : (H.alloc (.row ⟨ofBytes s, 0, false, true, 0⟩)).get b = some (.row ⟨p :: v'' :: a, 0, false, true, 62⟩) := by rw [AHeap.get_alloc, if_neg (by omega)]; exact r1
  rw [load_raw (o := 1) r2 rfl (v := v'') rfl] at q1
  rw [e1] at hv
  rw [← Option.some.inj hv, Option.some.inj q1]
  exact q2
end
structure PcQ (Q : Prog) : Prop where
  nq : PnQ Q
  q34 : Q.fns 34 = some A34
  q37 : Q.fns 37 = some A37
  q44 : Q.fns 44 = some A44
  q51 : Q.fns 51 = some A51
  q54 : Q.fns 54 = some A54
  q57 : Q.fns 57 = some A57
section
variable {Q : Prog} (cq : PcQ Q) {base b : Nat} {H : AHeap} {t : List UInt8} {a : List AV}
include cq
set_option maxHeartbeats 2000000 in
theorem copy_spec (h : TelAt 62 5 base H b t a) (ha : a.length = 5) : FnTo Q 44 [.ptr b 0] H (fun _ H' => TelAt 62 5 base H' b t a ∧ Keep base H H' ∧ Nx 5 b H H') := by
  refine fn_wp (cq.nq.pq.ho 44 rfl _) cq.q44 (by simp [A44]) ?_
  have u1 := h.toUns
  have u2 := h.fromUns (l := [(60, 2, 0), (61, 7, 0), (62, 7, 0)]) (n := 7) (by simp) (by omega)
  obtain ⟨p, v, h1, h2, h3⟩ := h.row
  rcases h2 with rfl | rfl
  · have l0 := load_raw h1 rfl (o := 0) (v := .nilp) rfl
    have st := store_raw h1 (o := 0) (by simp) (v := .ptr b 0) rfl
    have pn : pteqV false .nilp .nilp = some (.bool true) := rfl
    obtain ⟨g1, g2⟩ := h.used h1
    simp only [A44, l0, u1, u2, st, pn, run_toUns, run_fromUns, run_pteq, resNil, SX, Opd.ev, resVal, resVals, ARes.val, Bool.false_eq_true, Bool.not_false, Bool.not_true, List.getD_cons_succ, List.getD_cons_zero, List.map_cons, List.map_nil, Nat.add_zero, Nat.zero_add, Option.map_none, Option.map_some, Option.some.injEq, and_true, decide_false, decide_true, true_and, reduceCtorEq, Nat.reduceEqDiff, ↓reduceIte, Int.reduceEq, Int.reduceLT, Int.reduceLE, Nat.reduceAdd]
    exact ⟨g1, g2, Nx.set _⟩
  · have l0 := load_raw h1 rfl (o := 0) (v := .ptr b 0) rfl
    have pn : pteqV false (.ptr b 0) .nilp = some (.bool false) := rfl
    have ps : pteqV true (.ptr b 0) (.ptr b 0) = some (.bool false) := pteq_same true b 0
    simp only [A44, l0, pn, ps, run_pteq, resNil, SX, Opd.ev, resVal, resVals, ARes.val, Bool.false_eq_true, Bool.not_false, Bool.not_true, List.getD_cons_succ, List.getD_cons_zero, List.map_cons, List.map_nil, Nat.add_zero, Nat.zero_add, Option.map_none, Option.map_some, Option.some.injEq, and_true, decide_false, decide_true, true_and, reduceCtorEq, Nat.reduceEqDiff, ↓reduceIte, Int.reduceEq, Int.reduceLT, Int.reduceLE, Nat.reduceAdd]
    exact ⟨h, Keep.refl _ _, Nx.refl _ _ _⟩
set_option maxHeartbeats 2000000 in
theorem ws_spec (h : TelAt 62 5 base H b t a) (ha : a.length = 5) (s : List UInt8) (hl : t.length + s.length ≤ 70368744177664) : FnTo Q 34 [.ptr b 0, .str s] H (fun _ H' => TelAt 62 5 base H' b (t ++ s) a ∧ Keep base H H' ∧ Nx 5 b H H') := by
  refine fn_wp (cq.nq.pq.ho 34 rfl _) cq.q34 (by simp [A34]) ?_
  simp only [A34, SX, Opd.ev, resVal, resVals, ARes.val, Bool.false_eq_true, Bool.not_false, Bool.not_true, List.getD_cons_succ, List.getD_cons_zero, List.map_cons, List.map_nil, Nat.add_zero, Nat.zero_add, Option.map_none, Option.map_some, Option.some.injEq, and_true, decide_false, decide_true, true_and, reduceCtorEq, Nat.reduceEqDiff, ↓reduceIte, Int.reduceEq, Int.reduceLT, Int.reduceLE, Nat.reduceAdd]
  refine (copy_spec cq h ha).mono ?_
  rintro _ H1 ⟨b1, k1, n1⟩
  obtain ⟨v, H2, H3, w, e1, e2, e3, b2, k2, n2⟩ := b1.app (s := s) (w0 := .str s) (by simp [srcCells]) hl
  simp only [e1, e2, e3, wp_appendT, SX, Opd.ev, resVal, resVals, ARes.val, Bool.false_eq_true, Bool.not_false, Bool.not_true, List.getD_cons_succ, List.getD_cons_zero, List.map_cons, List.map_nil, Nat.add_zero, Nat.zero_add, Option.map_none, Option.map_some, Option.some.injEq, and_true, decide_false, decide_true, true_and, reduceCtorEq, Nat.reduceEqDiff, ↓reduceIte, Int.reduceEq, Int.reduceLT, Int.reduceLE, Nat.reduceAdd]
  exact ⟨b2, k1.trans k2, n1.trans n2⟩
set_option maxHeartbeats 2000000 in
theorem tstr_spec (h : TelAt 62 5 base H b t a) (hl : t.length ≤ 9223372036854775807) : FnTo Q 37 [.ptr b 0] H (fun r H' => r = .str t ∧ Keep base H H' ∧ H.next ≤ H'.next ∧ ∀ c, H'.next ≤ c → H'.get c = Option.none) := by
  refine fn_wp (cq.nq.pq.ho 37 rfl _) cq.q37 (by simp [A37]) ?_
  obtain ⟨v, x, H', e1, e2, e3, e4, k, n, f⟩ := h.str hl
  simp only [A37, e1, e2, e3, e4, run_sldata, wp_strUns, SX, Opd.ev, resVal, resVals, ARes.val, Bool.false_eq_true, Bool.not_false, Bool.not_true, List.getD_cons_succ, List.getD_cons_zero, List.map_cons, List.map_nil, Nat.add_zero, Nat.zero_add, Option.map_none, Option.map_some, Option.some.injEq, and_true, decide_false, decide_true, true_and, reduceCtorEq, Nat.reduceEqDiff, ↓reduceIte, Int.reduceEq, Int.reduceLT, Int.reduceLE, Nat.reduceAdd]
  exact ⟨k, n, f⟩
def RunePost (base b : Nat) (H : AHeap) (t : List UInt8) (a : List AV) (w : AV) (H2 : AHeap) : Prop :=
  ∃ s H3, s.length ≤ 4 ∧ storeE H2 1 (.ptr b 1) w = some (.undef, H3) ∧ TelAt 62 5 base H3 b (t ++ s) a ∧ Keep base H H3 ∧ Nx 5 b H H3
omit cq in
theorem rune_put (h : TelAt 62 5 base H b t a) {v : AV} (hv : loadV H Option.none (.ptr b 1) = some v) (hl : t.length ≤ 1000000) {s : List UInt8} (hs : s ≠ []) (h4 : s.length ≤ 4) {cs : List AV} {n : Nat} (hc : cs = ofBytes s) (hn : n = s.length) :
    ∃ H1 H2 w, H.alloc (.row ⟨cs, 0, false, true, 0⟩) = H1 ∧ appendTE 5 H1 1 1 v (.slc H.next 0 n n) = some (w, H2) ∧ RunePost base b H t a w H2 := by
  subst hc hn
  obtain ⟨H1, H2, H3, w, q1, q2, q3, q4, q5, q6⟩ := h.put hv hs (by omega)
  exact ⟨H1, H2, w, q1, q2, s, H3, h4, q3, q4, q5, q6⟩
set_option maxHeartbeats 8000000 in
theorem non_spec (h : TelAt 62 5 base H b t a) {v : AV} (hv : loadV H Option.none (.ptr b 1) = some v) (hl : t.length ≤ 1000000) (r : Int) : FnTo Q 57 [v, .int .i32 r] H (fun w H2 => RunePost base b H t a w H2) := by
  refine fn_wp (cq.nq.pq.ho 57 rfl _) cq.q57 (by simp [A57]) ?_
  obtain ⟨u, hu⟩ : ∃ u, IntKind.wrap .u32 r = u := ⟨_, rfl⟩
  have bad : ∃ H1 H2 w, H.alloc (.row ⟨[.int .u8 239, .int .u8 191, .int .u8 189], 0, false, true, 0⟩) = H1 ∧ appendTE 5 H1 1 1 v (.slc H.next 0 3 3) = some (w, H2) ∧ RunePost base b H t a w H2 := rune_put h hv hl (s := [239, 191, 189]) (by simp) (by simp) rfl rfl
  have three : ∀ x y z : Int, ∃ H1 H2 w, H.alloc (.row ⟨[.int .u8 (or8 224 x), .int .u8 (or8 128 y), .int .u8 (or8 128 z)], 0, false, true, 0⟩) = H1 ∧ appendTE 5 H1 1 1 v (.slc H.next 0 3 3) = some (w, H2) ∧ RunePost base b H t a w H2 := fun x y z => by
    obtain ⟨c1, h1⟩ := or8_of 224 x
    obtain ⟨c2, h2⟩ := or8_of 128 y
    obtain ⟨c3, h3⟩ := or8_of 128 z
    rw [h1, h2, h3]
    exact rune_put h hv hl (s := [c1, c2, c3]) (by simp) (by simp) rfl rfl
  by_cases c1 : u ≤ 2047
  · obtain ⟨x1, h1⟩ := or8_of 192 (IntKind.wrap .u8 (shrI r 6))
    obtain ⟨x2, h2⟩ := or8_of 128 (and8 (IntKind.wrap .u8 r) 63)
    obtain ⟨H1, H2, w, s1, s2, s3⟩ := rune_put h hv hl (s := [x1, x2]) (by simp) (by simp) (cs := [.int .u8 (x1.toNat : Int), .int .u8 (x2.toNat : Int)]) (n := 2) rfl rfl
    simp only [A57, hu, decide_eq_true c1, bin_shr6, bin_shr12, bin_shr18, bin_or8, bin_and8, run_bs2, bs2_ok, h1, h2, s1, s2, wp_appendT, wantV_undef, SX, Opd.ev, resVal, resVals, ARes.val, Bool.false_eq_true, Bool.not_false, Bool.not_true, List.getD_cons_succ, List.getD_cons_zero, List.map_cons, List.map_nil, Nat.add_zero, Nat.zero_add, Option.map_none, Option.map_some, Option.some.injEq, and_true, decide_false, decide_true, true_and, reduceCtorEq, Nat.reduceEqDiff, ↓reduceIte, Int.reduceEq, Int.reduceLT, Int.reduceLE, Nat.reduceAdd]
    exact s3
  have d1 := decide_eq_false c1
  by_cases c2 : u < 55296
  · obtain ⟨H1, H2, w, s1, s2, s3⟩ := three (IntKind.wrap .u8 (shrI r 12)) (and8 (IntKind.wrap .u8 (shrI r 6)) 63) (and8 (IntKind.wrap .u8 r) 63)
    simp only [A57, hu, d1, decide_eq_true c2, bin_shr6, bin_shr12, bin_shr18, bin_or8, bin_and8, run_bs3, bs3_ok, s1, s2, wp_appendT, wantV_undef, SX, Opd.ev, resVal, resVals, ARes.val, Bool.false_eq_true, Bool.not_false, Bool.not_true, List.getD_cons_succ, List.getD_cons_zero, List.map_cons, List.map_nil, Nat.add_zero, Nat.zero_add, Option.map_none, Option.map_some, Option.some.injEq, and_true, decide_false, decide_true, true_and, reduceCtorEq, Nat.reduceEqDiff, ↓reduceIte, Int.reduceEq, Int.reduceLT, Int.reduceLE, Nat.reduceAdd]
    exact s3
  have d2 := decide_eq_false c2
  by_cases c3 : 57343 < u ∧ u ≤ 65535
  · obtain ⟨H1, H2, w, s1, s2, s3⟩ := three (IntKind.wrap .u8 (shrI r 12)) (and8 (IntKind.wrap .u8 (shrI r 6)) 63) (and8 (IntKind.wrap .u8 r) 63)
    simp only [A57, hu, d1, d2, decide_eq_true c3.1, decide_eq_true c3.2, bin_shr6, bin_shr12, bin_shr18, bin_or8, bin_and8, run_bs3, bs3_ok, s1, s2, wp_appendT, wantV_undef, SX, Opd.ev, resVal, resVals, ARes.val, Bool.false_eq_true, Bool.not_false, Bool.not_true, List.getD_cons_succ, List.getD_cons_zero, List.map_cons, List.map_nil, Nat.add_zero, Nat.zero_add, Option.map_none, Option.map_some, Option.some.injEq, and_true, decide_false, decide_true, true_and, reduceCtorEq, Nat.reduceEqDiff, ↓reduceIte, Int.reduceEq, Int.reduceLT, Int.reduceLE, Nat.reduceAdd]
    exact s3
  by_cases c4 : 57343 < u
  case neg =>
    obtain ⟨H1, H2, w, s1, s2, s3⟩ := bad
    have d5 : ¬ 65535 < u := by omega
    simp only [A57, hu, d1, d2, decide_eq_false c4, decide_eq_false d5, run_bs3, bs3_ok, s1, s2, wp_appendT, wantV_undef, SX, Opd.ev, resVal, resVals, ARes.val, Bool.false_eq_true, Bool.not_false, Bool.not_true, List.getD_cons_succ, List.getD_cons_zero, List.map_cons, List.map_nil, Nat.add_zero, Nat.zero_add, Option.map_none, Option.map_some, Option.some.injEq, and_true, decide_false, decide_true, true_and, reduceCtorEq, Nat.reduceEqDiff, ↓reduceIte, Int.reduceEq, Int.reduceLT, Int.reduceLE, Nat.reduceAdd]
    exact s3
  have c5 : ¬ u ≤ 65535 := fun hh => c3 ⟨c4, hh⟩
  have c6 : 65535 < u := by omega
  by_cases c7 : u ≤ 1114111
  case neg =>
    obtain ⟨H1, H2, w, s1, s2, s3⟩ := bad
    simp only [A57, hu, d1, d2, decide_eq_true c4, decide_eq_false c5, decide_eq_true c6, decide_eq_false c7, run_bs3, bs3_ok, s1, s2, wp_appendT, wantV_undef, SX, Opd.ev, resVal, resVals, ARes.val, Bool.false_eq_true, Bool.not_false, Bool.not_true, List.getD_cons_succ, List.getD_cons_zero, List.map_cons, List.map_nil, Nat.add_zero, Nat.zero_add, Option.map_none, Option.map_some, Option.some.injEq, and_true, decide_false, decide_true, true_and, reduceCtorEq, Nat.reduceEqDiff, ↓reduceIte, Int.reduceEq, Int.reduceLT, Int.reduceLE, Nat.reduceAdd]
    exact s3
  obtain ⟨x1, h1⟩ := or8_of 240 (IntKind.wrap .u8 (shrI r 18))
  obtain ⟨x2, h2⟩ := or8_of 128 (and8 (IntKind.wrap .u8 (shrI r 12)) 63)
  obtain ⟨x3, h3⟩ := or8_of 128 (and8 (IntKind.wrap .u8 (shrI r 6)) 63)
  obtain ⟨x4, h4⟩ := or8_of 128 (and8 (IntKind.wrap .u8 r) 63)
  obtain ⟨H1, H2, w, s1, s2, s3⟩ := rune_put h hv hl (s := [x1, x2, x3, x4]) (by simp) (by simp) (cs := [.int .u8 (x1.toNat : Int), .int .u8 (x2.toNat : Int), .int .u8 (x3.toNat : Int), .int .u8 (x4.toNat : Int)]) (n := 4) rfl rfl
  simp only [A57, hu, d1, d2, decide_eq_true c4, decide_eq_false c5, decide_eq_true c6, decide_eq_true c7, bin_shr6, bin_shr12, bin_shr18, bin_or8, bin_and8, run_bs4, bs4_ok, h1, h2, h3, h4, s1, s2, wp_appendT, wantV_undef, SX, Opd.ev, resVal, resVals, ARes.val, Bool.false_eq_true, Bool.not_false, Bool.not_true, List.getD_cons_succ, List.getD_cons_zero, List.map_cons, List.map_nil, Nat.add_zero, Nat.zero_add, Option.map_none, Option.map_some, Option.some.injEq, and_true, decide_false, decide_true, true_and, reduceCtorEq, Nat.reduceEqDiff, ↓reduceIte, Int.reduceEq, Int.reduceLT, Int.reduceLE, Nat.reduceAdd]
  exact s3
set_option maxHeartbeats 4000000 in
theorem apRune_spec (h : TelAt 62 5 base H b t a) {v : AV} (hv : loadV H Option.none (.ptr b 1) = some v) (hl : t.length ≤ 1000000) (r : Int) : FnTo Q 54 [v, .int .i32 r] H (fun w H2 => RunePost base b H t a w H2) := by
  refine fn_wp (cq.nq.pq.ho 54 rfl _) cq.q54 (by simp [A54]) ?_
  by_cases c1 : IntKind.wrap .u32 r ≤ 127
  · obtain ⟨x, hx⟩ := u8of r
    obtain ⟨H1, H2, w, s1, s2, s3⟩ := rune_put h hv hl (s := [x]) (by simp) (by simp) (cs := [.int .u8 (x.toNat : Int)]) (n := 1) rfl rfl
    simp only [A54, decide_eq_true c1, hx, s1, s2, wp_appendT, SX, Opd.ev, resVal, resVals, ARes.val, Bool.false_eq_true, Bool.not_false, Bool.not_true, List.getD_cons_succ, List.getD_cons_zero, List.map_cons, List.map_nil, Nat.add_zero, Nat.zero_add, Option.map_none, Option.map_some, Option.some.injEq, and_true, decide_false, decide_true, true_and, reduceCtorEq, Nat.reduceEqDiff, ↓reduceIte, Int.reduceEq, Int.reduceLT, Int.reduceLE, Nat.reduceAdd]
    exact s3
  · simp only [A54, decide_eq_false c1, SX, Opd.ev, resVal, resVals, ARes.val, Bool.false_eq_true, Bool.not_false, Bool.not_true, List.getD_cons_succ, List.getD_cons_zero, List.map_cons, List.map_nil, Nat.add_zero, Nat.zero_add, Option.map_none, Option.map_some, Option.some.injEq, and_true, decide_false, decide_true, true_and, reduceCtorEq, Nat.reduceEqDiff, ↓reduceIte, Int.reduceEq, Int.reduceLT, Int.reduceLE, Nat.reduceAdd]
    refine (non_spec cq h hv hl r).mono ?_
    intro w H2 s3
    simp only [SX, Opd.ev, resVal, resVals, ARes.val, Bool.false_eq_true, Bool.not_false, Bool.not_true, List.getD_cons_succ, List.getD_cons_zero, List.map_cons, List.map_nil, Nat.add_zero, Nat.zero_add, Option.map_none, Option.map_some, Option.some.injEq, and_true, decide_false, decide_true, true_and, reduceCtorEq, Nat.reduceEqDiff, ↓reduceIte, Int.reduceEq, Int.reduceLT, Int.reduceLE, Nat.reduceAdd]
    exact s3
set_option maxHeartbeats 4000000 in
theorem wr_spec (h : TelAt 62 5 base H b t a) (ha : a.length = 5) (hl : t.length ≤ 1000000) (r : Int) : FnTo Q 51 [.ptr b 0, .int .i32 r] H (fun _ H' => (∃ s, s.length ≤ 4 ∧ TelAt 62 5 base H' b (t ++ s) a) ∧ Keep base H H' ∧ Nx 5 b H H') := by
  refine fn_wp (cq.nq.pq.ho 51 rfl _) cq.q51 (by simp [A51]) ?_
  simp only [A51, SX, Opd.ev, resVal, resVals, ARes.val, Bool.false_eq_true, Bool.not_false, Bool.not_true, List.getD_cons_succ, List.getD_cons_zero, List.map_cons, List.map_nil, Nat.add_zero, Nat.zero_add, Option.map_none, Option.map_some, Option.some.injEq, and_true, decide_false, decide_true, true_and, reduceCtorEq, Nat.reduceEqDiff, ↓reduceIte, Int.reduceEq, Int.reduceLT, Int.reduceLE, Nat.reduceAdd]
  refine (copy_spec cq h ha).mono ?_
  rintro _ H1 ⟨b1, k1, n1⟩
  have ld : ∀ {H : AHeap} {t : List UInt8}, TelAt 62 5 base H b t a → ∃ v, loadV H Option.none (.ptr b 1) = some v ∧ lngV H 1 v = some (.int .i64 t.length) := fun {H t} h => by
    obtain ⟨p, v, h1, h2, h3⟩ := h.row
    refine ⟨v, load_raw h1 rfl rfl, ?_⟩
    rcases h3 with ⟨rfl, rfl⟩ | ⟨_, g, rfl, _⟩ <;> rfl
  obtain ⟨v, l1, l2⟩ := ld b1
  simp only [l1, l2, SX, Opd.ev, resVal, resVals, ARes.val, Bool.false_eq_true, Bool.not_false, Bool.not_true, List.getD_cons_succ, List.getD_cons_zero, List.map_cons, List.map_nil, Nat.add_zero, Nat.zero_add, Option.map_none, Option.map_some, Option.some.injEq, and_true, decide_false, decide_true, true_and, reduceCtorEq, Nat.reduceEqDiff, ↓reduceIte, Int.reduceEq, Int.reduceLT, Int.reduceLE, Nat.reduceAdd]
  refine (apRune_spec cq b1 l1 hl r).mono ?_
  rintro w H2 ⟨s, H3, h4, e3, b2, k2, n2⟩
  obtain ⟨v3, l3, l4⟩ := ld b2
  simp only [e3, l3, l4, SX, Opd.ev, resVal, resVals, ARes.val, Bool.false_eq_true, Bool.not_false, Bool.not_true, List.getD_cons_succ, List.getD_cons_zero, List.map_cons, List.map_nil, Nat.add_zero, Nat.zero_add, Option.map_none, Option.map_some, Option.some.injEq, and_true, decide_false, decide_true, true_and, reduceCtorEq, Nat.reduceEqDiff, ↓reduceIte, Int.reduceEq, Int.reduceLT, Int.reduceLE, Nat.reduceAdd]
  exact ⟨⟨s, h4, b2⟩, k1.trans k2, n1.trans n2⟩
end
end Go.Proofs.YtkfnjjloefanjaaDoor.AM
