/-
  The law AttrSingle, walked on the abstract machine.
-/
import Derived.Test.YtcfjjeipdacbcaaDoorAtAll
set_option linter.unusedVariables false
set_option linter.unusedSimpArgs false
namespace Go.Proofs.YtcfjjeipdacbcaaDoor.AM
open Go
def bsV (n : Nat) (z : List AV) (ps : List (Nat × Nat × AV)) : Option (AObj × AKind) := if n * 1 > 16777216 ∨ ¬ (n * 1 = 0 ∨ 0 < z.length) then none else match buildIn (zeros z (n * 1)) ps with | some cs => if cs.all AV.one then some (.row ⟨cs, 0, false, true⟩, .slc n n) else none | none => none
theorem run_bsV (e : Env) (n : Nat) (z : List AV) (ps : List (Nat × Opd)) : LOp.run e (.bslice 1 n z ps) = bsV n z (ps.map fun p => (p.1 * 1, 1, p.2.ev e)) := rfl
def AllR {α : Type} (R : α → AV → Prop) : List α → List AV → Prop
  | [], _ => True
  | x :: xs, c :: cs => R x c ∧ AllR R xs cs
  | _ :: _, [] => False
theorem AllR.get {α : Type} {R : α → AV → Prop} : ∀ {xs : List α} {cs : List AV}, AllR R xs cs → ∀ (i : Nat) (x : α), xs[i]? = some x → ∃ c, cs[i]? = some c ∧ R x c
  | [], _, _, i, x, h => by simp at h
  | a :: xs, c :: cs, h, i, x, hx => by
    cases i with
    | zero => simp at hx; subst hx; exact ⟨c, by simp, h.1⟩
    | succ i => simp at hx; obtain ⟨c', h1, h2⟩ := h.2.get i x hx; exact ⟨c', by simpa using h1, h2⟩
  | _ :: _, [], h, _, _, _ => h.elim
theorem Hp.isA {base : Nat} {H : AHeap} {l : List Cel} {α : Type} {R : AHeap → α → AV → Prop} {b n : Nat} {cs : List AV} (h : Hp base H l) (k : Nat) (hm : l[k]? = some ⟨b, 1, cs⟩) {xs : List α} (hl : xs.length = n) (hx : AllR (R H) xs cs) : IsS R H (.slc b 0 n n) xs := by
  subst hl
  exact h.isS (List.mem_of_getElem? hm) (Nat.le_refl _) hx.get
theorem load_grow {H H' : AHeap} (hf : Fr H) (g : Gr H H') {n : Option Nat} {a v : AV} (h : loadV H n a = some v) : loadV H' n a = some v := by
  have row : ∀ b B, H.row b = some B → H'.row b = some B := by
    intro b B hb
    unfold AHeap.row at hb ⊢
    split at hb
    · rename_i B' hB
      rw [g.get hf hB]; exact hb
    · cases hb
  cases a with
  | ptr b o =>
    simp only [loadV, ROp.run, Opd.ev] at h ⊢
    cases hr : H.row b with
    | none => rw [hr] at h; cases h
    | some B => rw [row b B hr]; rw [hr] at h; exact h
  | _ => exact h
def IsLL (H : AHeap) (L : List (List Int)) (c : AV) : Prop := IsL H c L

def LL (x y z : Int) : List (List (List Int)) := [[[x]], [[x], [y]], [[x, y]], [[x, y, z]], [[x], [y], [z]], [[x], [], [y]], [[x], [5], [y], [z]], [[x], [2], [y], [z], [y], [z]], [[x, 2, y, z, y]], [[x, 2, 0, y, z, y], [z]]]
theorem LL_le (x y z : Int) : ∀ L ∈ LL x y z, L.length ≤ 10000 ∧ ∀ p ∈ L, p.length ≤ 10000 := by
  have h : (LL x y z).all (fun L => decide (L.length ≤ 10000) && L.all fun p => decide (p.length ≤ 10000)) = true := rfl
  intro L hL
  have h1 := List.all_eq_true.1 h L hL
  simp only [Bool.and_eq_true, decide_eq_true_eq, List.all_eq_true] at h1
  exact h1
theorem bsI1 (a0 : Int) : bsV 1 [.int .i64 0] [(0 * 1, 1, .int .i64 a0)] = some (.row ⟨[.int .i64 a0], 0, false, true⟩, .slc 1 1) := rfl
theorem bsS1 (b0 l0 c0 : Nat) : bsV 1 [.nils] [(0 * 1, 1, .slc b0 0 l0 c0)] = some (.row ⟨[.slc b0 0 l0 c0], 0, false, true⟩, .slc 1 1) := rfl
theorem bsS2 (b0 l0 c0 b1 l1 c1 : Nat) : bsV 2 [.nils] [(0 * 1, 1, .slc b0 0 l0 c0), (1 * 1, 1, .slc b1 0 l1 c1)] = some (.row ⟨[.slc b0 0 l0 c0, .slc b1 0 l1 c1], 0, false, true⟩, .slc 2 2) := rfl
theorem bsI2 (a0 a1 : Int) : bsV 2 [.int .i64 0] [(0 * 1, 1, .int .i64 a0), (1 * 1, 1, .int .i64 a1)] = some (.row ⟨[.int .i64 a0, .int .i64 a1], 0, false, true⟩, .slc 2 2) := rfl
theorem bsI3 (a0 a1 a2 : Int) : bsV 3 [.int .i64 0] [(0 * 1, 1, .int .i64 a0), (1 * 1, 1, .int .i64 a1), (2 * 1, 1, .int .i64 a2)] = some (.row ⟨[.int .i64 a0, .int .i64 a1, .int .i64 a2], 0, false, true⟩, .slc 3 3) := rfl
theorem bsS3 (b0 l0 c0 b1 l1 c1 b2 l2 c2 : Nat) : bsV 3 [.nils] [(0 * 1, 1, .slc b0 0 l0 c0), (1 * 1, 1, .slc b1 0 l1 c1), (2 * 1, 1, .slc b2 0 l2 c2)] = some (.row ⟨[.slc b0 0 l0 c0, .slc b1 0 l1 c1, .slc b2 0 l2 c2], 0, false, true⟩, .slc 3 3) := rfl
theorem bsI0 : bsV 0 [] [] = some (.row ⟨[], 0, false, true⟩, .slc 0 0) := rfl
theorem bsS4 (b0 l0 c0 b1 l1 c1 b2 l2 c2 b3 l3 c3 : Nat) : bsV 4 [.nils] [(0 * 1, 1, .slc b0 0 l0 c0), (1 * 1, 1, .slc b1 0 l1 c1), (2 * 1, 1, .slc b2 0 l2 c2), (3 * 1, 1, .slc b3 0 l3 c3)] = some (.row ⟨[.slc b0 0 l0 c0, .slc b1 0 l1 c1, .slc b2 0 l2 c2, .slc b3 0 l3 c3], 0, false, true⟩, .slc 4 4) := rfl
theorem bsS6 (b0 l0 c0 b1 l1 c1 b2 l2 c2 b3 l3 c3 b4 l4 c4 b5 l5 c5 : Nat) : bsV 6 [.nils] [(0 * 1, 1, .slc b0 0 l0 c0), (1 * 1, 1, .slc b1 0 l1 c1), (2 * 1, 1, .slc b2 0 l2 c2), (3 * 1, 1, .slc b3 0 l3 c3), (4 * 1, 1, .slc b4 0 l4 c4), (5 * 1, 1, .slc b5 0 l5 c5)] = some (.row ⟨[.slc b0 0 l0 c0, .slc b1 0 l1 c1, .slc b2 0 l2 c2, .slc b3 0 l3 c3, .slc b4 0 l4 c4, .slc b5 0 l5 c5], 0, false, true⟩, .slc 6 6) := rfl
theorem bsI5 (a0 a1 a2 a3 a4 : Int) : bsV 5 [.int .i64 0] [(0 * 1, 1, .int .i64 a0), (1 * 1, 1, .int .i64 a1), (2 * 1, 1, .int .i64 a2), (3 * 1, 1, .int .i64 a3), (4 * 1, 1, .int .i64 a4)] = some (.row ⟨[.int .i64 a0, .int .i64 a1, .int .i64 a2, .int .i64 a3, .int .i64 a4], 0, false, true⟩, .slc 5 5) := rfl
theorem bsI6 (a0 a1 a2 a3 a4 a5 : Int) : bsV 6 [.int .i64 0] [(0 * 1, 1, .int .i64 a0), (1 * 1, 1, .int .i64 a1), (2 * 1, 1, .int .i64 a2), (3 * 1, 1, .int .i64 a3), (4 * 1, 1, .int .i64 a4), (5 * 1, 1, .int .i64 a5)] = some (.row ⟨[.int .i64 a0, .int .i64 a1, .int .i64 a2, .int .i64 a3, .int .i64 a4, .int .i64 a5], 0, false, true⟩, .slc 6 6) := rfl
theorem bsS10 (b0 l0 c0 b1 l1 c1 b2 l2 c2 b3 l3 c3 b4 l4 c4 b5 l5 c5 b6 l6 c6 b7 l7 c7 b8 l8 c8 b9 l9 c9 : Nat) : bsV 10 [.nils] [(0 * 1, 1, .slc b0 0 l0 c0), (1 * 1, 1, .slc b1 0 l1 c1), (2 * 1, 1, .slc b2 0 l2 c2), (3 * 1, 1, .slc b3 0 l3 c3), (4 * 1, 1, .slc b4 0 l4 c4), (5 * 1, 1, .slc b5 0 l5 c5), (6 * 1, 1, .slc b6 0 l6 c6), (7 * 1, 1, .slc b7 0 l7 c7), (8 * 1, 1, .slc b8 0 l8 c8), (9 * 1, 1, .slc b9 0 l9 c9)] = some (.row ⟨[.slc b0 0 l0 c0, .slc b1 0 l1 c1, .slc b2 0 l2 c2, .slc b3 0 l3 c3, .slc b4 0 l4 c4, .slc b5 0 l5 c5, .slc b6 0 l6 c6, .slc b7 0 l7 c7, .slc b8 0 l8 c8, .slc b9 0 l9 c9], 0, false, true⟩, .slc 10 10) := rfl
section
variable {Q : Prog} (aq : AtQ Q)
include aq
set_option maxRecDepth 100000 in
set_option maxHeartbeats 16000000 in
theorem law6 (h6 : Q.fns 6 = some A6) (yes : Q.orc 16 [] = some (.bool true)) (hT : Q.tabs = TT) {H : AHeap} (ht : hasTabs H TT = true) {a : At} (hfl : FlOk a.fl) (x y z : Int) (hf : Fr H) : FnTo Q 6 [a.val, .int .i64 x, .int .i64 y, .int .i64 z] H (fun r _ => r = .bool true) := by
  refine fn_wp (aq.ho 6 rfl _) h6 (by simp [A6]) ?_
  obtain ⟨H1, s1, h1, k1⟩ := (Hp.nil H hf).make a.cs 5
  have g1 := h1.gr k1
  have ht1 := g1.tabs hf ht
  simp only [A6, box_at, run_box, run_allocL, s1, SX, Opd.ev, resVal, resVals, ARes.val, Bool.false_eq_true, Bool.not_false, Bool.not_true, List.getD_cons_succ, List.getD_cons_zero, List.map_cons, List.map_nil, Nat.add_zero, Nat.zero_add, Option.map_none, Option.map_some, Option.some.injEq, and_true, decide_false, decide_true, true_and, reduceCtorEq, Nat.reduceEqDiff, ↓reduceIte, Int.reduceEq, Int.reduceLT, Int.reduceLE, Nat.reduceAdd]
  refine fn_orc yes (by rw [hT]; exact ht1) ?_
  obtain ⟨H2, s2, h2, k2⟩ := h1.make [.int .i64 x] 1
  obtain ⟨H3, s3, h3, k3⟩ := h2.make [.slc H1.next 0 1 1] 1
  obtain ⟨H4, s4, h4, k4⟩ := h3.make [.int .i64 x] 1
  obtain ⟨H5, s5, h5, k5⟩ := h4.make [.int .i64 y] 1
  obtain ⟨H6, s6, h6, k6⟩ := h5.make [.slc H3.next 0 1 1, .slc H4.next 0 1 1] 1
  obtain ⟨H7, s7, h7, k7⟩ := h6.make [.int .i64 x, .int .i64 y] 1
  obtain ⟨H8, s8, h8, k8⟩ := h7.make [.slc H6.next 0 2 2] 1
  obtain ⟨H9, s9, h9, k9⟩ := h8.make [.int .i64 x, .int .i64 y, .int .i64 z] 1
  obtain ⟨H10, s10, h10, k10⟩ := h9.make [.slc H8.next 0 3 3] 1
  obtain ⟨H11, s11, h11, k11⟩ := h10.make [.int .i64 x] 1
  obtain ⟨H12, s12, h12, k12⟩ := h11.make [.int .i64 y] 1
  obtain ⟨H13, s13, h13, k13⟩ := h12.make [.int .i64 z] 1
  obtain ⟨H14, s14, h14, k14⟩ := h13.make [.slc H10.next 0 1 1, .slc H11.next 0 1 1, .slc H12.next 0 1 1] 1
  obtain ⟨H15, s15, h15, k15⟩ := h14.make [.int .i64 x] 1
  obtain ⟨H16, s16, h16, k16⟩ := h15.make [] 1
  obtain ⟨H17, s17, h17, k17⟩ := h16.make [.int .i64 y] 1
  obtain ⟨H18, s18, h18, k18⟩ := h17.make [.slc H14.next 0 1 1, .slc H15.next 0 0 0, .slc H16.next 0 1 1] 1
  obtain ⟨H19, s19, h19, k19⟩ := h18.make [.int .i64 x] 1
  obtain ⟨H20, s20, h20, k20⟩ := h19.make [.int .i64 5] 1
  obtain ⟨H21, s21, h21, k21⟩ := h20.make [.int .i64 y] 1
  obtain ⟨H22, s22, h22, k22⟩ := h21.make [.int .i64 z] 1
  obtain ⟨H23, s23, h23, k23⟩ := h22.make [.slc H18.next 0 1 1, .slc H19.next 0 1 1, .slc H20.next 0 1 1, .slc H21.next 0 1 1] 1
  obtain ⟨H24, s24, h24, k24⟩ := h23.make [.int .i64 x] 1
  obtain ⟨H25, s25, h25, k25⟩ := h24.make [.int .i64 2] 1
  obtain ⟨H26, s26, h26, k26⟩ := h25.make [.int .i64 y] 1
  obtain ⟨H27, s27, h27, k27⟩ := h26.make [.int .i64 z] 1
  obtain ⟨H28, s28, h28, k28⟩ := h27.make [.int .i64 y] 1
  obtain ⟨H29, s29, h29, k29⟩ := h28.make [.int .i64 z] 1
  obtain ⟨H30, s30, h30, k30⟩ := h29.make [.slc H23.next 0 1 1, .slc H24.next 0 1 1, .slc H25.next 0 1 1, .slc H26.next 0 1 1, .slc H27.next 0 1 1, .slc H28.next 0 1 1] 1
  obtain ⟨H31, s31, h31, k31⟩ := h30.make [.int .i64 x, .int .i64 2, .int .i64 y, .int .i64 z, .int .i64 y] 1
  obtain ⟨H32, s32, h32, k32⟩ := h31.make [.slc H30.next 0 5 5] 1
  obtain ⟨H33, s33, h33, k33⟩ := h32.make [.int .i64 x, .int .i64 2, .int .i64 0, .int .i64 y, .int .i64 z, .int .i64 y] 1
  obtain ⟨H34, s34, h34, k34⟩ := h33.make [.int .i64 z] 1
  obtain ⟨H35, s35, h35, k35⟩ := h34.make [.slc H32.next 0 6 6, .slc H33.next 0 1 1] 1
  obtain ⟨H36, s36, h36, k36⟩ := h35.make [.slc H2.next 0 1 1, .slc H5.next 0 2 2, .slc H7.next 0 1 1, .slc H9.next 0 1 1, .slc H13.next 0 3 3, .slc H17.next 0 3 3, .slc H22.next 0 4 4, .slc H29.next 0 6 6, .slc H31.next 0 1 1, .slc H34.next 0 2 2] 1
  have gK : Gr H H36 := h36.gr (((((((((((((((((((((((((((((((((((k1.trans k2).trans k3).trans k4).trans k5).trans k6).trans k7).trans k8).trans k9).trans k10).trans k11).trans k12).trans k13).trans k14).trans k15).trans k16).trans k17).trans k18).trans k19).trans k20).trans k21).trans k22).trans k23).trans k24).trans k25).trans k26).trans k27).trans k28).trans k29).trans k30).trans k31).trans k32).trans k33).trans k34).trans k35).trans k36)
  have fK : Fr H36 := gK.fr
  have htK := gK.tabs hf ht
  have q1 : IsIs H36 [x] (.slc H1.next 0 1 1) := h36.isA (R := IsI) 34 rfl rfl ⟨rfl, trivial⟩
  have q2 : IsLL H36 [[x]] (.slc H2.next 0 1 1) := h36.isA (R := IsIs) 33 rfl rfl ⟨q1, trivial⟩
  have q3 : IsIs H36 [x] (.slc H3.next 0 1 1) := h36.isA (R := IsI) 32 rfl rfl ⟨rfl, trivial⟩
  have q4 : IsIs H36 [y] (.slc H4.next 0 1 1) := h36.isA (R := IsI) 31 rfl rfl ⟨rfl, trivial⟩
  have q5 : IsLL H36 [[x], [y]] (.slc H5.next 0 2 2) := h36.isA (R := IsIs) 30 rfl rfl ⟨q3, q4, trivial⟩
  have q6 : IsIs H36 [x, y] (.slc H6.next 0 2 2) := h36.isA (R := IsI) 29 rfl rfl ⟨rfl, rfl, trivial⟩
  have q7 : IsLL H36 [[x, y]] (.slc H7.next 0 1 1) := h36.isA (R := IsIs) 28 rfl rfl ⟨q6, trivial⟩
  have q8 : IsIs H36 [x, y, z] (.slc H8.next 0 3 3) := h36.isA (R := IsI) 27 rfl rfl ⟨rfl, rfl, rfl, trivial⟩
  have q9 : IsLL H36 [[x, y, z]] (.slc H9.next 0 1 1) := h36.isA (R := IsIs) 26 rfl rfl ⟨q8, trivial⟩
  have q10 : IsIs H36 [x] (.slc H10.next 0 1 1) := h36.isA (R := IsI) 25 rfl rfl ⟨rfl, trivial⟩
  have q11 : IsIs H36 [y] (.slc H11.next 0 1 1) := h36.isA (R := IsI) 24 rfl rfl ⟨rfl, trivial⟩
  have q12 : IsIs H36 [z] (.slc H12.next 0 1 1) := h36.isA (R := IsI) 23 rfl rfl ⟨rfl, trivial⟩
  have q13 : IsLL H36 [[x], [y], [z]] (.slc H13.next 0 3 3) := h36.isA (R := IsIs) 22 rfl rfl ⟨q10, q11, q12, trivial⟩
  have q14 : IsIs H36 [x] (.slc H14.next 0 1 1) := h36.isA (R := IsI) 21 rfl rfl ⟨rfl, trivial⟩
  have q15 : IsIs H36 [] (.slc H15.next 0 0 0) := h36.isA (R := IsI) 20 rfl rfl trivial
  have q16 : IsIs H36 [y] (.slc H16.next 0 1 1) := h36.isA (R := IsI) 19 rfl rfl ⟨rfl, trivial⟩
  have q17 : IsLL H36 [[x], [], [y]] (.slc H17.next 0 3 3) := h36.isA (R := IsIs) 18 rfl rfl ⟨q14, q15, q16, trivial⟩
  have q18 : IsIs H36 [x] (.slc H18.next 0 1 1) := h36.isA (R := IsI) 17 rfl rfl ⟨rfl, trivial⟩
  have q19 : IsIs H36 [5] (.slc H19.next 0 1 1) := h36.isA (R := IsI) 16 rfl rfl ⟨rfl, trivial⟩
  have q20 : IsIs H36 [y] (.slc H20.next 0 1 1) := h36.isA (R := IsI) 15 rfl rfl ⟨rfl, trivial⟩
  have q21 : IsIs H36 [z] (.slc H21.next 0 1 1) := h36.isA (R := IsI) 14 rfl rfl ⟨rfl, trivial⟩
  have q22 : IsLL H36 [[x], [5], [y], [z]] (.slc H22.next 0 4 4) := h36.isA (R := IsIs) 13 rfl rfl ⟨q18, q19, q20, q21, trivial⟩
  have q23 : IsIs H36 [x] (.slc H23.next 0 1 1) := h36.isA (R := IsI) 12 rfl rfl ⟨rfl, trivial⟩
  have q24 : IsIs H36 [2] (.slc H24.next 0 1 1) := h36.isA (R := IsI) 11 rfl rfl ⟨rfl, trivial⟩
  have q25 : IsIs H36 [y] (.slc H25.next 0 1 1) := h36.isA (R := IsI) 10 rfl rfl ⟨rfl, trivial⟩
  have q26 : IsIs H36 [z] (.slc H26.next 0 1 1) := h36.isA (R := IsI) 9 rfl rfl ⟨rfl, trivial⟩
  have q27 : IsIs H36 [y] (.slc H27.next 0 1 1) := h36.isA (R := IsI) 8 rfl rfl ⟨rfl, trivial⟩
  have q28 : IsIs H36 [z] (.slc H28.next 0 1 1) := h36.isA (R := IsI) 7 rfl rfl ⟨rfl, trivial⟩
  have q29 : IsLL H36 [[x], [2], [y], [z], [y], [z]] (.slc H29.next 0 6 6) := h36.isA (R := IsIs) 6 rfl rfl ⟨q23, q24, q25, q26, q27, q28, trivial⟩
  have q30 : IsIs H36 [x, 2, y, z, y] (.slc H30.next 0 5 5) := h36.isA (R := IsI) 5 rfl rfl ⟨rfl, rfl, rfl, rfl, rfl, trivial⟩
  have q31 : IsLL H36 [[x, 2, y, z, y]] (.slc H31.next 0 1 1) := h36.isA (R := IsIs) 4 rfl rfl ⟨q30, trivial⟩
  have q32 : IsIs H36 [x, 2, 0, y, z, y] (.slc H32.next 0 6 6) := h36.isA (R := IsI) 3 rfl rfl ⟨rfl, rfl, rfl, rfl, rfl, rfl, trivial⟩
  have q33 : IsIs H36 [z] (.slc H33.next 0 1 1) := h36.isA (R := IsI) 2 rfl rfl ⟨rfl, trivial⟩
  have q34 : IsLL H36 [[x, 2, 0, y, z, y], [z]] (.slc H34.next 0 2 2) := h36.isA (R := IsIs) 1 rfl rfl ⟨q32, q33, trivial⟩
  have qL : IsS IsLL H36 (.slc H35.next 0 10 10) (LL x y z) := h36.isA (R := IsLL) 0 rfl rfl ⟨q2, q5, q7, q9, q13, q17, q22, q29, q31, q34, trivial⟩
  have l5 : ∀ {H'}, Gr H36 H' → loadV H' (some 5) (.ptr H.next 0) = some a.val := fun {H'} g => (h36.keep g.keep g.next g.fr).loadN (k := 5) (List.mem_of_getElem? (i := 35) rfl) rfl
  simp only [run_bsV, bsI1, bsS1, bsS2, bsI2, bsI3, bsS3, bsI0, bsS4, bsS6, bsI5, bsI6, bsS10, s1, s2, s3, s4, s5, s6, s7, s8, s9, s10, s11, s12, s13, s14, s15, s16, s17, s18, s19, s20, s21, s22, s23, s24, s25, s26, s27, s28, s29, s30, s31, s32, s33, s34, s35, s36, SX, Opd.ev, resVal, resVals, ARes.val, Bool.false_eq_true, Bool.not_false, Bool.not_true, List.getD_cons_succ, List.getD_cons_zero, List.map_cons, List.map_nil, Nat.add_zero, Nat.zero_add, Option.map_none, Option.map_some, Option.some.injEq, and_true, decide_false, decide_true, true_and, reduceCtorEq, Nat.reduceEqDiff, ↓reduceIte, Int.reduceEq, Int.reduceLT, Int.reduceLE, Nat.reduceAdd]
  generalize AHeap.next H35 = bb at qL ⊢
  generalize AHeap.next H = b0 at l5 ⊢
  clear q1 q3 q4 q6 q8 q10 q11 q12 q14 q15 q16 q18 q19 q20 q21 q23 q24 q25 q26 q27 q28 q30 q32 q33 q2 q5 q7 q9 q13 q17 q22 q29 q31 q34
  obtain ⟨I, hI⟩ : ∃ I : Nat → Env → AHeap → Prop, ∀ m e H', I m e H' ↔ (Gr H36 H' ∧ ∃ i : Nat, m = 10 - i ∧ i ≤ 10 ∧ Env.get e 4 = .ptr b0 0 ∧ Env.get e 9 = .slc bb 0 10 10 ∧ Env.get e 10 = .int .i64 i) := ⟨_, fun _ _ _ => Iff.rfl⟩
  refine loop_by I 10 ?_ ?_
  · refine (hI _ _ _).2 ⟨Gr.refl fK, 0, rfl, by omega, ?_⟩
    simp only [SX, Opd.ev, resVal, resVals, ARes.val, Bool.false_eq_true, Bool.not_false, Bool.not_true, List.getD_cons_succ, List.getD_cons_zero, List.map_cons, List.map_nil, Nat.add_zero, Nat.zero_add, Option.map_none, Option.map_some, Option.some.injEq, and_true, decide_false, decide_true, true_and, reduceCtorEq, Nat.reduceEqDiff, ↓reduceIte, Int.reduceEq, Int.reduceLT, Int.reduceLE, Nat.reduceAdd]
    rfl
  · intro m e' H' hinv
    obtain ⟨g', i, rfl, hi, f4, f9, f10⟩ := (hI _ _ _).1 hinv
    have qG : IsS IsLL H' (.slc bb 0 10 10) (LL x y z) := qL.grow (fun L c h => IsL.grow h fK g') fK g'
    have ln : lngV H' 1 (.slc bb 0 10 10) = some (.int .i64 10) := qG.len
    have f' := g'.fr
    have ht' := g'.tabs fK htK
    have l50 := l5 g'
    by_cases d : (i : Int) < 10
    · have dj : decide ((i : Int) < 10) = true := decide_eq_true d
      have hil : i < (LL x y z).length := by show i < 10; omega
      obtain ⟨L, hLi⟩ : ∃ L, (LL x y z)[i]? = some L := ⟨_, List.getElem?_eq_getElem hil⟩
      obtain ⟨le1, le2⟩ := LL_le x y z L (List.mem_of_getElem? hLi)
      have xi := qG.at (i := (i : Int)) (by omega) (by omega) .i64
      obtain ⟨c, lc, hc⟩ := qG.get (i := (i : Int)) (a := L) (by simpa using hLi)
      replace hc : IsL H' c L := hc
      simp only [f4, f9, f10, ln, dj, xi, lc, l50, SX, Opd.ev, resVal, resVals, ARes.val, Bool.false_eq_true, Bool.not_false, Bool.not_true, List.getD_cons_succ, List.getD_cons_zero, List.map_cons, List.map_nil, Nat.add_zero, Nat.zero_add, Option.map_none, Option.map_some, Option.some.injEq, and_true, decide_false, decide_true, true_and, reduceCtorEq, Nat.reduceEqDiff, ↓reduceIte, Int.reduceEq, Int.reduceLT, Int.reduceLE, Nat.reduceAdd]
      refine (apply_spec aq (a := a) hc le1 le2 f' ht').mono ?_
      rintro _ H3 ⟨rfl, g3⟩
      have l53 := l5 (g'.trans g3)
      have lc3 : loadV H3 none (atOf (.slc bb 0 10 10) i) = some c := by
        exact load_grow f' g3 lc
      have xi3 : idxSV 1 (.slc bb 0 10 10) (.int .i64 i) = some (atOf (.slc bb 0 10 10) i) := xi
      refine ⟨by simp only [echoOk, f4, f9, f10, xi3, l53, lc3, SX, Opd.ev, resVal, resVals, ARes.val, Bool.false_eq_true, Bool.not_false, Bool.not_true, List.getD_cons_succ, List.getD_cons_zero, List.map_cons, List.map_nil, Nat.add_zero, Nat.zero_add, Option.map_none, Option.map_some, Option.some.injEq, and_true, decide_false, decide_true, true_and, reduceCtorEq, Nat.reduceEqDiff, ↓reduceIte, Int.reduceEq, Int.reduceLT, Int.reduceLE, Nat.reduceAdd]; simp [same_at, IsS.same hc], ?_⟩
      simp only [SX, Opd.ev, resVal, resVals, ARes.val, Bool.false_eq_true, Bool.not_false, Bool.not_true, List.getD_cons_succ, List.getD_cons_zero, List.map_cons, List.map_nil, Nat.add_zero, Nat.zero_add, Option.map_none, Option.map_some, Option.some.injEq, and_true, decide_false, decide_true, true_and, reduceCtorEq, Nat.reduceEqDiff, ↓reduceIte, Int.reduceEq, Int.reduceLT, Int.reduceLE, Nat.reduceAdd]
      refine (applyR_spec aq (a := a) (hc.grow f' g3) le1 le2 g3.fr).mono ?_
      rintro _ H4 ⟨rfl, g4⟩
      rw [applyRP_eq hfl]
      have wi : IntKind.wrap .i64 ((i : Int) + 1) = ((i + 1 : Nat) : Int) := by rw [wrapI64 (by omega) (by omega)]; rfl
      simp only [seq_atN, f4, f9, f10, wi, wantV_undef, SX, Opd.ev, resVal, resVals, ARes.val, Bool.false_eq_true, Bool.not_false, Bool.not_true, List.getD_cons_succ, List.getD_cons_zero, List.map_cons, List.map_nil, Nat.add_zero, Nat.zero_add, Option.map_none, Option.map_some, Option.some.injEq, and_true, decide_false, decide_true, true_and, reduceCtorEq, Nat.reduceEqDiff, ↓reduceIte, Int.reduceEq, Int.reduceLT, Int.reduceLE, Nat.reduceAdd]
      refine ⟨_, ?_, (hI _ _ _).2 ⟨(g'.trans g3).trans g4, i + 1, rfl, by omega, ?_⟩⟩
      · omega
      · simp only [f4, f9, f10, and_self, SX, Opd.ev, resVal, resVals, ARes.val, Bool.false_eq_true, Bool.not_false, Bool.not_true, List.getD_cons_succ, List.getD_cons_zero, List.map_cons, List.map_nil, Nat.add_zero, Nat.zero_add, Option.map_none, Option.map_some, Option.some.injEq, and_true, decide_false, decide_true, true_and, reduceCtorEq, Nat.reduceEqDiff, ↓reduceIte, Int.reduceEq, Int.reduceLT, Int.reduceLE, Nat.reduceAdd]
    · have dj : decide ((i : Int) < 10) = false := decide_eq_false d
      simp only [f4, f9, f10, ln, dj, resVal, resVals, ARes.val, SX, Opd.ev, resVal, resVals, ARes.val, Bool.false_eq_true, Bool.not_false, Bool.not_true, List.getD_cons_succ, List.getD_cons_zero, List.map_cons, List.map_nil, Nat.add_zero, Nat.zero_add, Option.map_none, Option.map_some, Option.some.injEq, and_true, decide_false, decide_true, true_and, reduceCtorEq, Nat.reduceEqDiff, ↓reduceIte, Int.reduceEq, Int.reduceLT, Int.reduceLE, Nat.reduceAdd]
end
end Go.Proofs.YtcfjjeipdacbcaaDoor.AM
