/-
  The laws ScriptKnown and ScriptAhead, walked.
-/
import Derived.Test.YtdkpmlhbofgfdaaDoorScX3
set_option linter.unusedVariables false
set_option linter.unusedSimpArgs false
namespace Go.Proofs.YtdkpmlhbofgfdaaDoor.AM
open Go
def markE (H : AHeap) (v : AV) : Option (AV × AHeap) := EOp.run noCall H .nil (.mark (.c v))
theorem wp_mark (Q : Prog) (H : AHeap) (e : Env) (K : AV → AHeap → Prop) (x : Opd) : EOp.wp Q H e K (.mark x) = bindX (markE H (x.ev e)) K := rfl
section
variable {base : Nat} {H : AHeap} {l : List Cel}
theorem Hp.mark (h : Hp base H l) {b k n : Nat} {cs : List AV} (hx : (⟨b, k, cs⟩ : Cel) ∈ l) (hn : 0 < n) : markE H (.slc b 0 n n) = some (.slc b 0 n n, H) := by
  obtain ⟨es, ty, r, _⟩ := (h.has _ hx).row
  simp only at r
  simp only [markE, EOp.run, Opd.ev, r]
  rw [if_neg (by simp; omega)]
theorem Hp.bysA (h : Hp base H l) {b cap : Nat} {s : List UInt8} (hx : (⟨b, 1, ofBytes s⟩ : Cel) ∈ l) (hc : s.length ≤ cap) : BysA H (.slc b 0 s.length cap) s := by
  obtain ⟨es, ty, h1, h2⟩ := h.has _ hx
  simp only at h1 h2
  exact .inr ⟨b, 0, cap, _, rfl, h1, rfl, h2, hc, fun i x hi => by simp [ofBytes, hi]⟩
theorem BysA.src {v : AV} {s : List UInt8} (h : BysA H v s) : srcCells H 1 v = some (s.length, ofBytes s) := by
  rcases h with ⟨rfl, rfl⟩ | ⟨b, o, cap, B, rfl, hB, hlv, hes, hcap, hc⟩
  · rfl
  · by_cases h0 : s.length = 0
    · have : s = [] := List.eq_nil_of_length_eq_zero h0
      subst this; rfl
    · have hr : H.row b = some B := by simp only [AHeap.row, hB, hlv, if_true]
      have hlen : o + s.length ≤ B.cells.length := by
        obtain ⟨x, hx⟩ : ∃ x, s[s.length - 1]? = some x := ⟨_, List.getElem?_eq_getElem (by omega)⟩
        have h1 := hc _ _ hx
        have := (List.getElem?_eq_some_iff.1 h1).1
        omega
      have hcut : AM.cut B.cells o (s.length * 1) = some (ofBytes s) := by
        unfold AM.cut
        rw [if_pos (by omega), Nat.mul_one]
        congr 1
        apply List.ext_getElem?
        intro i
        rw [List.getElem?_take]
        by_cases hi : i < s.length
        · rw [if_pos hi, List.getElem?_drop]
          obtain ⟨x, hx⟩ : ∃ x, s[i]? = some x := ⟨_, List.getElem?_eq_getElem hi⟩
          rw [hc _ _ hx]; simp [ofBytes, hx]
        · rw [if_neg hi, List.getElem?_eq_none (by simp [ofBytes]; omega)]
      simp only [srcCells, if_neg h0, hr, hcut]
end
def b11 : List UInt8 := [0, 0, 0, 0, 0, 0, 0, 0, 14, 0, 1]
def b9000 : List UInt8 := List.replicate 9000 0
theorem b9000_len : b9000.length = 9000 := List.length_replicate
set_option maxRecDepth 100000 in
theorem known1 : (cfgP []).n = 1 ∧ (cfgP []).cl = [[.int .i64 0, .int .i64 2, .int .i64 2]] ∧ (cfgP []).sk = [] ∧ actsP [] = [] := ⟨rfl, rfl, rfl, rfl⟩
set_option maxRecDepth 100000 in
theorem known2 : (actsP b11).map ActP.cs = [[.int .u8 5, .int .i64 0, .int .i64 0, .int .i64 0, .int .i64 0, .int .i64 0, .int .i64 0, .int .i64 0, .str []]] := by rfl
set_option maxRecDepth 100000 in
theorem known3 : Nat.beq (actsP b9000).length 200 = true := by decide +kernel
theorem bs11 : bsV 11 [.int .u8 0] [(0 * 1, 1, .int .u8 0), (1 * 1, 1, .int .u8 0), (2 * 1, 1, .int .u8 0), (3 * 1, 1, .int .u8 0), (4 * 1, 1, .int .u8 0), (5 * 1, 1, .int .u8 0), (6 * 1, 1, .int .u8 0), (7 * 1, 1, .int .u8 0), (8 * 1, 1, .int .u8 14), (9 * 1, 1, .int .u8 0), (10 * 1, 1, .int .u8 1)] = some (.row ⟨ofBytes b11, 0, false, true, 0⟩, .slc 11 11) := rfl
theorem seq9 (l : List AV) (h : cellsEq [1, 1, 1, 1, 1, 1, 1, 1, 2] l l = some true) (hl : l.length = 9) (g : Bool) : seqV [1, 1, 1, 1, 1, 1, 1, 1, 2] g (.agg l) (.agg l) = some (.bool (xor g true)) := by
  simp only [seqV, ROp.run, Opd.ev, hl, List.length_cons, List.length_nil, and_self, if_true, h]
theorem cells9 (a : ActP) : cellsEq [1, 1, 1, 1, 1, 1, 1, 1, 2] a.cs a.cs = some true := by
  simp [ActP.cs, cellsEq]
theorem ofB_rep (n : Nat) : List.replicate n (AV.int .u8 0) = ofBytes (List.replicate n 0) := by simp [ofBytes]
section
variable {Q : Prog} (sq : ScQ Q) {H : AHeap}
include sq
set_option maxHeartbeats 8000000 in
theorem law3 (q3 : Q.fns 3 = some A3) (yes : Q.orc 6 [] = some (.bool true)) (hf : Fr H) (h0 : 0 < H.next) (ht : hasTabs H Q.tabs = true) : FnTo Q 3 [] H (fun r _ => r = .bool true) := by
  refine fn_wp (sq.ho 3 rfl _) q3 (by simp [A3]) ?_
  simp only [A3, SX, reduceCtorEq, Nat.reduceEqDiff, ↓reduceIte, Int.reduceEq, Int.reduceLT, Int.reduceLE, Nat.reduceAdd]
  refine (read_spec sq (v := .nils) (s := []) (.inl ⟨rfl, rfl⟩) (by simp) hf h0 ht).mono ?_
  rintro _ H1 ⟨tv, cv, sv, av, rfl, tab, cl, sk, ac, gr1⟩
  obtain ⟨kn, kcl, ksk, kac⟩ := known1
  rw [kn] at tab
  rw [kcl] at cl
  rw [ksk] at sk
  rw [kac] at ac
  have hn1 := gr1.next
  have ht1 := gr1.tabs hf ht
  obtain ⟨H2, s2, g2, k2⟩ := (Hp.nil H1 gr1.fr).make [.nils, .nils, .nils, .int .i64 0, .nils] 5
  have on1 : ([tv, cv, sv, .int .i64 ((cfgP []).back : Int), av] : List AV).all AV.one = true := by simp only [List.all_cons, tab.one, cl.one, sk.one, ac.one, List.all_nil]; rfl
  obtain ⟨H3, s3, g3, k3, n3⟩ := g2.storeN (n := 5) (new := [tv, cv, sv, .int .i64 ((cfgP []).back : Int), av]) rfl rfl on1
  obtain ⟨H4, s4, g4, k4⟩ := g3.make (ofBytes b11) 1
  obtain ⟨bb, hbb⟩ : ∃ bb, H3.next = bb := ⟨_, rfl⟩
  rw [hbb] at g4
  have mk4 := g4.mark (n := 11) (List.mem_cons_self ..) (by omega)
  have k14 := (k2.trans k3).trans k4
  have gr4 := g4.gr k14
  have ht4 := gr4.tabs gr1.fr ht1
  have hn4 := gr4.next
  simp only [run_allocL, val_ptr, s2, wp_store, s3, run_bsV, bs11, s4, hbb, val_slc, wp_mark, mk4, SX, reduceCtorEq, Nat.reduceEqDiff, ↓reduceIte, Int.reduceEq, Int.reduceLT, Int.reduceLE, Nat.reduceAdd]
  refine (read_spec sq (v := .slc bb 0 11 11) (s := b11) (g4.bysA (s := b11) (cap := 11) (List.mem_cons_self ..) (by simp [b11])) (by simp [b11]) g4.fr (by omega) ht4).mono ?_
  rintro _ H5 ⟨tv2, cv2, sv2, av2, rfl, tab2, cl2, sk2, ac2, gr5⟩
  rw [known2] at ac2
  have g5 := g4.keep gr5.keep gr5.next gr5.fr
  obtain ⟨H6, s6, g6, k6⟩ := g5.make [.nils, .nils, .nils, .int .i64 0, .nils] 5
  obtain ⟨b2, hb2⟩ : ∃ b2, H5.next = b2 := ⟨_, rfl⟩
  have on2 : ([tv2, cv2, sv2, .int .i64 ((cfgP b11).back : Int), av2] : List AV).all AV.one = true := by simp only [List.all_cons, tab2.one, cl2.one, sk2.one, ac2.one, List.all_nil]; rfl
  rw [hb2] at g6
  obtain ⟨H7, s7, g7, k7, n7⟩ := g6.storeN (n := 5) (new := [tv2, cv2, sv2, .int .i64 ((cfgP b11).back : Int), av2]) rfl rfl on2
  have hn5 := gr5.next
  have gr57 : Gr H5 H7 := by
    obtain ⟨Ha, sa, ga, ka⟩ := (Hp.nil H5 gr5.fr).make [.nils, .nils, .nils, .int .i64 0, .nils] 5
    rw [s6] at sa; subst sa
    obtain ⟨Hb, sb, gb, kb, _⟩ := ga.storeN (n := 5) (new := [tv2, cv2, sv2, .int .i64 ((cfgP b11).back : Int), av2]) rfl rfl on2
    rw [hb2, s7] at sb
    obtain rfl : H7 = Hb := (Prod.mk.inj (Option.some.inj sb)).2
    exact gb.gr (ka.trans kb)
  have ht7 := gr57.tabs gr5.fr (gr5.tabs g4.fr ht4)
  simp only [run_allocL, val_ptr, s6, hb2, wp_store, s7, SX, reduceCtorEq, Nat.reduceEqDiff, ↓reduceIte, Int.reduceEq, Int.reduceLT, Int.reduceLE, Nat.reduceAdd]
  refine fn_orc yes ht7 ?_
  have m1 : (⟨H1.next, 5, [tv, cv, sv, .int .i64 ((cfgP []).back : Int), av]⟩ : Cel) ∈ [(⟨b2, 5, [tv2, cv2, sv2, .int .i64 ((cfgP b11).back : Int), av2]⟩ : Cel), ⟨bb, 1, ofBytes b11⟩, ⟨H1.next, 5, [tv, cv, sv, .int .i64 ((cfgP []).back : Int), av]⟩] := by simp
  have l0 := g7.load m1 (o := 0) (v := tv) rfl
  have l1 := g7.load m1 (o := 1) (v := cv) rfl
  have l2 := g7.load m1 (o := 2) (v := sv) rfl
  have l4 := g7.load m1 (o := 4) (v := av) rfl
  have p4 := g7.load (List.mem_cons_self ..) (o := 4) (v := av2) rfl
  have t0 : lngV H7 1 tv = some (.int .i64 1) := tab.len H7
  have t1 : lngV H7 1 cv = some (.int .i64 1) := cl.len H7
  have t2 : lngV H7 1 sv = some (.int .i64 0) := sk.len H7
  have t4 : lngV H7 1 av = some (.int .i64 0) := ac.len H7
  have u4 : lngV H7 1 av2 = some (.int .i64 1) := ac2.len H7
  have gr15 : Gr H1 H5 := gr4.trans gr5
  have gr17 := gr15.trans gr57
  have cl7 := cl.of (H' := H7) fun x _ hx => gr17.keep x hx
  obtain ⟨bc, ci, _, cj⟩ := cl7.at (i := 0) rfl .i64
  have cj2 := cj 2 (.int .i64 2) rfl
  have ac7 := ac2.of (H' := H7) fun x _ hx => gr57.keep x hx
  obtain ⟨ba, ai, al, _⟩ := ac7.at (i := 0) rfl .i64
  have ci' : idxSV 3 cv (.int .i64 0) = some (.ptr bc (0 * 3)) := ci
  have ai' : idxSV 9 av2 (.int .i64 0) = some (.ptr ba (0 * 9)) := ai
  have cj2' : loadV H7 none (.ptr bc (0 * 3 + 2)) = some (.int .i64 2) := cj2
  have mk9 : mkV 1 1 [.int .u8 0] (.int .i64 9000) (.int .i64 9000) = some (.row ⟨List.replicate 9000 (.int .u8 0), 0, false, true, 0⟩, .slc 9000 9000) := mkV_one 9000 (by omega) (by omega) rfl
  rw [ofB_rep 9000] at mk9
  obtain ⟨H8, s8, g8, k8⟩ := (Hp.nil H7 g7.fr).make (ofBytes b9000) 1
  have gr78 := g8.gr k8
  have mk9' : mkV 1 1 [.int .u8 0] (.int .i64 9000) (.int .i64 9000) = some (.row ⟨ofBytes b9000, 0, false, true, 0⟩, .slc 9000 9000) := mk9
  have ht8 := gr78.tabs g7.fr ht7
  have hn7 := gr57.next
  have hn8 := gr78.next
  simp only [l0, l1, l2, l4, t0, t1, t2, t4, ci', cj2', run_mk, mk9', s8, val_slc, SX, reduceCtorEq, Nat.reduceEqDiff, ↓reduceIte, Int.reduceEq, Int.reduceLT, Int.reduceLE, Nat.reduceAdd]
  refine (read_spec sq (v := .slc H7.next 0 9000 9000) (s := b9000) (by have := g8.bysA (s := b9000) (cap := 9000) (List.mem_cons_self ..) (by rw [b9000_len]; omega); rwa [b9000_len] at this) (by rw [b9000_len]; omega) g8.fr (by omega) ht8).mono ?_
  rintro _ H9 ⟨tv3, cv3, sv3, av3, rfl, _, _, _, ac3, gr9⟩
  have w4 : lngV H9 1 av3 = some (.int .i64 200) := by
    have h1 := ac3.len H9
    rw [List.length_map, Nat.eq_of_beq_eq_true known3] at h1
    exact h1
  have g9 := g7.keep ((gr78.trans gr9).keep) ((gr78.trans gr9).next) gr9.fr
  have p4' := g9.load (List.mem_cons_self ..) (o := 4) (v := av2) rfl
  have u4' : lngV H9 1 av2 = some (.int .i64 1) := ac2.len H9
  have fv : fieldV 4 none (.agg [tv3, cv3, sv3, .int .i64 ((cfgP b9000).back : Int), av3]) = some av3 := rfl
  have ac9 := ac7.of (H' := H9) fun x _ hx => (gr78.trans gr9).keep x (by omega)
  obtain ⟨ba', ai9, al9, _⟩ := ac9.at (i := 0) rfl .i64
  have ai9' : idxSV 9 av2 (.int .i64 0) = some (.ptr ba' (0 * 9)) := ai9
  have bv5 : buildV zero9 [(0, 1, .int .u8 5)] = some (.agg [.int .u8 5, .int .i64 0, .int .i64 0, .int .i64 0, .int .i64 0, .int .i64 0, .int .i64 0, .int .i64 0, .str []]) := rfl
  unfold zero9 at bv5
  have sq9 : seqV [1, 1, 1, 1, 1, 1, 1, 1, 2] false (.agg [.int .u8 5, .int .i64 0, .int .i64 0, .int .i64 0, .int .i64 0, .int .i64 0, .int .i64 0, .int .i64 0, .str []]) (.agg [.int .u8 5, .int .i64 0, .int .i64 0, .int .i64 0, .int .i64 0, .int .i64 0, .int .i64 0, .int .i64 0, .str []]) = some (.bool true) := seq9 [.int .u8 5, .int .i64 0, .int .i64 0, .int .i64 0, .int .i64 0, .int .i64 0, .int .i64 0, .int .i64 0, .str []] rfl rfl false
  simp only [fv, w4, p4', u4', ai9', al9, run_build, bv5, run_seq, sq9, SX, reduceCtorEq, Nat.reduceEqDiff, ↓reduceIte, Int.reduceEq, Int.reduceLT, Int.reduceLE, Nat.reduceAdd]
end
end Go.Proofs.YtdkpmlhbofgfdaaDoor.AM
