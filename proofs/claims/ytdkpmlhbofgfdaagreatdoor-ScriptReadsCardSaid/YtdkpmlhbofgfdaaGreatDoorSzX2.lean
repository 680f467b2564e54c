/-
  Panes, commands, lines: walked.
-/
import Derived.Test.YtdkpmlhbofgfdaaGreatDoorSzX1
set_option linter.unusedVariables false
set_option linter.unusedSimpArgs false
namespace Go.Proofs.YtdkpmlhbofgfdaaGreatDoor.AM
open Go
def strsV (ws : List (List UInt8)) : List AV := ws.map .str
def intsV (ns : List Int) : List AV := ns.map (.int .i64)
theorem strsOf_map : ∀ ws : List (List UInt8), strsOf (strsV ws) = some ws
  | [] => rfl
  | w :: ws => by
    have : strsV (w :: ws) = .str w :: strsV ws := rfl
    rw [this]
    unfold strsOf
    rw [strsOf_map ws]
theorem ones_strs (ws : List (List UInt8)) : (strsV ws).all AV.one = true := by simp [strsV, AV.one]
theorem ones_ints (ns : List Int) : (intsV ns).all AV.one = true := by simp [intsV, AV.one]
theorem join_eq (c : UInt8) : ∀ ws : List (List UInt8), Lib.join ws [c] = joinW c ws
  | [] => rfl
  | w :: ws => by
    rw [Lib.join_cons, joinW_cons]
    congr 1
theorem joinO_grow {base n : Nat} {H : AHeap} {v : AV} {ws : List (List UInt8)} {rest : List Cel} (h : Grow 1 base H v (strsV ws) n rest) (hn : 0 < n) (hn2 : n ≤ 100000) {c : UInt8} (hl : (joinW c ws).length ≤ 100000) : joinO [v, .str [c]] H = some (.str (joinW c ws)) := by
  obtain ⟨h0, ⟨rfl, _⟩ | ⟨h1, b, rfl, h⟩⟩ := h
  · omega
  · obtain ⟨B, r, e⟩ := h.rowOf (List.mem_cons_self ..)
    have hc : cut B.cells 0 n = some (strsV ws) := by rw [e]; exact cut_all _ (by omega)
    simp only [joinO, r, hc, strsOf_map, join_eq]
    rw [if_pos ⟨hn, hn2, hl⟩]
def noC (i : Nat) : Bool := (decZ ((i : Int) - 4)).all (fun c => !(c == 32) && !(c == 46)) && decide ((decZ ((i : Int) - 4)).length ≤ 4)
theorem noC_all : ((List.range 260).all noC) = true := by decide +kernel
theorem noC_at {n : Int} (h0 : -4 ≤ n) (h1 : n < 256) : (32 : UInt8) ∉ decZ n ∧ (46 : UInt8) ∉ decZ n ∧ (decZ n).length ≤ 4 := by
  have := List.all_eq_true.1 noC_all (n + 4).toNat (List.mem_range.2 (by omega))
  unfold noC at this
  rw [show (((n + 4).toNat : Nat) : Int) - 4 = n by omega] at this
  simp only [Bool.and_eq_true, decide_eq_true_eq, List.all_eq_true] at this
  obtain ⟨a, b⟩ := this
  exact ⟨fun h => by have := (a 32 h).1; simp at this, fun h => by have := (a 46 h).2; simp at this, b⟩
def paneW (ns : List Int) : List UInt8 := 112 :: joinW 46 (ns.map decZ)
/-- three numbers of a pane -/
structure P3 (ns : List Int) : Prop where
  l : ns.length = 3
  b : ∀ n ∈ ns, 0 ≤ n ∧ n < 256
theorem join3_len {ns : List Int} (h : P3 ns) : (joinW 46 (ns.map decZ)).length ≤ 14 := by
  obtain ⟨hl, hb⟩ := h
  match ns, hl with
  | [a, b, c], _ =>
    have h1 := (noC_at (n := a) (by have := hb a (by simp); omega) (hb a (by simp)).2).2.2
    have h2 := (noC_at (n := b) (by have := hb b (by simp); omega) (hb b (by simp)).2).2.2
    have h3 := (noC_at (n := c) (by have := hb c (by simp); omega) (hb c (by simp)).2).2.2
    simp [joinW, tailS]; omega
theorem idxArr3 {a b c : AV} {i : Nat} {x : AV} (h : [a, b, c][i]? = some x) : idxArrV 3 1 none (.agg [a, b, c]) (.int .i64 (i : Int)) = some x := by
  match i, h with
  | 0, h => simpa [idxArrV, ROp.run, Opd.ev, inIndex, sub] using h
  | 1, h => simpa [idxArrV, ROp.run, Opd.ev, inIndex, sub] using h
  | 2, h => simpa [idxArrV, ROp.run, Opd.ev, inIndex, sub] using h
theorem boxV_agg {x : List AV} (h : x.all AV.one = true) : boxV (.agg x) = some (.row ⟨x, 0, false, true, 0⟩, .ptr) := by
  simp [boxV, AV.cells, h]
def mkV (es bs : Nat) (z : List AV) (l c : AV) : Option (AObj × AKind) := LOp.run .nil (.mkslice es bs z (.c l) (.c c))
theorem run_mk (e : Env) (es bs : Nat) (z : List AV) (l c : Opd) : LOp.run e (.mkslice es bs z l c) = mkV es bs z (l.ev e) (c.ev e) := rfl
theorem zeros_one (n : Nat) (z : AV) : zeros [z] n = List.replicate n z := by
  unfold zeros
  apply List.ext_getElem?
  intro i
  by_cases h : i < n
  · simp [h, Nat.mod_one]
  · simp [h]
theorem mkV_one (n : Nat) (h : n ≤ 1000000) {bs : Nat} (hb : bs ≤ 64) {z : AV} (hz : z.one = true) : mkV 1 bs [z] (.int .i64 n) (.int .i64 n) = some (.row ⟨List.replicate n z, 0, false, true, 0⟩, .slc n n) := by
  simp only [mkV, LOp.run, Opd.ev, Int.toNat_natCast, Nat.mul_one, zeros_one]
  have : bs * n ≤ 64 * n := Nat.mul_le_mul_right _ hb
  rw [if_pos ⟨by omega, by omega, by omega, by omega, by simp, by simp [hz]⟩]
theorem resCellT (e : Env) (H : AHeap) (i n j : Nat) : resVal e H [.cell i (some n), .t j] = (match loadV H (some n) (Env.get e i) with | some v => some (.tup [v, Env.get e j]) | none => none) := by
  simp only [resVal, resVals, ARes.val]
  show (match (match loadV H (some n) (Env.get e i) with | some v => some [v, Env.get e j] | none => none) with | some [v] => some v | some vs => some (.tup vs) | none => none) = _
  cases loadV H (some n) (Env.get e i) <;> rfl
theorem idxAV_at {b i : Nat} (h : i < 3) : idxAV 3 1 (.ptr b 0) (.int .i64 (i : Int)) = some (.ptr b i) := by
  simp only [idxAV, ROp.run, Opd.ev, inIndex, if_pos (show 0 ≤ (i : Int) ∧ (i : Int) < ((3 : Nat) : Int) by omega), Int.toNat_natCast, Nat.mul_one, Nat.zero_add]
theorem joinW_drop {c : UInt8} {ws : List (List UInt8)} {i : Nat} {w : List UInt8} (h : ws[i]? = some w) : joinW c (ws.drop i) = w ++ tailS c (ws.drop (i + 1)) := by
  obtain ⟨h1, h2⟩ := List.getElem?_eq_some_iff.1 h
  rw [List.drop_eq_getElem_cons h1, h2, joinW_cons]
theorem tailS_drop {c : UInt8} {ws : List (List UInt8)} {i : Nat} (h : i < ws.length) : tailS c (ws.drop i) = c :: joinW c (ws.drop i) := by
  rw [List.drop_eq_getElem_cons h, tailS_cons]
theorem joinW_len {c : UInt8} : ∀ ws : List (List UInt8), ws.length ≤ (joinW c ws).length + 1
  | [] => by simp
  | [w] => by simp [joinW]
  | w :: x :: ws => by
    have := joinW_len (c := c) (x :: ws)
    rw [joinW_cons, tailS_cons]
    simp only [List.length_append, List.length_cons] at this ⊢
    omega
section
variable {Q : Prog} (sq : ScQ Q) {H : AHeap}
include sq
set_option maxHeartbeats 1000000 in
theorem wordsP_spec {ns : List Int} (hns : P3 ns) (hf : Fr H) (h0 : 0 < H.next) (ht : hasTabs H Q.tabs = true) : FnTo Q 36 [.agg (intsV ns)] H (fun v H' => v = .tup [.str (paneW ns), .bool true] ∧ Gr H H') := by
  refine fn_wp (sq.ho 36 rfl _) sq.q36 (by simp [A36]) ?_
  obtain ⟨hl, hb⟩ := id hns
  obtain ⟨x, y, z, rfl⟩ : ∃ x y z, ns = [x, y, z] := by
    match ns, hl with
    | [a, b, c], _ => exact ⟨a, b, c, rfl⟩
  obtain ⟨H1, s1, g1, k1⟩ := (Hp.nil H hf).make (intsV [x, y, z]) 3
  obtain ⟨b1, hb1⟩ : ∃ b1, H.next = b1 := ⟨_, rfl⟩
  have l0 := g1.load (List.mem_cons_self ..) (o := 0) (v := .int .i64 x) rfl
  have l1 := g1.load (List.mem_cons_self ..) (o := 1) (v := .int .i64 y) rfl
  have l2 := g1.load (List.mem_cons_self ..) (o := 2) (v := .int .i64 z) rfl
  have bx := boxV_agg (ones_ints [x, y, z])
  have bv : buildV [.int .i64 0, .int .i64 0, .int .i64 0] [(0, 1, .int .i64 x), (1, 1, .int .i64 y), (2, 1, .int .i64 z)] = some (.agg (intsV [x, y, z])) := rfl
  simp only [A36, run_box, bx, val_ptr, s1, l0, l1, l2, run_build, bv, SX, reduceCtorEq, Nat.reduceEqDiff, ↓reduceIte, Int.reduceEq, Int.reduceLT, Int.reduceLE, Nat.reduceAdd]
  obtain ⟨I, hI⟩ : ∃ I : Nat → Env → AHeap → Prop, ∀ m e H', I m e H' ↔ (∃ i v, m = 3 - i ∧ i ≤ 3 ∧ Grow 1 H.next H' v (strsV ((([x, y, z] : List Int).take i).map decZ)) i [] ∧ Keep H.next H H' ∧ Env.get e 4 = v ∧ Env.get e 13 = .agg (intsV [x, y, z]) ∧ Env.get e 14 = .int .i64 (i : Int)) := ⟨_, fun _ _ _ => Iff.rfl⟩
  refine loop_by I 3 ?_ ?_
  · exact (hI _ _ _).2 ⟨0, .nils, rfl, by omega, Grow.nil 1 g1.drop, k1, (by first | (simp only [SG, reduceCtorEq, Nat.reduceEqDiff, ↓reduceIte] <;> rfl) | rfl), (by first | (simp only [SG, reduceCtorEq, Nat.reduceEqDiff, ↓reduceIte] <;> rfl) | rfl), (by first | (simp only [SG, reduceCtorEq, Nat.reduceEqDiff, ↓reduceIte] <;> rfl) | rfl)⟩
  · intro m' e H2 hinv
    obtain ⟨i, v, rfl, hi, gw, k2, e4, e13, e14⟩ := (hI _ _ _).1 hinv
    by_cases d : (i : Int) < 3
    · obtain ⟨n, hn⟩ : ∃ n, ([x, y, z] : List Int)[i]? = some n := ⟨_, List.getElem?_eq_getElem (by simp; omega)⟩
      obtain ⟨n0, n1⟩ := hb n (List.mem_of_getElem? hn)
      have ix : idxArrV 3 1 none (.agg (intsV [x, y, z])) (.int .i64 (i : Int)) = some (.int .i64 n) := by
        refine idxArr3 (a := .int .i64 x) (b := .int .i64 y) (c := .int .i64 z) ?_
        have := congrArg (Option.map (AV.int .i64)) hn
        rw [← List.getElem?_map] at this
        exact this
      have d1 : ¬ n < 0 := by omega
      have d2 : ¬ 2147483647 < n := by omega
      simp only [A36_lp, e4, e13, e14, d, run_idxArr, ix, d1, d2, SX, reduceCtorEq, Nat.reduceEqDiff, ↓reduceIte, Int.reduceEq, Int.reduceLT, Int.reduceLE, Nat.reduceAdd]
      refine fn_orc (sq.o25 n (by omega) n1) (k2.tabs sq.tz h0 ht) ?_
      have bsv : bs1V (.str (decZ n)) = some (.row ⟨[.str (decZ n)], 0, false, true, 0⟩, .slc 1 1) := rfl
      obtain ⟨H3, H4, v4, s3, s4, g4, k4, _, _⟩ := gw.push (r := [.str (decZ n)]) rfl rfl (by omega) (bytes := 16) (by omega) (by omega)
      have w1 : IntKind.wrap .i64 ((i : Int) + 1) = ((i + 1 : Nat) : Int) := wrapNat (n := i + 1) (by omega)
      simp only [e4, e13, e14, bsv, s3, wp_append, s4, w1, SX, reduceCtorEq, Nat.reduceEqDiff, ↓reduceIte, Int.reduceEq, Int.reduceLT, Int.reduceLE, Nat.reduceAdd]
      exact ⟨3 - (i + 1), by omega, (hI _ _ _).2 ⟨i + 1, v4, rfl, by omega, by rw [List.take_add_one, hn]; simpa [strsV] using g4, k2.trans k4, (by first | (simp only [SG, reduceCtorEq, Nat.reduceEqDiff, ↓reduceIte] <;> rfl) | rfl), (by simp only [SG, reduceCtorEq, Nat.reduceEqDiff, ↓reduceIte, e13] <;> rfl), (by first | (simp only [SG, reduceCtorEq, Nat.reduceEqDiff, ↓reduceIte] <;> rfl) | rfl)⟩⟩
    · obtain rfl : i = 3 := by omega
      have hj := joinO_grow (c := 46) gw (by omega) (by omega) (by have := join3_len hns; simp only [List.take_succ_cons, List.take_zero] at this ⊢; omega)
      simp only [A36_lp, e4, e13, e14, d, SX, reduceCtorEq, Nat.reduceEqDiff, ↓reduceIte, Int.reduceEq, Int.reduceLT, Int.reduceLE, Nat.reduceAdd]
      refine fn_orh (sq.ho 40 rfl _) sq.n30 ((sq.j30 _ _).trans hj) ?_
      have ad := bin_adds [112] (joinW 46 (List.map decZ (List.take 3 [x, y, z]))) (by have := join3_len hns; simp only [List.take_succ_cons, List.take_zero, List.length_cons, List.length_nil] at this ⊢; omega)
      simp only [ad, SX, reduceCtorEq, Nat.reduceEqDiff, ↓reduceIte, Int.reduceEq, Int.reduceLT, Int.reduceLE, Nat.reduceAdd]
      exact ⟨rfl, gw.hp.gr k2⟩
set_option maxHeartbeats 2000000 in
theorem split_spec {c : UInt8} {ws : List (List UInt8)} (hws : ∀ w ∈ ws, c ∉ w) (hn0 : 0 < ws.length) (hn : (joinW c ws).length ≤ 10000) (hf : Fr H) (h0 : 0 < H.next) (ht : hasTabs H Q.tabs = true) :
    FnTo Q 62 [.str (joinW c ws), .str [c]] H (fun v H' => ∃ b, v = .slc b 0 ws.length ws.length ∧ Hp H.next H' [⟨b, 1, strsV ws⟩] ∧ Keep H.next H H') := by
  refine fn_wp (sq.ho 62 rfl _) sq.q62 (by simp [A62]) ?_
  simp only [A62, SX, reduceCtorEq, Nat.reduceEqDiff, ↓reduceIte, Int.reduceEq, Int.reduceLT, Int.reduceLE, Nat.reduceAdd]
  refine FnTo.mono (K := fun v H' => ∃ b, v = .slc b 0 ws.length ws.length ∧ Hp H.next H' [⟨b, 1, strsV ws⟩] ∧ Keep H.next H H') ?_ ?_
  rotate_left
  · rintro _ H1 ⟨b, rfl, g1, k1⟩
    simp only [SX, reduceCtorEq, Nat.reduceEqDiff, ↓reduceIte, Int.reduceEq, Int.reduceLT, Int.reduceLE, Nat.reduceAdd]
    exact ⟨b, rfl, g1, k1⟩
  refine fn_wp (sq.ho 79 rfl _) sq.q79 (by simp [A79]) ?_
  have es : binV .eql (.str [c]) (.str []) = some (.bool false) := by rw [bin_eqs]; simp
  simp only [A79, es, SX, reduceCtorEq, Nat.reduceEqDiff, ↓reduceIte, Int.reduceEq, Int.reduceLT, Int.reduceLE, Nat.reduceAdd]
  refine fn_orc (sq.o82 _ _) ht ?_
  have hc : Lib.countByte (joinW c ws) c + 1 = ws.length := by
    cases ws with
    | nil => simp at hn0
    | cons w ws => rw [count_join hws]; rfl
  have jl := joinW_len (c := c) ws
  have w1 : IntKind.wrap .i64 (((Lib.countByte (joinW c ws) c : Nat) : Int) + 1) = ((ws.length : Nat) : Int) := by rw [← hc, wrapI64 (by omega) (by omega)]; omega
  have w2 : IntKind.wrap .i64 (((joinW c ws).length : Int) + 1) = (((joinW c ws).length + 1 : Nat) : Int) := by rw [wrapI64 (by omega) (by omega)]; omega
  have mn : mnmxV false (.int .i64 ((ws.length : Nat) : Int)) [.int .i64 (((joinW c ws).length + 1 : Nat) : Int)] = some (.int .i64 ((ws.length : Nat) : Int)) := by
    rw [mnmxV2min]; congr 2; omega
  have mk := mkV_one ws.length (by omega) (bs := 16) (by omega) (z := .str []) rfl
  obtain ⟨H1, s1, g1, k1⟩ := (Hp.nil H hf).make (List.replicate ws.length (.str [])) 1
  obtain ⟨b, hb⟩ : ∃ b, H.next = b := ⟨_, rfl⟩
  have w3 : IntKind.wrap .i64 (((ws.length : Nat) : Int) - 1) = ((ws.length - 1 : Nat) : Int) := by rw [wrapI64 (by omega) (by omega)]; omega
  simp only [w1, w2, run_mnmx, mn, A79_rest, run_mk, mk, s1, w3, val_slc, SX, reduceCtorEq, Nat.reduceEqDiff, ↓reduceIte, Int.reduceEq, Int.reduceLT, Int.reduceLE, Nat.reduceAdd]
  rw [hb]
  obtain ⟨I, hI⟩ : ∃ I : Nat → Env → AHeap → Prop, ∀ m e H', I m e H' ↔ (∃ i, m = ws.length - i ∧ i < ws.length ∧ Hp H.next H' [⟨b, 1, strsV (ws.take i) ++ List.replicate (ws.length - i) (.str [])⟩] ∧ Keep H.next H H' ∧ Env.get e 0 = .str (joinW c (ws.drop i)) ∧ Env.get e 1 = .str [c] ∧ Env.get e 2 = .int .i64 0 ∧ Env.get e 3 = .int .i64 ((ws.length - 1 : Nat) : Int) ∧ Env.get e 9 = .slc b 0 ws.length ws.length ∧ Env.get e 10 = .int .i64 (i : Int)) := ⟨_, fun _ _ _ => Iff.rfl⟩
  refine loop_by I ws.length ?_ ?_
  · exact (hI _ _ _).2 ⟨0, rfl, hn0, by rw [← hb]; simpa [strsV] using g1, k1, (by first | (simp only [SG, reduceCtorEq, Nat.reduceEqDiff, ↓reduceIte] <;> rfl) | rfl), (by first | (simp only [SG, reduceCtorEq, Nat.reduceEqDiff, ↓reduceIte] <;> rfl) | rfl), (by first | (simp only [SG, reduceCtorEq, Nat.reduceEqDiff, ↓reduceIte] <;> rfl) | rfl), (by first | (simp only [SG, reduceCtorEq, Nat.reduceEqDiff, ↓reduceIte] <;> rfl) | rfl), (by first | (simp only [SG, reduceCtorEq, Nat.reduceEqDiff, ↓reduceIte] <;> rfl) | rfl), (by first | (simp only [SG, reduceCtorEq, Nat.reduceEqDiff, ↓reduceIte] <;> rfl) | rfl)⟩
  · intro m' e H2 hinv
    obtain ⟨i, rfl, hi, g2, k2, e0, e1, e2, e3, e9, e10⟩ := (hI _ _ _).1 hinv
    obtain ⟨w, hw⟩ : ∃ w, ws[i]? = some w := ⟨_, List.getElem?_eq_getElem hi⟩
    have hcw := hws w (List.mem_of_getElem? hw)
    have jd := joinW_drop (c := c) hw
    have ix := idxSV_k (b := b) (n := ws.length) (cap := ws.length) (k := 1) (kd := .i64) hi
    rw [Nat.mul_one] at ix
    have stl : (strsV (ws.take i) ++ List.replicate (ws.length - i) (AV.str [])).set i (.str w) = strsV (ws.take (i + 1)) ++ List.replicate (ws.length - (i + 1)) (.str []) := by
      have hl : (strsV (ws.take i)).length = i := by simp [strsV]; omega
      obtain ⟨r, hr⟩ : ∃ r, ws.length - i = r + 1 := ⟨ws.length - i - 1, by omega⟩
      rw [hr, show ws.length - (i + 1) = r by omega, List.replicate_succ, List.take_add_one, hw, List.set_append_right _ _ (by omega), hl, Nat.sub_self]
      simp [strsV]
    obtain ⟨H3, s3, g3, k3, n3⟩ := g2.store (o := i) (v := .str w) rfl (by simp [strsV]; omega)
    rw [stl] at g3
    by_cases d : i < ws.length - 1
    · have d' : (i : Int) < ((ws.length - 1 : Nat) : Int) := by omega
      have td := tailS_drop (c := c) (ws := ws) (i := i + 1) (by omega)
      rw [td] at jd
      rw [jd] at e0
      have hl2 : w.length + 1 ≤ 100000 := by
        have h1 : (joinW c (ws.drop i)).length ≤ (joinW c ws).length := by
          have : ∀ (j : Nat) (l : List (List UInt8)), (joinW c (l.drop j)).length ≤ (joinW c l).length := by
            intro j
            induction j with
            | zero => intro l; simp
            | succ j ih =>
              intro l
              cases l with
              | nil => simp
              | cons x l =>
                refine Nat.le_trans (by simpa using ih l) ?_
                cases l with
                | nil => simp [joinW]
                | cons y l => rw [joinW_cons c x, tailS_cons]; simp; omega
          exact this i ws
        rw [jd] at h1
        simp at h1; omega
      have ia := index_at (c := c) (r := joinW c (ws.drop (i + 1))) hcw
      simp only [A79_lp, e0, e1, e2, e3, e9, e10, d', SX, reduceCtorEq, Nat.reduceEqDiff, ↓reduceIte, Int.reduceEq, Int.reduceLT, Int.reduceLE, Nat.reduceAdd]
      refine fn_wp (sq.ho 93 rfl _) sq.q93 (by simp [A93]) ?_
      simp only [A93, SX, reduceCtorEq, Nat.reduceEqDiff, ↓reduceIte, Int.reduceEq, Int.reduceLT, Int.reduceLE, Nat.reduceAdd]
      refine fn_orc (sq.o49 _ _) (k2.tabs sq.tz h0 ht) ?_
      rw [ia]
      have d2 : ¬ ((w.length : Int) < 0) := by omega
      have w4 : IntKind.wrap .i64 ((w.length : Int) + 0) = (w.length : Int) := by rw [wrapI64 (by omega) (by omega)]; omega
      have w5 : IntKind.wrap .i64 ((w.length : Int) + (([c] : List UInt8).length : Int)) = ((w.length + 1 : Nat) : Int) := by
        simp only [List.length_cons, List.length_nil]; rw [wrapI64 (by omega) (by omega)]; rfl
      have sl1 := slStr_w w c (joinW c (ws.drop (i + 1)))
      have sl2 := slStr_r w c (joinW c (ws.drop (i + 1)))
      have w6 : IntKind.wrap .i64 ((i : Int) + 1) = ((i + 1 : Nat) : Int) := wrapNat (n := i + 1) (by omega)
      simp only [e0, e1, e2, e3, e9, e10, d2, w4, w5, run_slStr, sl1, sl2, ix, wp_store, s3, w6, SX, reduceCtorEq, Nat.reduceEqDiff, ↓reduceIte, Int.reduceEq, Int.reduceLT, Int.reduceLE, Nat.reduceAdd]
      exact ⟨ws.length - (i + 1), by omega, (hI _ _ _).2 ⟨i + 1, rfl, by omega, g3, k2.trans k3, (by first | (simp only [SG, reduceCtorEq, Nat.reduceEqDiff, ↓reduceIte] <;> rfl) | rfl), (by simp only [SG, reduceCtorEq, Nat.reduceEqDiff, ↓reduceIte, e1] <;> rfl), (by simp only [SG, reduceCtorEq, Nat.reduceEqDiff, ↓reduceIte, e2] <;> rfl), (by simp only [SG, reduceCtorEq, Nat.reduceEqDiff, ↓reduceIte, e3] <;> rfl), (by simp only [SG, reduceCtorEq, Nat.reduceEqDiff, ↓reduceIte, e9] <;> rfl), (by first | (simp only [SG, reduceCtorEq, Nat.reduceEqDiff, ↓reduceIte] <;> rfl) | rfl)⟩⟩
    · have d' : ¬ ((i : Int) < ((ws.length - 1 : Nat) : Int)) := by omega
      have hd0 : ws.drop (i + 1) = [] := List.drop_eq_nil_of_le (by omega)
      rw [hd0] at jd
      have jd' : joinW c (ws.drop i) = w := by rw [jd]; simp [tailS]
      rw [jd'] at e0
      have w6 : IntKind.wrap .i64 ((i : Int) + 1) = ((ws.length : Nat) : Int) := by rw [wrapI64 (by omega) (by omega)]; omega
      have sl := g3.slice (n := ws.length) (k := ws.length) (List.mem_cons_self ..) (Nat.le_refl _)
      have tk : ws.take (i + 1) = ws := List.take_of_length_le (by omega)
      have ze : ws.length - (i + 1) = 0 := by omega
      rw [tk, ze] at g3
      simp only [A79_lp, A79_tl, e0, e1, e2, e3, e9, e10, d', ix, wp_store, s3, w6, run_slS, sl, SX, reduceCtorEq, Nat.reduceEqDiff, ↓reduceIte, Int.reduceEq, Int.reduceLT, Int.reduceLE, Nat.reduceAdd]
      have k4 := k2.trans k3
      rw [hb] at g3 k4
      exact ⟨b, rfl, by simpa using g3, k4⟩
end
theorem bin_nes (a : List UInt8) : binV .neq (.str a) (.str a) = some (.bool false) := by simp [binV, strBin]
theorem seq3_same (x y z : Int) : seqV [1, 1, 1] false (.agg [.int .i64 x, .int .i64 y, .int .i64 z]) (.agg [.int .i64 x, .int .i64 y, .int .i64 z]) = some (.bool true) := by
  simp [seqV, ROp.run, Opd.ev, cellsEq]
def cmdL (name : List UInt8) (v : AV) (x y z : Int) (t : List UInt8) : List AV := [.str name, v, .int .i64 x, .int .i64 y, .int .i64 z, .str t]
theorem cmdL_ones {name : List UInt8} {v : AV} {x y z : Int} {t : List UInt8} (h : v.one = true) : (cmdL name v x y z t).all AV.one = true := by
  simp only [cmdL, List.all_cons, h, List.all_nil]; rfl
theorem IsS.one {α : Type} {R : AHeap → α → AV → Prop} {H : AHeap} {v : AV} {l : List α} (h : IsS R H v l) : v.one = true := by
  rcases h with ⟨rfl, _⟩ | ⟨b, o, cap, B, rfl, _⟩ <;> rfl
theorem Grow.isS {base n : Nat} {H : AHeap} {v : AV} {ns : List Int} {rest : List Cel} (h : Grow 1 base H v (intsV ns) n rest) : IsS IsI H v ns := by
  obtain ⟨h0, ⟨rfl, rfl, h⟩ | ⟨h1, b, rfl, h⟩⟩ := h
  · have : ns = [] := List.eq_nil_of_length_eq_zero (by simpa [intsV] using h0)
    exact .inl ⟨rfl, this⟩
  · have hn : ns.length = n := by simpa [intsV] using h0
    subst hn
    exact h.isS (List.mem_cons_self ..) (Nat.le_refl _) fun i x hx => ⟨.int .i64 x, by simp [intsV, hx], rfl⟩
section
variable {Q : Prog} (sq : ScQ Q) {H : AHeap}
include sq
set_option maxHeartbeats 2000000 in
theorem parsePane_spec {ns : List Int} (hns : P3 ns) (hf : Fr H) (h0 : 0 < H.next) (ht : hasTabs H Q.tabs = true) : FnTo Q 51 [.str (paneW ns)] H (fun v H' => v = .tup [.agg (intsV ns), .bool true] ∧ Gr H H') := by
  refine fn_wp (sq.ho 51 rfl _) sq.q51 (by simp [A51]) ?_
  obtain ⟨hl, hb⟩ := id hns
  obtain ⟨x, y, z, rfl⟩ : ∃ x y z, ns = [x, y, z] := by
    match ns, hl with
    | [a, b, c], _ => exact ⟨a, b, c, rfl⟩
  obtain ⟨H1, s1, g1, k1⟩ := (Hp.nil H hf).make [.int .i64 0, .int .i64 0, .int .i64 0] 3
  obtain ⟨b2, hb2⟩ : ∃ b2, H.next = b2 := ⟨_, rfl⟩
  have n1 : H1.next = H.next + 1 := by rw [← s1]; rfl
  have ht1 := k1.tabs sq.tz h0 ht
  simp only [A51, run_allocL, val_ptr, s1, SX, reduceCtorEq, Nat.reduceEqDiff, ↓reduceIte, Int.reduceEq, Int.reduceLT, Int.reduceLE, Nat.reduceAdd]
  refine (cutp_spec sq (c := 112) (r := joinW 46 (([x, y, z] : List Int).map decZ)) (by have := join3_len hns; omega)).mono ?_
  rintro _ _ ⟨rfl, rfl⟩
  simp only [ext20, ext21, SX, reduceCtorEq, Nat.reduceEqDiff, ↓reduceIte, Int.reduceEq, Int.reduceLT, Int.reduceLE, Nat.reduceAdd]
  have hno : ∀ w ∈ (([x, y, z] : List Int).map decZ), (46 : UInt8) ∉ w := by
    intro w hw
    obtain ⟨n, hn, rfl⟩ := List.mem_map.1 hw
    exact (noC_at (by have := hb n hn; omega) (hb n hn).2).2.1
  refine (split_spec sq hno (by simp) (by have := join3_len hns; omega) g1.fr (by omega) ht1).mono ?_
  rintro _ H2 ⟨b, hv, g2, k2⟩
  rw [show (List.map decZ [x, y, z]).length = 3 from rfl] at hv
  subst hv
  have gr2 := g2.gr k2
  have g2' := g1.joinG gr2 g2
  simp only [List.cons_append, List.nil_append] at g2'
  obtain ⟨H3, s3, g3, k3⟩ := g2'.make [.int .i64 0, .int .i64 0, .int .i64 0] 3
  obtain ⟨b7, hb7⟩ : ∃ b7, H2.next = b7 := ⟨_, rfl⟩
  have ln : lngV H3 1 (.slc b 0 3 3) = some (.int .i64 3) := rfl
  have k13 : Keep H.next H H3 := (k1.trans (k2.le (by omega))).trans k3
  simp only [A51_rest, run_allocL, val_ptr, s3, ln, SX, reduceCtorEq, Nat.reduceEqDiff, ↓reduceIte, Int.reduceEq, Int.reduceLT, Int.reduceLE, Nat.reduceAdd]
  rw [hb7] at g3 ⊢
  obtain ⟨I, hI⟩ : ∃ I : Nat → Env → AHeap → Prop, ∀ m e H', I m e H' ↔ (∃ i, m = 3 - i ∧ i ≤ 3 ∧ Hp H.next H' [⟨b7, 3, intsV (([x, y, z] : List Int).take i) ++ List.replicate (3 - i) (.int .i64 0)⟩, ⟨b, 1, strsV (([x, y, z] : List Int).map decZ)⟩, ⟨H.next, 3, [.int .i64 0, .int .i64 0, .int .i64 0]⟩] ∧ Keep H.next H H' ∧ Env.get e 0 = .str (paneW [x, y, z]) ∧ Env.get e 2 = .ptr H.next 0 ∧ Env.get e 6 = .slc b 0 3 3 ∧ Env.get e 7 = .ptr b7 0 ∧ Env.get e 27 = .int .i64 (i : Int)) := ⟨_, fun _ _ _ => Iff.rfl⟩
  refine loop_by I 3 ?_ ?_
  · exact (hI _ _ _).2 ⟨0, rfl, by omega, by simpa [intsV] using g3, k13, (by first | (simp only [SG, reduceCtorEq, Nat.reduceEqDiff, ↓reduceIte] <;> rfl) | rfl), (by first | (simp only [SG, reduceCtorEq, Nat.reduceEqDiff, ↓reduceIte] <;> rfl) | rfl), (by first | (simp only [SG, reduceCtorEq, Nat.reduceEqDiff, ↓reduceIte] <;> rfl) | rfl), (by first | (simp only [SG, reduceCtorEq, Nat.reduceEqDiff, ↓reduceIte] <;> rfl) | rfl), (by first | (simp only [SG, reduceCtorEq, Nat.reduceEqDiff, ↓reduceIte] <;> rfl) | rfl)⟩
  · intro m' e H4 hinv
    obtain ⟨i, rfl, hi, g4, k4, e0, e2, e6, e7, e27⟩ := (hI _ _ _).1 hinv
    by_cases d : (i : Int) < 3
    · obtain ⟨n, hn⟩ : ∃ n, ([x, y, z] : List Int)[i]? = some n := ⟨_, List.getElem?_eq_getElem (by simp; omega)⟩
      obtain ⟨n0, n1⟩ := hb n (List.mem_of_getElem? hn)
      have ix := idxSV_k (b := b) (n := 3) (cap := 3) (k := 1) (kd := .i64) (i := i) (by omega)
      rw [Nat.mul_one] at ix
      have ld := g4.load (b := b) (k := 1) (cs := strsV (([x, y, z] : List Int).map decZ)) (by simp) (o := i) (v := .str (decZ n)) (by simp only [strsV, List.getElem?_map, hn]; rfl)
      have ia := idxAV_at (b := b7) (i := i) (by omega)
      simp only [A51_lp, e0, e2, e6, e7, e27, d, ix, ld, SX, reduceCtorEq, Nat.reduceEqDiff, ↓reduceIte, Int.reduceEq, Int.reduceLT, Int.reduceLE, Nat.reduceAdd]
      refine fn_orc (sq.o50 n (by omega) n1) (k4.tabs sq.tz h0 ht) ?_
      obtain ⟨H5, s5, g5, k5, _⟩ := g4.store (o := i) (v := .int .i64 n) rfl (by simp [intsV]; omega)
      have stl : (intsV (([x, y, z] : List Int).take i) ++ List.replicate (3 - i) (AV.int .i64 0)).set i (.int .i64 n) = intsV (([x, y, z] : List Int).take (i + 1)) ++ List.replicate (3 - (i + 1)) (.int .i64 0) := by
        have hi3 : i < 3 := by omega
        match i, hi3, hn with
        | 0, _, hn => simp at hn; subst hn; rfl
        | 1, _, hn => simp at hn; subst hn; rfl
        | 2, _, hn => simp at hn; subst hn; rfl
      rw [stl] at g5
      have w1 : IntKind.wrap .i64 ((i : Int) + 1) = ((i + 1 : Nat) : Int) := wrapNat (n := i + 1) (by omega)
      simp only [e0, e2, e6, e7, e27, ext20, ext21, run_idxA, ia, wp_store, s5, w1, SX, reduceCtorEq, Nat.reduceEqDiff, ↓reduceIte, Int.reduceEq, Int.reduceLT, Int.reduceLE, Nat.reduceAdd]
      exact ⟨3 - (i + 1), by omega, (hI _ _ _).2 ⟨i + 1, rfl, by omega, g5, k4.trans k5, (by simp only [SG, reduceCtorEq, Nat.reduceEqDiff, ↓reduceIte, e0] <;> rfl), (by simp only [SG, reduceCtorEq, Nat.reduceEqDiff, ↓reduceIte, e2] <;> rfl), (by simp only [SG, reduceCtorEq, Nat.reduceEqDiff, ↓reduceIte, e6] <;> rfl), (by simp only [SG, reduceCtorEq, Nat.reduceEqDiff, ↓reduceIte, e7] <;> rfl), (by first | (simp only [SG, reduceCtorEq, Nat.reduceEqDiff, ↓reduceIte] <;> rfl) | rfl)⟩⟩
    · obtain rfl : i = 3 := by omega
      have j0 : idxAV 3 1 (.ptr b7 0) (.int .i64 0) = some (.ptr b7 0) := rfl
      have j1 : idxAV 3 1 (.ptr b7 0) (.int .i64 1) = some (.ptr b7 1) := rfl
      have j2 : idxAV 3 1 (.ptr b7 0) (.int .i64 2) = some (.ptr b7 2) := rfl
      have l0 := g4.load (List.mem_cons_self ..) (o := 0) (v := .int .i64 x) rfl
      have l1 := g4.load (List.mem_cons_self ..) (o := 1) (v := .int .i64 y) rfl
      have l2 := g4.load (List.mem_cons_self ..) (o := 2) (v := .int .i64 z) rfl
      have bv : buildV [.int .i64 0, .int .i64 0, .int .i64 0] [(0, 1, .int .i64 x), (1, 1, .int .i64 y), (2, 1, .int .i64 z)] = some (.agg (intsV [x, y, z])) := rfl
      obtain ⟨H5, s5, g5, k5⟩ := g4.make [.int .i64 0, .int .i64 0, .int .i64 0] 3
      obtain ⟨b9, hb9⟩ : ∃ b9, H4.next = b9 := ⟨_, rfl⟩
      rw [hb9] at g5
      obtain ⟨H6, s6, g6, k6, _⟩ := g5.storeN (n := 3) (new := intsV [x, y, z]) rfl rfl rfl
      have l6 := g6.loadN (List.mem_cons_self ..) (n := 3) rfl
      have ht6 := ((k4.trans k5).trans k6).tabs sq.tz h0 ht
      have h06 : 0 < H6.next := by have := g6.bn; omega
      simp only [A51_lp, A51_tl, e0, e2, e6, e7, e27, d, run_idxA, j0, j1, j2, l0, l1, l2, run_build, bv, run_allocL, val_ptr, s5, hb9, wp_store, s6, l6, SX, reduceCtorEq, Nat.reduceEqDiff, ↓reduceIte, Int.reduceEq, Int.reduceLT, Int.reduceLE, Nat.reduceAdd]
      refine (wordsP_spec sq hns g6.fr h06 ht6).mono ?_
      rintro _ H7 ⟨rfl, gr7⟩
      have g7 := g6.keep gr7.keep gr7.next gr7.fr
      have ne := bin_nes (paneW [x, y, z])
      have l7 := g7.loadN (List.mem_cons_self ..) (n := 3) rfl
      obtain ⟨H8, s8, g8, k8, _⟩ := g7.rot4.storeN (n := 3) (new := intsV [x, y, z]) rfl rfl rfl
      have l8 := g8.loadN (List.mem_cons_self ..) (n := 3) rfl
      have k7 : Keep H.next H6 H7 := gr7.keep.le (by have := g6.bn; omega)
      simp only [e0, e2, ext20, ext21, ne, l7, s8, resCellT, l8, SX, reduceCtorEq, Nat.reduceEqDiff, ↓reduceIte, Int.reduceEq, Int.reduceLT, Int.reduceLE, Nat.reduceAdd]
      exact g8.gr ((((k4.trans k5).trans k6).trans k7).trans k8)
set_option maxHeartbeats 1000000 in
theorem equal_spec {v w : AV} {l : List Int} (hv : IsS IsI H v l) (hw : IsS IsI H w l) (hl : l.length ≤ 10000) : FnTo Q 43 [v, w] H (fun r H' => r = .bool true ∧ H' = H) := by
  refine fn_wp (sq.ho 43 rfl _) sq.q43 (by simp [A43]) ?_
  have lv := hv.len
  have lw := hw.len
  simp only [A43, lv, lw, SX, reduceCtorEq, Nat.reduceEqDiff, ↓reduceIte, Int.reduceEq, Int.reduceLT, Int.reduceLE, Nat.reduceAdd]
  obtain ⟨I, hI⟩ : ∃ I : Nat → Env → AHeap → Prop, ∀ m e H', I m e H' ↔ (∃ i, m = l.length - i ∧ i ≤ l.length ∧ H' = H ∧ Env.get e 0 = v ∧ Env.get e 1 = w ∧ Env.get e 12 = .int .i64 (l.length : Int) ∧ Env.get e 13 = .int .i64 (i : Int)) := ⟨_, fun _ _ _ => Iff.rfl⟩
  refine loop_by I l.length ?_ ?_
  · exact (hI _ _ _).2 ⟨0, rfl, by omega, rfl, (by first | (simp only [SG, reduceCtorEq, Nat.reduceEqDiff, ↓reduceIte] <;> rfl) | rfl), (by first | (simp only [SG, reduceCtorEq, Nat.reduceEqDiff, ↓reduceIte] <;> rfl) | rfl), (by first | (simp only [SG, reduceCtorEq, Nat.reduceEqDiff, ↓reduceIte] <;> rfl) | rfl), (by first | (simp only [SG, reduceCtorEq, Nat.reduceEqDiff, ↓reduceIte] <;> rfl) | rfl)⟩
  · intro m' e H2 hinv
    obtain ⟨i, rfl, hi, rfl, e0, e1, e12, e13⟩ := (hI _ _ _).1 hinv
    by_cases d : (i : Int) < (l.length : Int)
    · obtain ⟨a, ha⟩ : ∃ a, l[i]? = some a := ⟨_, List.getElem?_eq_getElem (by omega)⟩
      have iv := hv.at (i := i) (by omega) (by omega) .i64
      have iw := hw.at (i := i) (by omega) (by omega) .i64
      have ldv := hv.int (i := i) (by simpa using ha)
      have ldw := hw.int (i := i) (by simpa using ha)
      have w1 : IntKind.wrap .i64 ((i : Int) + 1) = ((i + 1 : Nat) : Int) := wrapNat (n := i + 1) (by omega)
      simp only [e0, e1, e12, e13, d, iv, iw, ldv, ldw, w1, SX, reduceCtorEq, Nat.reduceEqDiff, ↓reduceIte, Int.reduceEq, Int.reduceLT, Int.reduceLE, Nat.reduceAdd]
      exact ⟨l.length - (i + 1), by omega, (hI _ _ _).2 ⟨i + 1, rfl, by omega, rfl, (by simp only [SG, reduceCtorEq, Nat.reduceEqDiff, ↓reduceIte, e0] <;> rfl), (by simp only [SG, reduceCtorEq, Nat.reduceEqDiff, ↓reduceIte, e1] <;> rfl), (by simp only [SG, reduceCtorEq, Nat.reduceEqDiff, ↓reduceIte, e12] <;> rfl), (by first | (simp only [SG, reduceCtorEq, Nat.reduceEqDiff, ↓reduceIte] <;> rfl) | rfl)⟩⟩
    · simp only [e0, e1, e12, e13, d, SX, reduceCtorEq, Nat.reduceEqDiff, ↓reduceIte, Int.reduceEq, Int.reduceLT, Int.reduceLE, Nat.reduceAdd]
set_option maxHeartbeats 1000000 in
theorem same_spec {name t : List UInt8} {v w : AV} {x y z : Int} {l : List Int} (hf : Fr H) (hv : IsS IsI H v l) (hw : IsS IsI H w l) (hl : l.length ≤ 10000) : FnTo Q 38 [.agg (cmdL name v x y z t), .agg (cmdL name w x y z t)] H (fun r H' => r = .bool true ∧ Gr H H') := by
  refine fn_wp (sq.ho 38 rfl _) sq.q38 (by simp [A38]) ?_
  have bv := boxV_agg (cmdL_ones (name := name) (x := x) (y := y) (z := z) (t := t) hv.one)
  have bw := boxV_agg (cmdL_ones (name := name) (x := x) (y := y) (z := z) (t := t) hw.one)
  obtain ⟨H1, s1, g1, k1⟩ := (Hp.nil H hf).make (cmdL name v x y z t) 6
  obtain ⟨H2, s2, g2, k2⟩ := g1.make (cmdL name w x y z t) 6
  obtain ⟨b1, hb1⟩ : ∃ b1, H.next = b1 := ⟨_, rfl⟩
  obtain ⟨b2, hb2⟩ : ∃ b2, H1.next = b2 := ⟨_, rfl⟩
  have gr := g2.gr (k1.trans k2)
  have hv2 := IsIs.grow hf gr _ _ hv
  have hw2 := IsIs.grow hf gr _ _ hw
  rw [hb2] at g2
  have mA : (⟨H.next, 6, cmdL name v x y z t⟩ : Cel) ∈ [(⟨b2, 6, cmdL name w x y z t⟩ : Cel), ⟨H.next, 6, cmdL name v x y z t⟩] := by simp
  have mB : (⟨b2, 6, cmdL name w x y z t⟩ : Cel) ∈ [(⟨b2, 6, cmdL name w x y z t⟩ : Cel), ⟨H.next, 6, cmdL name v x y z t⟩] := by simp
  have a0 := g2.load mA (o := 0) (v := .str name) rfl
  have c0 := g2.load mB (o := 0) (v := .str name) rfl
  have a1 := g2.load mA (o := 1) (v := v) rfl
  have c1 := g2.load mB (o := 1) (v := w) rfl
  have a5 := g2.load mA (o := 5) (v := .str t) rfl
  have c5 := g2.load mB (o := 5) (v := .str t) rfl
  have a2 := g2.loadO (b := H.next) (k := 6) (o := 2) (n := 3) (a := [.str name, v]) (x := [.int .i64 x, .int .i64 y, .int .i64 z]) (c := [.str t]) mA rfl rfl
  have c2 := g2.loadO (b := b2) (k := 6) (o := 2) (n := 3) (a := [.str name, w]) (x := [.int .i64 x, .int .i64 y, .int .i64 z]) (c := [.str t]) mB rfl rfl
  have e1 : binV .eql (.str name) (.str name) = some (.bool true) := by rw [bin_eqs]; simp
  have e2 : binV .eql (.str t) (.str t) = some (.bool true) := by rw [bin_eqs]; simp
  have e3 := seq3_same x y z
  simp only [A38, run_box, bv, bw, val_ptr, s1, s2, hb2, a0, c0, e1, a1, c1, SX, reduceCtorEq, Nat.reduceEqDiff, ↓reduceIte, Int.reduceEq, Int.reduceLT, Int.reduceLE, Nat.reduceAdd]
  refine (equal_spec sq hv2 hw2 hl).mono ?_
  rintro _ _ ⟨rfl, rfl⟩
  simp only [a2, c2, a5, c5, e2, run_seq, e3, SX, reduceCtorEq, Nat.reduceEqDiff, ↓reduceIte, Int.reduceEq, Int.reduceLT, Int.reduceLE, Nat.reduceAdd]
  exact gr
end
structure T3 where
  x : Int
  y : Int
  z : Int
def T3.l (p : T3) : List Int := [p.x, p.y, p.z]
inductive Arg where
  | num (lab : Bool) (n : Int)
  | pane (p : T3)
  | text (t : List UInt8)
def Arg.f : Arg → UInt8
  | .num true _ => 108
  | .num false _ => 110
  | .pane _ => 112
  | .text _ => 116
def Arg.w : Arg → List UInt8
  | .num _ n => decZ n
  | .pane p => paneW p.l
  | .text t => t
def Arg.nums : Arg → List Int
  | .num _ n => [n]
  | _ => []
def Arg.pan (p : T3) : Arg → T3
  | .pane q => q
  | _ => p
def Arg.txt (t : List UInt8) : Arg → List UInt8
  | .text u => u
  | _ => t
structure Letters (t : List UInt8) : Prop where
  b : ∀ c ∈ t, 97 ≤ c.toNat ∧ c.toNat ≤ 122
  lo : 1 ≤ t.length
  hi : t.length ≤ 10
def Arg.ok : Arg → Prop
  | .num l n => -4 ≤ n ∧ n < 256 ∧ (l = true → 0 ≤ n ∧ n < 64)
  | .pane p => P3 p.l
  | .text t => Letters t
def zero3 : T3 := ⟨0, 0, 0⟩
def numsOf (xs : List Arg) : List Int := xs.flatMap Arg.nums
def paneOf (xs : List Arg) : T3 := xs.foldl (fun p a => a.pan p) zero3
def textOf (xs : List Arg) : List UInt8 := xs.foldl (fun t a => a.txt t) []
theorem numsOf_snoc (xs : List Arg) (a : Arg) : numsOf (xs ++ [a]) = numsOf xs ++ a.nums := by simp [numsOf]
theorem paneOf_snoc (xs : List Arg) (a : Arg) : paneOf (xs ++ [a]) = a.pan (paneOf xs) := by simp [paneOf]
theorem textOf_snoc (xs : List Arg) (a : Arg) : textOf (xs ++ [a]) = a.txt (textOf xs) := by simp [textOf]
/-- what may stand behind a name -/
structure ArgsOK (xs : List Arg) : Prop where
  each : ∀ a ∈ xs, a.ok
  pane : ∀ p, .pane p ∈ xs → paneOf xs = p
  text : ∀ t, .text t ∈ xs → textOf xs = t
  last : ∀ i t, xs[i]? = some (.text t) → i + 1 = xs.length
  len : xs.length ≤ 3
theorem f_lt (a : Arg) : a.f.toNat < 128 := by
  cases a with
  | num l n => cases l <;> (simp only [Arg.f]; decide)
  | pane p => simp only [Arg.f]; decide
  | text t => simp only [Arg.f]; decide
theorem paneW_no {ns : List Int} (h : P3 ns) : (32 : UInt8) ∉ paneW ns := by
  obtain ⟨hl, hb⟩ := h
  match ns, hl with
  | [a, b, c], _ =>
    have h1 := (noC_at (n := a) (by have := hb a (by simp); omega) (hb a (by simp)).2).1
    have h2 := (noC_at (n := b) (by have := hb b (by simp); omega) (hb b (by simp)).2).1
    have h3 := (noC_at (n := c) (by have := hb c (by simp); omega) (hb c (by simp)).2).1
    simp only [paneW, joinW, tailS, List.map_cons, List.map_nil, List.flatMap_cons, List.flatMap_nil, List.mem_cons, List.mem_append, List.not_mem_nil, not_or, or_false]
    exact ⟨by decide, h1, ⟨by decide, h2⟩, by decide, h3⟩
theorem w_no {a : Arg} (h : a.ok) (hn : ∀ t, a ≠ .text t) : (32 : UInt8) ∉ a.w := by
  cases a with
  | num l n => exact (noC_at h.1 h.2.1).1
  | pane p => exact paneW_no h
  | text t => exact absurd rfl (hn t)
theorem w_len {a : Arg} (h : a.ok) : a.w.length ≤ 15 := by
  cases a with
  | num l n => have := (noC_at h.1 h.2.1).2.2; simp only [Arg.w]; omega
  | pane p => have := join3_len h; simp only [Arg.w, paneW, List.length_cons]; omega
  | text t => have := h.hi; simp only [Arg.w]; omega
section
variable {Q : Prog} (sq : ScQ Q) {H : AHeap}
include sq
theorem cutJ_spec {w : List UInt8} {ws : List (List UInt8)} (hw : (32 : UInt8) ∉ w) (hl : (joinW 32 (w :: ws)).length ≤ 100000) (ht : hasTabs H Q.tabs = true) : FnTo Q 41 [.str (joinW 32 (w :: ws)), .str [32]] H (fun v H' => v = .tup [.str w, .str (joinW 32 ws), .bool (decide (0 < ws.length))] ∧ H' = H) := by
  cases ws with
  | nil =>
    have e : joinW 32 [w] = w := by simp [joinW, tailS]
    rw [e]
    exact cut_end sq hw ht
  | cons x ws =>
    rw [joinW_cons, tailS_cons] at hl ⊢
    exact cut_spec sq hw hl ht
set_option maxHeartbeats 2000000 in
theorem takes_spec {a : Arg} (ha : a.ok) {base n b : Nat} {v : AV} {ns : List Int} {rest : List Cel} {name t : List UInt8} {p : T3} (hb0 : 0 < base) (ht : hasTabs H Q.tabs = true) (hn : n ≤ 1000) (hg : Grow 1 base H v (intsV ns) n (⟨b, 6, cmdL name v p.x p.y p.z t⟩ :: rest)) :
    FnTo Q 42 [.ptr b 0, .int .i32 (a.f.toNat : Int), .str a.w] H (fun r H' => r = .bool true ∧ ∃ v2, Grow 1 base H' v2 (intsV (ns ++ a.nums)) (n + a.nums.length) (⟨b, 6, cmdL name v2 (a.pan p).x (a.pan p).y (a.pan p).z (a.txt t)⟩ :: rest) ∧ Keep base H H' ∧ NR H H' ∧ H.next ≤ H'.next) := by
  refine fn_wp (sq.ho 42 rfl _) sq.q42 (by simp [A42]) ?_
  have bn := hg.hp.bn
  cases a with
  | num l n' =>
    obtain ⟨h0, h1, h2⟩ := ha
    have ld := hg.hp.load (List.mem_cons_self ..) (o := 1) (v := v) rfl
    obtain ⟨H3, H4, v4, s3, s4, g4, k4, nr4, nn4⟩ := hg.push (r := [.int .i64 n']) rfl rfl (by omega) (bytes := 8) (by omega) (by omega)
    obtain ⟨H5, s5, g5, k5, nr5, nn5⟩ := g4.store1 (o := 1) g4.one (by simp [cmdL])
    have e1 : (cmdL name v p.x p.y p.z t).set 1 v4 = cmdL name v4 p.x p.y p.z t := rfl
    rw [e1] at g5
    have e2 : intsV ns ++ [.int .i64 n'] = intsV (ns ++ [n']) := by simp [intsV]
    rw [e2] at g5
    cases l with
    | true =>
      obtain ⟨l0, l1⟩ := h2 rfl
      have ef : ((Arg.num true n').f.toNat : Int) = 108 := rfl
      rw [ef]
      simp only [A42, Arg.w, SX, reduceCtorEq, Nat.reduceEqDiff, ↓reduceIte, Int.reduceEq, Int.reduceLT, Int.reduceLE, Nat.reduceAdd]
      refine (digits_spec sq h0 h1 ht).mono ?_
      rintro _ _ ⟨rfl, rfl⟩
      simp only [ext20, ext21, ld, s3, wp_append, s4, wp_store, s5, SX, reduceCtorEq, Nat.reduceEqDiff, ↓reduceIte, Int.reduceEq, Int.reduceLT, Int.reduceLE, Nat.reduceAdd]
      refine (label_spec sq l0 l1).mono ?_
      rintro _ _ ⟨rfl, rfl⟩
      simp only [SX, reduceCtorEq, Nat.reduceEqDiff, ↓reduceIte, Int.reduceEq, Int.reduceLT, Int.reduceLE, Nat.reduceAdd]
      exact ⟨v4, g5, k4.trans k5, nr4.trans nr5, by omega⟩
    | false =>
      have ef : ((Arg.num false n').f.toNat : Int) = 110 := rfl
      rw [ef]
      simp only [A42, Arg.w, SX, reduceCtorEq, Nat.reduceEqDiff, ↓reduceIte, Int.reduceEq, Int.reduceLT, Int.reduceLE, Nat.reduceAdd]
      refine (digits_spec sq h0 h1 ht).mono ?_
      rintro _ _ ⟨rfl, rfl⟩
      simp only [ext20, ext21, ld, s3, wp_append, s4, wp_store, s5, wantV_undef, SX, reduceCtorEq, Nat.reduceEqDiff, ↓reduceIte, Int.reduceEq, Int.reduceLT, Int.reduceLE, Nat.reduceAdd]
      exact ⟨v4, g5, k4.trans k5, nr4.trans nr5, by omega⟩
  | pane q =>
    have ef : ((Arg.pane q).f.toNat : Int) = 112 := rfl
    rw [ef]
    simp only [A42, Arg.w, SX, reduceCtorEq, Nat.reduceEqDiff, ↓reduceIte, Int.reduceEq, Int.reduceLT, Int.reduceLE, Nat.reduceAdd]
    refine (parsePane_spec sq ha hg.hp.fr (by omega) ht).mono ?_
    rintro _ H1 ⟨rfl, gr1⟩
    have g1 := hg.gr gr1
    obtain ⟨H2, s2, g2, k2, nr2, nn2⟩ := g1.make [.int .i64 0, .int .i64 0, .int .i64 0] 3
    obtain ⟨b9, hb9⟩ : ∃ b9, H1.next = b9 := ⟨_, rfl⟩
    rw [hb9] at g2
    obtain ⟨H3, s3, g3, k3, nr3, nn3⟩ := g2.storeN (m := 3) (new := intsV q.l) rfl rfl rfl
    have l3 := g3.hp.loadN (List.mem_cons_self ..) (n := 3) rfl
    have g4 := g3.drop
    obtain ⟨H5, s5, g5, k5, nr5, nn5⟩ := Grow.storeO (a := [.str name, v]) (x := [.int .i64 p.x, .int .i64 p.y, .int .i64 p.z]) (c := [.str t]) (new := intsV q.l) (o := 2) (m := 3) g4 rfl rfl rfl rfl
    have gn := gr1.next
    simp only [ext20, ext21, run_allocL, val_ptr, s2, hb9, wp_store, s3, l3, s5, SX, reduceCtorEq, Nat.reduceEqDiff, ↓reduceIte, Int.reduceEq, Int.reduceLT, Int.reduceLE, Nat.reduceAdd]
    refine ⟨v, ?_, (((gr1.keep.le bn).trans k2).trans k3).trans k5, (((gr1.nr hg.hp.fr).trans nr2).trans nr3).trans nr5, by omega⟩
    simpa [Arg.nums, Arg.pan, Arg.txt, T3.l, intsV, cmdL] using g5
  | text u =>
    have ef : ((Arg.text u).f.toNat : Int) = 116 := rfl
    rw [ef]
    obtain ⟨H5, s5, g5, k5, nr5, nn5⟩ := hg.store1 (o := 5) (w := .str u) rfl (by simp [cmdL])
    have e1 : (cmdL name v p.x p.y p.z t).set 5 (.str u) = cmdL name v p.x p.y p.z u := rfl
    rw [e1] at g5
    simp only [A42, A42_txt, Arg.w, wp_store, s5, SX, reduceCtorEq, Nat.reduceEqDiff, ↓reduceIte, Int.reduceEq, Int.reduceLT, Int.reduceLE, Nat.reduceAdd]
    refine (fine_spec sq ha.b ha.lo (by have := ha.hi; omega) g5.hp.fr).mono ?_
    rintro _ H6 ⟨rfl, gr6⟩
    simp only [SX, reduceCtorEq, Nat.reduceEqDiff, ↓reduceIte, Int.reduceEq, Int.reduceLT, Int.reduceLE, Nat.reduceAdd]
    refine ⟨v, by simpa [Arg.nums, Arg.pan, Arg.txt] using g5.gr gr6, k5.trans (gr6.keep.le (by omega)), nr5.trans (gr6.nr g5.hp.fr), by have := gr6.next; omega⟩
end
section
variable {k base n : Nat} {H : AHeap} {v : AV} {cs : List AV} {rest : List Cel}
theorem Grow.allocI (h : Grow k base H v cs n rest) (s : List UInt8) (p : Nat) : ∃ H', H.alloc (.itr s p) = H' ∧ Grow k base H' v cs n rest ∧ Keep base H H' ∧ H'.get H.next = some (.itr s p) ∧ H'.next = H.next + 1 := by
  obtain ⟨H', s1, _, k1, i1, n1⟩ := h.hp.allocI s p
  refine ⟨H', s1, h.map fun l hl => ?_, k1, i1, n1⟩
  obtain ⟨H2, s2, g2, _⟩ := hl.allocI s p
  rw [s1] at s2; subst s2; exact g2
theorem Grow.setI (h : Grow k base H v cs n rest) {m : Nat} {s : List UInt8} {p p' : Nat} (hm : H.get m = some (.itr s p)) (hb : base ≤ m) : Grow k base (H.set m (.itr s p')) v cs n rest ∧ Keep base H (H.set m (.itr s p')) ∧ (H.set m (.itr s p')).get m = some (.itr s p') :=
  ⟨h.map fun l hl => (hl.setI hm hb).1, (h.hp.setI hm hb).2⟩
end
def lineW (name : List UInt8) (xs : List Arg) : List UInt8 := joinW 32 (name :: xs.map Arg.w)
def nmOk (i : Nat) : Bool := (nm i).all (fun c => !(c == 32)) && decide ((nm i).length ≤ 15)
theorem nmOk_all : ((List.range 53).all nmOk) = true := by decide +kernel
theorem nm_ok {i : Nat} (h : i < 53) : (32 : UInt8) ∉ nm i ∧ (nm i).length ≤ 15 := by
  have := List.all_eq_true.1 nmOk_all i (List.mem_range.2 h)
  unfold nmOk at this
  simp only [Bool.and_eq_true, decide_eq_true_eq, List.all_eq_true] at this
  exact ⟨fun h => by have := this.1 32 h; simp at this, this.2⟩
theorem tailS_snoc (c : UInt8) (ws : List (List UInt8)) (w : List UInt8) : tailS c (ws ++ [w]) = tailS c ws ++ c :: w := by simp [tailS]
theorem tailS_len {c : UInt8} {m : Nat} : ∀ {ws : List (List UInt8)}, (∀ w ∈ ws, w.length ≤ m) → (tailS c ws).length ≤ ws.length * (m + 1)
  | [], _ => by simp [tailS]
  | w :: ws, h => by
    have h1 := tailS_len (c := c) (ws := ws) (fun x hx => h x (List.mem_cons_of_mem _ hx))
    have h2 := h w (List.mem_cons_self ..)
    have e : tailS c (w :: ws) = (c :: w) ++ tailS c ws := by simp [tailS]
    rw [e, List.length_append, List.length_cons, List.length_cons, Nat.add_mul]
    omega
theorem ArgsOK.wlen {xs : List Arg} (h : ArgsOK xs) : ∀ w ∈ xs.map Arg.w, w.length ≤ 15 := by
  intro w hw
  obtain ⟨a, ha, rfl⟩ := List.mem_map.1 hw
  exact w_len (h.each a ha)
theorem line_len {i : Nat} (hi : i < 53) {xs : List Arg} (h : ArgsOK xs) (j : Nat) : (nm i ++ tailS 32 ((xs.map Arg.w).take j)).length ≤ 63 := by
  have h1 := (nm_ok hi).2
  have h2 := tailS_len (c := 32) (m := 15) (ws := (xs.map Arg.w).take j) (fun w hw => h.wlen w (List.mem_of_mem_take hw))
  have h3 : ((xs.map Arg.w).take j).length ≤ 3 := by rw [List.length_take, List.length_map]; have := h.len; omega
  have h4 : ((xs.map Arg.w).take j).length * (15 + 1) ≤ 3 * 16 := Nat.mul_le_mul_right _ h3
  rw [List.length_append]; omega
theorem take_snoc {α : Type} {l : List α} {j : Nat} {a : α} (h : l[j]? = some a) : l.take (j + 1) = l.take j ++ [a] := by rw [List.take_add_one, h]; rfl
theorem nums_len {xs : List Arg} (h : xs.length ≤ 3) (j : Nat) : (numsOf (xs.take j)).length ≤ 3 := by
  have : ∀ l : List Arg, (numsOf l).length ≤ l.length := by
    intro l
    induction l with
    | nil => simp [numsOf]
    | cons a l ih =>
      have e : numsOf (a :: l) = a.nums ++ numsOf l := by simp [numsOf]
      rw [e, List.length_append, List.length_cons]
      cases a <;> simp [Arg.nums] <;> omega
  have h1 := this (xs.take j)
  rw [List.length_take] at h1; omega
section
variable {Q : Prog} (sq : ScQ Q) {H : AHeap}
include sq
set_option maxHeartbeats 4000000 in
theorem parse_spec {i : Nat} (hi : i < 53) {xs : List Arg} (hx : ArgsOK xs) (hform : fm i = xs.map Arg.f) (hf : Fr H) (h0 : 0 < H.next) (ht : hasTabs H Q.tabs = true) :
    FnTo Q 37 [.str (lineW (nm i) xs)] H (fun r H' => ∃ nv, r = .tup [.agg (cmdL (nm i) nv (paneOf xs).x (paneOf xs).y (paneOf xs).z (textOf xs)), .int .i64 0] ∧ IsS IsI H' nv (numsOf xs) ∧ Gr H H') := by
  refine fn_wp (sq.ho 37 rfl _) sq.q37 (by simp [A37]) ?_
  obtain ⟨H1, s1, g1, k1⟩ := (Hp.nil H hf).make [.str [], .nils, .int .i64 0, .int .i64 0, .int .i64 0, .str []] 6
  have n1 : H1.next = H.next + 1 := by rw [← s1]; rfl
  have ll := line_len hi hx 3
  rw [List.take_of_length_le (by rw [List.length_map]; exact hx.len)] at ll
  have d1 : ¬ ((256 : Int) < ((lineW (nm i) xs).length : Int)) := by
    have : (lineW (nm i) xs).length ≤ 63 := ll
    omega
  have ht1 := k1.tabs sq.tz h0 ht
  simp only [A37, run_allocL, val_ptr, s1, d1, SX, reduceCtorEq, Nat.reduceEqDiff, ↓reduceIte, Int.reduceEq, Int.reduceLT, Int.reduceLE, Nat.reduceAdd]
  refine (cutJ_spec sq (nm_ok hi).1 (by have : (lineW (nm i) xs).length ≤ 63 := ll; unfold lineW at this; omega) ht1).mono ?_
  rintro _ _ ⟨rfl, eH⟩
  rw [eH]
  simp only [ext30, ext31, ext32, SX, reduceCtorEq, Nat.reduceEqDiff, ↓reduceIte, Int.reduceEq, Int.reduceLT, Int.reduceLE, Nat.reduceAdd]
  refine (form_spec sq hi g1.fr).mono ?_
  rintro _ H2 ⟨rfl, gr2⟩
  have g2 := g1.keep gr2.keep gr2.next gr2.fr
  have bv : buildV [.str [], .nils, .int .i64 0, .int .i64 0, .int .i64 0, .str []] [(0, 1, .str (nm i))] = some (.agg (cmdL (nm i) .nils 0 0 0 [])) := rfl
  obtain ⟨H3, s3, g3, k3⟩ := g2.make [.str [], .nils, .int .i64 0, .int .i64 0, .int .i64 0, .str []] 6
  obtain ⟨b9, hb9⟩ : ∃ b9, H2.next = b9 := ⟨_, rfl⟩
  rw [hb9] at g3
  obtain ⟨H4, s4, g4, k4, n4⟩ := g3.storeN (n := 6) (new := cmdL (nm i) .nils 0 0 0 []) rfl rfl rfl
  obtain ⟨H5, s5, g5, k5, i5, n5⟩ := (Grow.nil 1 g4).allocI (fm i) 0
  obtain ⟨bi, hbi⟩ : ∃ bi, H4.next = bi := ⟨_, rfl⟩
  have hbi0 : H.next ≤ bi := by have := g4.bn; omega
  rw [hbi] at i5
  have k2 : Keep H.next H1 H2 := gr2.keep.le (by omega)
  have k15 : Keep H.next H H5 := (((k1.trans k2).trans k3).trans k4).trans k5
  simp only [ext20, ext21, A37_rest, run_build, bv, run_allocL, val_ptr, s3, hb9, wp_store, s4, run_rng, rngV_str, s5, hbi, SX, reduceCtorEq, Nat.reduceEqDiff, ↓reduceIte, Int.reduceEq, Int.reduceLT, Int.reduceLE, Nat.reduceAdd]
  obtain ⟨I, hI⟩ : ∃ I : Nat → Env → AHeap → Prop, ∀ m e H', I m e H' ↔ (∃ j v, m = xs.length - j ∧ j ≤ xs.length ∧ Grow 1 H.next H' v (intsV (numsOf (xs.take j))) (numsOf (xs.take j)).length [⟨b9, 6, cmdL (nm i) v (paneOf (xs.take j)).x (paneOf (xs.take j)).y (paneOf (xs.take j)).z (textOf (xs.take j))⟩, ⟨H.next, 6, [.str [], .nils, .int .i64 0, .int .i64 0, .int .i64 0, .str []]⟩] ∧ Keep H.next H H' ∧ H'.get bi = some (.itr (fm i) j) ∧
      Env.get e 2 = .ptr H.next 0 ∧ (j < xs.length → Env.get e 5 = .str (joinW 32 ((xs.map Arg.w).drop j))) ∧ Env.get e 6 = .bool (decide (j < xs.length)) ∧ Env.get e 9 = .ptr b9 0 ∧ Env.get e 34 = .ptr bi 0) := ⟨_, fun _ _ _ => Iff.rfl⟩
  refine loop_by I xs.length ?_ ?_
  · refine (hI _ _ _).2 ⟨0, .nils, rfl, by omega, g5, k15, i5, (by first | (simp only [SG, reduceCtorEq, Nat.reduceEqDiff, ↓reduceIte] <;> rfl) | rfl), fun _ => (by first | (simp only [SG, reduceCtorEq, Nat.reduceEqDiff, ↓reduceIte] <;> rfl) | rfl), ?_, (by first | (simp only [SG, reduceCtorEq, Nat.reduceEqDiff, ↓reduceIte] <;> rfl) | rfl), (by first | (simp only [SG, reduceCtorEq, Nat.reduceEqDiff, ↓reduceIte] <;> rfl) | rfl)⟩
    simp only [List.length_map, SX, reduceCtorEq, Nat.reduceEqDiff, ↓reduceIte, Int.reduceEq, Int.reduceLT, Int.reduceLE, Nat.reduceAdd]
  · intro m' e H6 hinv
    obtain ⟨j, v, rfl, hj, g6, k6, i6, e2, e5, e6, e9, e34⟩ := (hI _ _ _).1 hinv
    by_cases d : j < xs.length
    · obtain ⟨a, ha⟩ : ∃ a, xs[j]? = some a := ⟨_, List.getElem?_eq_getElem d⟩
      have hao := hx.each a (List.mem_of_getElem? ha)
      have hfj : (fm i)[j]? = some a.f := by rw [hform, List.getElem?_map, ha]; rfl
      have hwj : (xs.map Arg.w)[j]? = some a.w := by rw [List.getElem?_map, ha]; rfl
      have nx := nxt_at i6 hfj (f_lt a)
      obtain ⟨g7, k7, i7⟩ := g6.setI (p' := j + 1) i6 hbi0
      have ht7 := (k6.trans k7).tabs sq.tz h0 ht
      rw [decide_eq_true d] at e6
      have e5 := e5 d
      rw [joinW_drop hwj] at e5
      have hnl := nums_len hx.len j
      have tk := takes_spec sq hao h0 ht7 (by omega) g7
      have last : ∀ (H8 : AHeap) (v2 : AV), Grow 1 H.next H8 v2 (intsV (numsOf (xs.take j) ++ a.nums)) ((numsOf (xs.take j)).length + a.nums.length) [⟨b9, 6, cmdL (nm i) v2 (a.pan (paneOf (xs.take j))).x (a.pan (paneOf (xs.take j))).y (a.pan (paneOf (xs.take j))).z (a.txt (textOf (xs.take j)))⟩, ⟨H.next, 6, [.str [], .nils, .int .i64 0, .int .i64 0, .int .i64 0, .str []]⟩] →
          Keep H.next H H8 → H8.get bi = some (.itr (fm i) (j + 1)) → ∀ e', Env.get e' 2 = .ptr H.next 0 → (j + 1 < xs.length → Env.get e' 5 = .str (joinW 32 ((xs.map Arg.w).drop (j + 1)))) → Env.get e' 6 = .bool (decide (j + 1 < xs.length)) → Env.get e' 9 = .ptr b9 0 → Env.get e' 34 = .ptr bi 0 → ∃ m', m' < xs.length - j ∧ I m' e' H8 := by
        intro H8 v2 g8 k8 i8 e' a2 a5 a6 a9 a34
        refine ⟨xs.length - (j + 1), by omega, (hI _ _ _).2 ⟨j + 1, v2, rfl, by omega, ?_, k8, i8, a2, a5, a6, a9, a34⟩⟩
        rw [take_snoc ha, numsOf_snoc, paneOf_snoc, textOf_snoc, List.length_append]
        exact g8
      by_cases ht' : ∃ t, a = .text t
      · obtain ⟨t, rfl⟩ := ht'
        have hl := hx.last j t ha
        have hd : (xs.map Arg.w).drop (j + 1) = [] := List.drop_eq_nil_of_le (by rw [List.length_map]; omega)
        rw [hd] at e5
        have ew : (Arg.text t).w ++ tailS 32 [] = t := by simp [Arg.w, tailS]
        rw [ew] at e5
        have ef : ((Arg.text t).f.toNat : Int) = 116 := rfl
        rw [ef] at nx tk
        have tk' : FnTo Q 42 [.ptr b9 0, .int .i32 116, .str t] (H6.set bi (.itr (fm i) (j + 1))) _ := tk
        simp only [A37_lp, A37_bd, e2, e5, e6, e9, e34, wp_nxt, nx, ext30, ext32, wantV_undef, SX, reduceCtorEq, Nat.reduceEqDiff, ↓reduceIte, Int.reduceEq, Int.reduceLT, Int.reduceLE, Nat.reduceAdd]
        refine tk'.mono ?_
        rintro _ H8 ⟨rfl, v2, g8, k8, nr8, nn8⟩
        have i8 := nr8 _ _ i7 rfl
        simp only [SX, reduceCtorEq, Nat.reduceEqDiff, ↓reduceIte, Int.reduceEq, Int.reduceLT, Int.reduceLE, Nat.reduceAdd]
        refine last H8 v2 g8 ((k6.trans k7).trans k8) i8 _ (by simp only [SG, reduceCtorEq, Nat.reduceEqDiff, ↓reduceIte, e2] <;> rfl) (fun hh => by omega) ?_ (by simp only [SG, reduceCtorEq, Nat.reduceEqDiff, ↓reduceIte, e9] <;> rfl) (by simp only [SG, reduceCtorEq, Nat.reduceEqDiff, ↓reduceIte, e34] <;> rfl)
        rw [decide_eq_false (by omega)]
        simp only [SX, reduceCtorEq, Nat.reduceEqDiff, ↓reduceIte, Int.reduceEq, Int.reduceLT, Int.reduceLE, Nat.reduceAdd]
      · have hnt : ∀ t, a ≠ .text t := fun t hh => ht' ⟨t, hh⟩
        have df : ((a.f.toNat : Int) = 116) ↔ False := by
          refine ⟨fun hh => ?_, False.elim⟩
          cases a with
          | num l n => cases l <;> simp [Arg.f] at hh
          | pane p => simp [Arg.f] at hh
          | text t => exact hnt t rfl
        have jl : (joinW 32 (a.w :: (xs.map Arg.w).drop (j + 1))).length ≤ 100000 := by
          rw [joinW_cons, List.length_append]
          have h1 := w_len hao
          have h2 := tailS_len (c := 32) (m := 15) (ws := (xs.map Arg.w).drop (j + 1)) (fun w hw => hx.wlen w (List.mem_of_mem_drop hw))
          have h3 : ((xs.map Arg.w).drop (j + 1)).length ≤ 3 := by rw [List.length_drop, List.length_map]; have := hx.len; omega
          have h4 : ((xs.map Arg.w).drop (j + 1)).length * (15 + 1) ≤ 3 * 16 := Nat.mul_le_mul_right _ h3
          omega
        rw [← joinW_cons] at e5
        simp only [A37_lp, A37_bd, e2, e5, e6, e9, e34, wp_nxt, nx, ext30, ext32, df, SX, reduceCtorEq, Nat.reduceEqDiff, ↓reduceIte, Int.reduceEq, Int.reduceLT, Int.reduceLE, Nat.reduceAdd]
        refine (cutJ_spec sq (w_no hao hnt) jl ht7).mono ?_
        rintro _ _ ⟨rfl, rfl⟩
        simp only [e2, e9, e34, ext30, ext31, ext32, SX, reduceCtorEq, Nat.reduceEqDiff, ↓reduceIte, Int.reduceEq, Int.reduceLT, Int.reduceLE, Nat.reduceAdd]
        refine tk.mono ?_
        rintro _ H8 ⟨rfl, v2, g8, k8, nr8, nn8⟩
        have i8 := nr8 _ _ i7 rfl
        simp only [SX, reduceCtorEq, Nat.reduceEqDiff, ↓reduceIte, Int.reduceEq, Int.reduceLT, Int.reduceLE, Nat.reduceAdd]
        refine last H8 v2 g8 ((k6.trans k7).trans k8) i8 _ (by simp only [SG, reduceCtorEq, Nat.reduceEqDiff, ↓reduceIte, e2] <;> rfl) (fun hh => (by first | (simp only [SG, reduceCtorEq, Nat.reduceEqDiff, ↓reduceIte] <;> rfl) | rfl)) ?_ (by simp only [SG, reduceCtorEq, Nat.reduceEqDiff, ↓reduceIte, e9] <;> rfl) (by simp only [SG, reduceCtorEq, Nat.reduceEqDiff, ↓reduceIte, e34] <;> rfl)
        have : decide (0 < ((xs.map Arg.w).drop (j + 1)).length) = decide (j + 1 < xs.length) := by
          rw [List.length_drop, List.length_map]
          by_cases hh : j + 1 < xs.length
          · rw [decide_eq_true hh, decide_eq_true (by omega)]
          · rw [decide_eq_false hh, decide_eq_false (by omega)]
        rw [← this]
        simp only [SX, reduceCtorEq, Nat.reduceEqDiff, ↓reduceIte, Int.reduceEq, Int.reduceLT, Int.reduceLE, Nat.reduceAdd]
    · obtain rfl : j = xs.length := by omega
      have nx := nxt_end i6 (by rw [hform, List.length_map]; omega)
      rw [decide_eq_false (by omega)] at e6
      rw [List.take_length] at g6
      have l6 := g6.hp.loadN (List.mem_cons_self ..) (n := 6) rfl
      have gp := g6.perm (List.Perm.swap _ _ _)
      obtain ⟨H7, s7, g7, k7, nr7, nn7⟩ := gp.storeN (m := 6) (new := cmdL (nm i) v (paneOf xs).x (paneOf xs).y (paneOf xs).z (textOf xs)) rfl rfl (cmdL_ones g6.one)
      have l7 := g7.hp.loadN (List.mem_cons_self ..) (n := 6) rfl
      simp only [A37_lp, A37_tl, e2, e6, e9, e34, wp_nxt, nx, ext30, l6, wp_store, s7, resCellT, l7, SX, reduceCtorEq, Nat.reduceEqDiff, ↓reduceIte, Int.reduceEq, Int.reduceLT, Int.reduceLE, Nat.reduceAdd]
      exact ⟨v, rfl, g7.isS, g7.hp.gr (k6.trans k7)⟩
end
theorem IsS.drop1 {H H' : AHeap} {v : AV} {l : List Int} {n : Int} (h : IsS IsI H v (n :: l)) (hf : Fr H) (g : Gr H H') : ∃ w, slSV H' 1 v (some (.int .i64 1)) none = some w ∧ IsS IsI H w l := by
  obtain ⟨w, h1, h2⟩ := h.dropG hf g (n := 1) (by simp) .i64
  exact ⟨w, h1, h2⟩
section
variable {Q : Prog} (sq : ScQ Q) {H : AHeap}
include sq
set_option maxHeartbeats 4000000 in
theorem line_spec {i : Nat} (hi : i < 53) {xs : List Arg} (hx : ArgsOK xs) (hform : fm i = xs.map Arg.f) {v0 : AV} (hv : IsS IsI H v0 (numsOf xs)) (hf : Fr H) (h0 : 0 < H.next) (ht : hasTabs H Q.tabs = true) :
    FnTo Q 29 [.agg (cmdL (nm i) v0 (paneOf xs).x (paneOf xs).y (paneOf xs).z (textOf xs))] H (fun r H' => r = .tup [.str (lineW (nm i) xs), .bool true] ∧ Gr H H') := by
  refine fn_wp (sq.ho 29 rfl _) sq.q29 (by simp [A29]) ?_
  have bx := boxV_agg (cmdL_ones (name := nm i) (x := (paneOf xs).x) (y := (paneOf xs).y) (z := (paneOf xs).z) (t := textOf xs) hv.one)
  obtain ⟨H1, s1, g1, k1⟩ := (Hp.nil H hf).make (cmdL (nm i) v0 (paneOf xs).x (paneOf xs).y (paneOf xs).z (textOf xs)) 6
  have n1 : H1.next = H.next + 1 := by rw [← s1]; rfl
  have l10 := g1.load (List.mem_cons_self ..) (o := 0) (v := .str (nm i)) rfl
  simp only [A29, run_box, bx, val_ptr, s1, l10, SX, reduceCtorEq, Nat.reduceEqDiff, ↓reduceIte, Int.reduceEq, Int.reduceLT, Int.reduceLE, Nat.reduceAdd]
  refine (form_spec sq hi g1.fr).mono ?_
  rintro _ H2 ⟨rfl, gr2⟩
  have g2 := g1.keep gr2.keep gr2.next gr2.fr
  have k2 : Keep H.next H1 H2 := gr2.keep.le (by omega)
  have l20 := g2.load (List.mem_cons_self ..) (o := 0) (v := .str (nm i)) rfl
  have bv : buildV [.str [], .nils, .int .i64 0, .int .i64 0, .int .i64 0, .str []] [(0, 1, .str (nm i))] = some (.agg (cmdL (nm i) .nils 0 0 0 [])) := rfl
  obtain ⟨H3, s3, g3, k3⟩ := g2.make [.str [], .nils, .int .i64 0, .int .i64 0, .int .i64 0, .str []] 6
  obtain ⟨b7, hb7⟩ : ∃ b7, H2.next = b7 := ⟨_, rfl⟩
  rw [hb7] at g3
  obtain ⟨H4, s4, g4, k4, n4⟩ := g3.storeN (n := 6) (new := cmdL (nm i) .nils 0 0 0 []) rfl rfl rfl
  have m1 : (⟨H.next, 6, cmdL (nm i) v0 (paneOf xs).x (paneOf xs).y (paneOf xs).z (textOf xs)⟩ : Cel) ∈ [(⟨b7, 6, cmdL (nm i) .nils 0 0 0 []⟩ : Cel), ⟨H.next, 6, cmdL (nm i) v0 (paneOf xs).x (paneOf xs).y (paneOf xs).z (textOf xs)⟩] := by simp
  have l41 := g4.load m1 (o := 1) (v := v0) rfl
  obtain ⟨H5, s5, g5, k5, i5, n5⟩ := (Grow.nil 1 g4).allocI (fm i) 0
  obtain ⟨bi, hbi⟩ : ∃ bi, H4.next = bi := ⟨_, rfl⟩
  have hbi0 : H.next ≤ bi := by have := g4.bn; omega
  rw [hbi] at i5
  have k15 : Keep H.next H H5 := (((k1.trans k2).trans k3).trans k4).trans k5
  simp only [ext20, ext21, A29_rest, l20, run_build, bv, run_allocL, val_ptr, s3, hb7, wp_store, s4, l41, run_rng, rngV_str, s5, hbi, SX, reduceCtorEq, Nat.reduceEqDiff, ↓reduceIte, Int.reduceEq, Int.reduceLT, Int.reduceLE, Nat.reduceAdd]
  obtain ⟨I, hI⟩ : ∃ I : Nat → Env → AHeap → Prop, ∀ m e H', I m e H' ↔ (∃ j v w, m = xs.length - j ∧ j ≤ xs.length ∧ Grow 1 H.next H' v (intsV (numsOf (xs.take j))) (numsOf (xs.take j)).length [⟨b7, 6, cmdL (nm i) v (paneOf (xs.take j)).x (paneOf (xs.take j)).y (paneOf (xs.take j)).z (textOf (xs.take j))⟩, ⟨H.next, 6, cmdL (nm i) v0 (paneOf xs).x (paneOf xs).y (paneOf xs).z (textOf xs)⟩] ∧ Keep H.next H H' ∧ H'.get bi = some (.itr (fm i) j) ∧ IsS IsI H w (numsOf (xs.drop j)) ∧
      Env.get e 1 = .ptr H.next 0 ∧ Env.get e 6 = .str (nm i ++ tailS 32 ((xs.map Arg.w).take j)) ∧ Env.get e 7 = .ptr b7 0 ∧ Env.get e 8 = w ∧ Env.get e 31 = .ptr bi 0) := ⟨_, fun _ _ _ => Iff.rfl⟩
  refine loop_by I xs.length ?_ ?_
  · exact (hI _ _ _).2 ⟨0, .nils, v0, rfl, by omega, g5, k15, i5, hv, (by first | (simp only [SG, reduceCtorEq, Nat.reduceEqDiff, ↓reduceIte] <;> rfl) | rfl), by simp only [List.take_zero, tailS, List.flatMap_nil, List.append_nil, SG, reduceCtorEq, Nat.reduceEqDiff, ↓reduceIte], (by first | (simp only [SG, reduceCtorEq, Nat.reduceEqDiff, ↓reduceIte] <;> rfl) | rfl), (by first | (simp only [SG, reduceCtorEq, Nat.reduceEqDiff, ↓reduceIte] <;> rfl) | rfl), (by first | (simp only [SG, reduceCtorEq, Nat.reduceEqDiff, ↓reduceIte] <;> rfl) | rfl)⟩
  · intro m' e H6 hinv
    obtain ⟨j, v, w, rfl, hj, g6, k6, i6, hw, e1, e6, e7, e8, e31⟩ := (hI _ _ _).1 hinv
    by_cases d : j < xs.length
    · obtain ⟨a, ha⟩ : ∃ a, xs[j]? = some a := ⟨_, List.getElem?_eq_getElem d⟩
      have ham := List.mem_of_getElem? ha
      have hao := hx.each a ham
      have hfj : (fm i)[j]? = some a.f := by rw [hform, List.getElem?_map, ha]; rfl
      have hwj : (xs.map Arg.w)[j]? = some a.w := by rw [List.getElem?_map, ha]; rfl
      have nx := nxt_at i6 hfj (f_lt a)
      obtain ⟨g7, k7, i7⟩ := g6.setI (p' := j + 1) i6 hbi0
      have k67 := k6.trans k7
      have ht7 := k67.tabs sq.tz h0 ht
      have gr7 := g7.hp.gr k67
      have ndrop : numsOf (xs.drop j) = a.nums ++ numsOf (xs.drop (j + 1)) := by
        obtain ⟨h1, h2⟩ := List.getElem?_eq_some_iff.1 ha
        rw [List.drop_eq_getElem_cons h1, h2]; simp [numsOf]
      have tsnoc : nm i ++ tailS 32 ((xs.map Arg.w).take (j + 1)) = (nm i ++ tailS 32 ((xs.map Arg.w).take j) ++ [32]) ++ a.w := by
        rw [take_snoc hwj, tailS_snoc]; simp
      have ll := line_len hi hx j
      have wl := w_len hao
      have ad1 := bin_adds (nm i ++ tailS 32 ((xs.map Arg.w).take j)) [32] (by simp only [List.length_cons, List.length_nil]; omega)
      have ad2 := bin_adds (nm i ++ tailS 32 ((xs.map Arg.w).take j) ++ [32]) a.w (by rw [List.length_append]; simp only [List.length_cons, List.length_nil]; omega)
      rw [← tsnoc] at ad2
      generalize hs1 : nm i ++ tailS 32 ((xs.map Arg.w).take j) = s1 at *
      have hnl := nums_len hx.len j
      have last : ∀ (H8 : AHeap) (v2 w2 : AV), Grow 1 H.next H8 v2 (intsV (numsOf (xs.take j) ++ a.nums)) ((numsOf (xs.take j)).length + a.nums.length) [⟨b7, 6, cmdL (nm i) v2 (a.pan (paneOf (xs.take j))).x (a.pan (paneOf (xs.take j))).y (a.pan (paneOf (xs.take j))).z (a.txt (textOf (xs.take j)))⟩, ⟨H.next, 6, cmdL (nm i) v0 (paneOf xs).x (paneOf xs).y (paneOf xs).z (textOf xs)⟩] →
          Keep H.next H H8 → H8.get bi = some (.itr (fm i) (j + 1)) → IsS IsI H w2 (numsOf (xs.drop (j + 1))) → ∀ e', Env.get e' 1 = .ptr H.next 0 → Env.get e' 6 = .str (nm i ++ tailS 32 ((xs.map Arg.w).take (j + 1))) → Env.get e' 7 = .ptr b7 0 → Env.get e' 8 = w2 → Env.get e' 31 = .ptr bi 0 → ∃ m', m' < xs.length - j ∧ I m' e' H8 := by
        intro H8 v2 w2 g8 k8 i8 h8 e' a1 a6 a7 a8 a31
        refine ⟨xs.length - (j + 1), by omega, (hI _ _ _).2 ⟨j + 1, v2, w2, rfl, by omega, ?_, k8, i8, h8, a1, a6, a7, a8, a31⟩⟩
        rw [take_snoc ha, numsOf_snoc, paneOf_snoc, textOf_snoc, List.length_append]
        exact g8
      cases a with
      | num l n =>
        obtain ⟨n0, n1, _⟩ := hao
        have ndrop' : numsOf (xs.drop j) = n :: numsOf (xs.drop (j + 1)) := ndrop
        rw [ndrop'] at hw
        have lw := hw.len
        have lw7 : lngV (H6.set bi (.itr (fm i) (j + 1))) 1 w = some (.int .i64 ((n :: numsOf (xs.drop (j + 1))).length : Int)) := (IsIs.grow hf gr7 _ _ hw).len
        have dl : (((n :: numsOf (xs.drop (j + 1))).length : Int) = 0) ↔ False := ⟨fun hh => by simp at hh; omega, False.elim⟩
        have hw7 := IsIs.grow hf gr7 _ _ hw
        have ix := IsS.at (R := IsI) hw7 (i := 0) (by omega) (by simp) .i64
        have ld := IsS.int hw7 (i := 0) (a := n) rfl
        have l7 := g7.hp.load (List.mem_cons_self ..) (o := 1) (v := v) rfl
        obtain ⟨H8, H9, v9, s8, s9, g9, k9, nr9, nn9⟩ := g7.push (r := [.int .i64 n]) rfl rfl (by omega) (bytes := 8) (by omega) (by omega)
        obtain ⟨H10, s10, g10, k10, nr10, nn10⟩ := g9.store1 (o := 1) g9.one (by simp [cmdL])
        have ec : (cmdL (nm i) v (paneOf (xs.take j)).x (paneOf (xs.take j)).y (paneOf (xs.take j)).z (textOf (xs.take j))).set 1 v9 = cmdL (nm i) v9 (paneOf (xs.take j)).x (paneOf (xs.take j)).y (paneOf (xs.take j)).z (textOf (xs.take j)) := rfl
        rw [ec] at g10
        have ei : intsV (numsOf (xs.take j)) ++ [.int .i64 n] = intsV (numsOf (xs.take j) ++ [n]) := by simp [intsV]
        rw [ei] at g10
        have k10' := (k67.trans k9).trans k10
        obtain ⟨w2, sw, hw2⟩ := IsS.drop1 hw hf (g10.hp.gr k10')
        have i10 := nr10 _ _ (nr9 _ _ i7 rfl) rfl
        cases l with
        | true =>
          have ef : ((Arg.num true n).f.toNat : Int) = 108 := rfl
          rw [ef] at nx
          simp only [A29_lp, A29_sw, e1, e6, e7, e8, e31, wp_nxt, nx, ext30, ext32, ad1, lw7, dl, ix, ld, SX, reduceCtorEq, Nat.reduceEqDiff, ↓reduceIte, Int.reduceEq, Int.reduceLT, Int.reduceLE, Nat.reduceAdd]
          refine fn_orc (sq.o25 n n0 n1) ht7 ?_
          have ad2' : binV .add (.str (s1 ++ [32])) (.str (decZ n)) = some (.str (nm i ++ tailS 32 ((xs.map Arg.w).take (j + 1)))) := ad2
          simp only [e1, e7, e8, e31, ad2', l7, ix, ld, s8, wp_append, s9, wp_store, s10, run_slS, sw, SX, reduceCtorEq, Nat.reduceEqDiff, ↓reduceIte, Int.reduceEq, Int.reduceLT, Int.reduceLE, Nat.reduceAdd]
          exact last H10 v9 w2 g10 k10' i10 hw2 _ (by simp only [SG, reduceCtorEq, Nat.reduceEqDiff, ↓reduceIte, e1] <;> rfl) (by first | (simp only [SG, reduceCtorEq, Nat.reduceEqDiff, ↓reduceIte] <;> rfl) | rfl) (by simp only [SG, reduceCtorEq, Nat.reduceEqDiff, ↓reduceIte, e7] <;> rfl) (by first | (simp only [SG, reduceCtorEq, Nat.reduceEqDiff, ↓reduceIte] <;> rfl) | rfl) (by simp only [SG, reduceCtorEq, Nat.reduceEqDiff, ↓reduceIte, e31] <;> rfl)
        | false =>
          have ef : ((Arg.num false n).f.toNat : Int) = 110 := rfl
          rw [ef] at nx
          simp only [A29_lp, A29_sw, e1, e6, e7, e8, e31, wp_nxt, nx, ext30, ext32, ad1, lw7, dl, ix, ld, SX, reduceCtorEq, Nat.reduceEqDiff, ↓reduceIte, Int.reduceEq, Int.reduceLT, Int.reduceLE, Nat.reduceAdd]
          refine fn_orc (sq.o25 n n0 n1) ht7 ?_
          have ad2' : binV .add (.str (s1 ++ [32])) (.str (decZ n)) = some (.str (nm i ++ tailS 32 ((xs.map Arg.w).take (j + 1)))) := ad2
          simp only [e1, e7, e8, e31, ad2', l7, ix, ld, s8, wp_append, s9, wp_store, s10, run_slS, sw, SX, reduceCtorEq, Nat.reduceEqDiff, ↓reduceIte, Int.reduceEq, Int.reduceLT, Int.reduceLE, Nat.reduceAdd]
          exact last H10 v9 w2 g10 k10' i10 hw2 _ (by simp only [SG, reduceCtorEq, Nat.reduceEqDiff, ↓reduceIte, e1] <;> rfl) (by first | (simp only [SG, reduceCtorEq, Nat.reduceEqDiff, ↓reduceIte] <;> rfl) | rfl) (by simp only [SG, reduceCtorEq, Nat.reduceEqDiff, ↓reduceIte, e7] <;> rfl) (by first | (simp only [SG, reduceCtorEq, Nat.reduceEqDiff, ↓reduceIte] <;> rfl) | rfl) (by simp only [SG, reduceCtorEq, Nat.reduceEqDiff, ↓reduceIte, e31] <;> rfl)
      | pane p =>
        have hp := hx.pane p ham
        have ndrop' : numsOf (xs.drop j) = numsOf (xs.drop (j + 1)) := ndrop
        rw [ndrop'] at hw
        have ef : ((Arg.pane p).f.toNat : Int) = 112 := rfl
        rw [ef] at nx
        have mB : (⟨H.next, 6, cmdL (nm i) v0 (paneOf xs).x (paneOf xs).y (paneOf xs).z (textOf xs)⟩ : Cel) ∈ [(⟨b7, 6, cmdL (nm i) v (paneOf (xs.take j)).x (paneOf (xs.take j)).y (paneOf (xs.take j)).z (textOf (xs.take j))⟩ : Cel), ⟨H.next, 6, cmdL (nm i) v0 (paneOf xs).x (paneOf xs).y (paneOf xs).z (textOf xs)⟩] := by simp
        have l7 := g7.hp.loadO (b := H.next) (k := 6) (o := 2) (n := 3) (a := [.str (nm i), v0]) (x := intsV (paneOf xs).l) (c := [.str (textOf xs)]) mB rfl rfl
        rw [hp] at l7
        simp only [A29_lp, A29_sw, e1, e6, e7, e8, e31, wp_nxt, nx, ext30, ext32, ad1, l7, SX, reduceCtorEq, Nat.reduceEqDiff, ↓reduceIte, Int.reduceEq, Int.reduceLT, Int.reduceLE, Nat.reduceAdd]
        refine (wordsP_spec sq hao g7.hp.fr (by have := g7.hp.bn; omega) ht7).mono ?_
        rintro _ H8 ⟨rfl, gr8⟩
        have g8 := g7.gr gr8
        have l8 := g8.hp.loadO (b := H.next) (k := 6) (o := 2) (n := 3) (a := [.str (nm i), v0]) (x := intsV (paneOf xs).l) (c := [.str (textOf xs)]) mB rfl rfl
        rw [hp] at l8
        obtain ⟨H9, s9, g9, k9, nr9, nn9⟩ := Grow.storeO (a := [.str (nm i), v]) (x := [.int .i64 (paneOf (xs.take j)).x, .int .i64 (paneOf (xs.take j)).y, .int .i64 (paneOf (xs.take j)).z]) (c := [.str (textOf (xs.take j))]) (new := intsV p.l) (o := 2) (m := 3) g8 rfl rfl rfl rfl
        have ad2' : binV .add (.str (s1 ++ [32])) (.str (paneW p.l)) = some (.str (nm i ++ tailS 32 ((xs.map Arg.w).take (j + 1)))) := ad2
        have i9 := nr9 _ _ (gr8.nr g7.hp.fr _ _ i7 rfl) rfl
        have k8 : Keep H.next (H6.set bi (.itr (fm i) (j + 1))) H8 := gr8.keep.le g7.hp.bn
        simp only [e1, e7, e8, e31, ext20, ext21, ad2', l8, wp_store, s9, SX, reduceCtorEq, Nat.reduceEqDiff, ↓reduceIte, Int.reduceEq, Int.reduceLT, Int.reduceLE, Nat.reduceAdd]
        refine last H9 v w ?_ ((k67.trans k8).trans k9) i9 hw _ (by simp only [SG, reduceCtorEq, Nat.reduceEqDiff, ↓reduceIte, e1] <;> rfl) (by first | (simp only [SG, reduceCtorEq, Nat.reduceEqDiff, ↓reduceIte] <;> rfl) | rfl) (by simp only [SG, reduceCtorEq, Nat.reduceEqDiff, ↓reduceIte, e7] <;> rfl) (by simp only [SG, reduceCtorEq, Nat.reduceEqDiff, ↓reduceIte, e8] <;> rfl) (by simp only [SG, reduceCtorEq, Nat.reduceEqDiff, ↓reduceIte, e31] <;> rfl)
        simpa [Arg.nums, Arg.pan, Arg.txt, T3.l, intsV, cmdL] using g9
      | text t =>
        have hp := hx.text t ham
        have ndrop' : numsOf (xs.drop j) = numsOf (xs.drop (j + 1)) := ndrop
        rw [ndrop'] at hw
        have ef : ((Arg.text t).f.toNat : Int) = 116 := rfl
        rw [ef] at nx
        have mB : (⟨H.next, 6, cmdL (nm i) v0 (paneOf xs).x (paneOf xs).y (paneOf xs).z (textOf xs)⟩ : Cel) ∈ [(⟨b7, 6, cmdL (nm i) v (paneOf (xs.take j)).x (paneOf (xs.take j)).y (paneOf (xs.take j)).z (textOf (xs.take j))⟩ : Cel), ⟨H.next, 6, cmdL (nm i) v0 (paneOf xs).x (paneOf xs).y (paneOf xs).z (textOf xs)⟩] := by simp
        have l7 := g7.hp.load mB (o := 5) (v := .str (textOf xs)) rfl
        rw [hp] at l7
        obtain ⟨H9, s9, g9, k9, nr9, nn9⟩ := g7.store1 (o := 5) (w := .str t) rfl (by simp [cmdL])
        have ec : (cmdL (nm i) v (paneOf (xs.take j)).x (paneOf (xs.take j)).y (paneOf (xs.take j)).z (textOf (xs.take j))).set 5 (.str t) = cmdL (nm i) v (paneOf (xs.take j)).x (paneOf (xs.take j)).y (paneOf (xs.take j)).z t := rfl
        rw [ec] at g9
        have ad2' : binV .add (.str (s1 ++ [32])) (.str t) = some (.str (nm i ++ tailS 32 ((xs.map Arg.w).take (j + 1)))) := ad2
        have i9 := nr9 _ _ i7 rfl
        simp only [A29_lp, A29_sw, e1, e6, e7, e8, e31, wp_nxt, nx, ext30, ext32, ad1, l7, ad2', wp_store, s9, SX, reduceCtorEq, Nat.reduceEqDiff, ↓reduceIte, Int.reduceEq, Int.reduceLT, Int.reduceLE, Nat.reduceAdd]
        refine last H9 v w ?_ (k67.trans k9) i9 hw _ (by simp only [SG, reduceCtorEq, Nat.reduceEqDiff, ↓reduceIte, e1] <;> rfl) (by first | (simp only [SG, reduceCtorEq, Nat.reduceEqDiff, ↓reduceIte] <;> rfl) | rfl) (by simp only [SG, reduceCtorEq, Nat.reduceEqDiff, ↓reduceIte, e7] <;> rfl) (by simp only [SG, reduceCtorEq, Nat.reduceEqDiff, ↓reduceIte, e8] <;> rfl) (by simp only [SG, reduceCtorEq, Nat.reduceEqDiff, ↓reduceIte, e31] <;> rfl)
        simpa [Arg.nums, Arg.pan, Arg.txt] using g9
    · obtain rfl : j = xs.length := by omega
      have nx := nxt_end i6 (by rw [hform, List.length_map]; omega)
      rw [List.take_length] at g6
      rw [List.take_of_length_le (by rw [List.length_map]; omega)] at e6
      have e6' : Env.get e 6 = .str (lineW (nm i) xs) := e6
      have ht6 := k6.tabs sq.tz h0 ht
      have h06 : 0 < H6.next := by have := g6.hp.bn; omega
      simp only [A29_lp, A29_tl, e1, e6', e7, e8, e31, wp_nxt, nx, ext30, SX, reduceCtorEq, Nat.reduceEqDiff, ↓reduceIte, Int.reduceEq, Int.reduceLT, Int.reduceLE, Nat.reduceAdd]
      refine (parse_spec sq hi hx hform g6.hp.fr h06 ht6).mono ?_
      rintro _ H7 ⟨nv, rfl, hnv, gr7⟩
      have g7 := g6.gr gr7
      obtain ⟨H8, s8, g8, k8, nr8, nn8⟩ := g7.make [.str [], .nils, .int .i64 0, .int .i64 0, .int .i64 0, .str []] 6
      obtain ⟨b13, hb13⟩ : ∃ b13, H7.next = b13 := ⟨_, rfl⟩
      rw [hb13] at g8
      obtain ⟨H9, s9, g9, k9, nr9, nn9⟩ := g8.storeN (m := 6) (new := cmdL (nm i) nv (paneOf xs).x (paneOf xs).y (paneOf xs).z (textOf xs)) rfl rfl (cmdL_ones hnv.one)
      have mU : (⟨b7, 6, cmdL (nm i) v (paneOf xs).x (paneOf xs).y (paneOf xs).z (textOf xs)⟩ : Cel) ∈ [(⟨b13, 6, cmdL (nm i) nv (paneOf xs).x (paneOf xs).y (paneOf xs).z (textOf xs)⟩ : Cel), ⟨b7, 6, cmdL (nm i) v (paneOf xs).x (paneOf xs).y (paneOf xs).z (textOf xs)⟩, ⟨H.next, 6, cmdL (nm i) v0 (paneOf xs).x (paneOf xs).y (paneOf xs).z (textOf xs)⟩] := by simp
      have mC : (⟨H.next, 6, cmdL (nm i) v0 (paneOf xs).x (paneOf xs).y (paneOf xs).z (textOf xs)⟩ : Cel) ∈ [(⟨b13, 6, cmdL (nm i) nv (paneOf xs).x (paneOf xs).y (paneOf xs).z (textOf xs)⟩ : Cel), ⟨b7, 6, cmdL (nm i) v (paneOf xs).x (paneOf xs).y (paneOf xs).z (textOf xs)⟩, ⟨H.next, 6, cmdL (nm i) v0 (paneOf xs).x (paneOf xs).y (paneOf xs).z (textOf xs)⟩] := by simp
      have lU := g9.hp.loadN mU (n := 6) rfl
      have lC := g9.hp.loadN mC (n := 6) rfl
      have k7 : Keep H.next H6 H7 := gr7.keep.le g6.hp.bn
      have gr9 := g9.hp.gr (((k6.trans k7).trans k8).trans k9)
      have sl : (numsOf xs).length ≤ 10000 := by have := nums_len hx.len xs.length; rw [List.take_length] at this; omega
      have gr79 : Gr H7 H9 := by
        obtain ⟨Ha, sa, ga, ka⟩ := (Hp.nil H7 gr7.fr).make [.str [], .nils, .int .i64 0, .int .i64 0, .int .i64 0, .str []] 6
        rw [s8] at sa; subst sa
        obtain ⟨Hb, sb, gb, kb, _⟩ := ga.storeN (n := 6) (new := cmdL (nm i) nv (paneOf xs).x (paneOf xs).y (paneOf xs).z (textOf xs)) rfl rfl (cmdL_ones hnv.one)
        rw [hb13, s9] at sb
        obtain rfl : H9 = Hb := (Prod.mk.inj (Option.some.inj sb)).2
        exact gb.gr (ka.trans kb)
      have hnv9 : IsS IsI H9 nv (numsOf xs) := IsIs.grow gr7.fr gr79 _ _ hnv
      simp only [e1, e6', e7, ext20, ext21, run_allocL, val_ptr, s8, hb13, wp_store, s9, lU, lC, SX, reduceCtorEq, Nat.reduceEqDiff, ↓reduceIte, Int.reduceEq, Int.reduceLT, Int.reduceLE, Nat.reduceAdd]
      refine (same_spec sq g9.hp.fr g9.isS (IsIs.grow hf gr9 _ _ hv) sl).mono ?_
      rintro _ H10 ⟨rfl, gr10⟩
      have g10 := g9.gr gr10
      have lC10 := g10.hp.loadN mC (n := 6) rfl
      have lD10 := g10.hp.loadN (List.mem_cons_self ..) (n := 6) rfl
      simp only [e1, e6', e7, lC10, lD10, SX, reduceCtorEq, Nat.reduceEqDiff, ↓reduceIte, Int.reduceEq, Int.reduceLT, Int.reduceLE, Nat.reduceAdd]
      refine (same_spec sq g10.hp.fr (IsIs.grow hf (gr9.trans gr10) _ _ hv) (IsIs.grow g9.hp.fr gr10 _ _ hnv9) sl).mono ?_
      rintro _ H11 ⟨rfl, gr11⟩
      simp only [e6', SX, reduceCtorEq, Nat.reduceEqDiff, ↓reduceIte, Int.reduceEq, Int.reduceLT, Int.reduceLE, Nat.reduceAdd]
      exact (gr9.trans gr10).trans gr11
end
end Go.Proofs.YtdkpmlhbofgfdaaGreatDoor.AM
