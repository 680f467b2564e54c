/-
  What Between says is one sequence of SGR, and its parameters bring any attribute to the second one: the plain law, no program in sight.
-/
import Derived.Test.YtcfjjeipdacbcaaDoorEvN
import Derived.Test.YtcfjjeipdacbcaaDoorBtAll
import Derived.Test.YtcfjjeipdacbcaaDoorAtL
set_option linter.unusedVariables false
set_option linter.unusedSimpArgs false
namespace Go.Proofs.YtcfjjeipdacbcaaDoor.AM.EvN
open Go
abbrev DD (n : Nat) : List UInt8 := Lib.decDigits n
theorem DD1 {n : Nat} (h : n < 10) : DD n = [UInt8.ofNat (48 + n)] := Lib.decDigits_one h
theorem DDq {n : Nat} (h : ¬ n < 10) : DD n = DD (n / 10) ++ [UInt8.ofNat (48 + n % 10)] := by
  show Lib.decDigits n = _
  rw [Lib.decDigits, dif_neg h]
theorem dig_nat {d : Nat} (h : d < 10) : ((UInt8.ofNat (48 + d)).toNat : Int) = 48 + (d : Int) := by
  have : (UInt8.ofNat (48 + d)).toNat = 48 + d := by
    rw [UInt8.toNat_ofNat']; omega
  omega
abbrev st (L : List (List Int)) : PS := ⟨L, false, false⟩
theorem byte_dig {init : List (List Int)} {l : List Int} {v : Int} {d : Nat} (hd : d < 10) : (st (init ++ [l ++ [v]])).byte (48 + (d : Int)) = st (init ++ [l ++ [min (10 * v + (d : Int)) 9999]]) := by
  unfold PS.byte
  have hl : ¬ (init ++ [l ++ [v]]).length = 0 := by simp
  rw [if_neg (by simp; omega), if_neg hl]
  unfold PS.step PS.last
  rw [if_neg (by omega), if_neg (by simp), if_neg (by omega)]
  have e1 : (init ++ [l ++ [v]]).dropLast = init := by simp
  have e2 : (init ++ [l ++ [v]]).getLastD [] = l ++ [v] := by simp
  simp only [e1, e2]
  have e3 : (l ++ [v]).length - 1 = l.length := by simp
  rw [e3]
  have e4 : (l ++ [v]).getD l.length 0 = v := by simp [List.getD]
  have e5 : (l ++ [v]).set l.length (min (10 * v + (48 + (d : Int) - 48)) 9999) = l ++ [min (10 * v + (d : Int)) 9999] := by
    rw [show 10 * v + (48 + (d : Int) - 48) = 10 * v + (d : Int) by omega]
    simp [List.set_append]
  rw [e4, e5]
theorem byte_none {d : Nat} (hd : d < 10) : PS.none.byte (48 + (d : Int)) = st [[(d : Int)]] := by
  have : PS.none.byte (48 + (d : Int)) = (st ([] ++ [[] ++ [0]])).byte (48 + (d : Int)) := by
    have e1 : PS.none.byte (48 + (d : Int)) = PS.step (48 + (d : Int)) PS.none.begins := by
      unfold PS.byte
      rw [if_neg (by simp [PS.none]; omega), if_pos (show PS.none.L.length = 0 from rfl)]
    have e2 : (st ([] ++ [[] ++ [0]])).byte (48 + (d : Int)) = PS.step (48 + (d : Int)) (st ([] ++ [[] ++ [0]])) := by
      unfold PS.byte
      rw [if_neg (by simp; omega), if_neg (by simp)]
    rw [e1, e2]
    rfl
  rw [this, byte_dig hd]
  simp; omega
theorem feed_app (s : PS) (a b : List UInt8) : s.feed (a ++ b) = (s.feed a).feed b := by simp [PS.feed]
theorem feed_one (s : PS) (b : UInt8) : s.feed [b] = s.byte (b.toNat : Int) := rfl
theorem feed_num : ∀ (n : Nat), n ≤ 9999 → ∀ (init : List (List Int)) (l : List Int), (st (init ++ [l ++ [0]])).feed (DD n) = st (init ++ [l ++ [(n : Int)]]) := by
  intro n
  induction n using Nat.strongRecOn with
  | _ n ih =>
    intro hn init l
    by_cases c : n < 10
    · rw [DD1 c, feed_one, dig_nat c, byte_dig c]
      rw [show min (10 * 0 + (n : Int)) 9999 = (n : Int) by omega]
    · rw [DDq c, feed_app, ih (n / 10) (by omega) (by omega), feed_one, dig_nat (by omega), byte_dig (by omega)]
      rw [show min (10 * ((n / 10 : Nat) : Int) + ((n % 10 : Nat) : Int)) 9999 = (n : Int) by omega]
theorem byte_colon {init : List (List Int)} {l : List Int} (h1 : l.length < 8) : (st (init ++ [l])).byte 58 = st (init ++ [l ++ [0]]) := by
  unfold PS.byte
  rw [if_neg (by simp), if_neg (by simp)]
  unfold PS.step PS.last
  rw [if_neg (by omega), if_neg (by simp), if_pos rfl]
  have e2 : (init ++ [l]).getLastD [] = l := by simp
  have e1 : (init ++ [l]).dropLast = init := by simp
  simp only [e1, e2]
  rw [if_neg (by omega)]
theorem byte_semi {L : List (List Int)} (h0 : L ≠ []) (h1 : L.length < 16) : (st L).byte 59 = st (L ++ [[0]]) := by
  have hl : ¬ L.length = 0 := fun h => h0 (List.eq_nil_of_length_eq_zero h)
  unfold PS.byte
  rw [if_neg (by simp), if_neg hl]
  unfold PS.step PS.last
  rw [if_pos rfl]
  unfold PS.begins
  rw [if_neg (by show ¬ L.length = 16; omega)]
def fA (fl : Int) : Nat → List UInt8
  | 0 => []
  | i + 1 => if testA fl i = true then fA fl i ++ (59 :: dec3 (zf i)) else fA fl i
theorem sA_fA (fl : Int) : ∀ i, sA fl i = [27, 91] ++ ([48] ++ fA fl i)
  | 0 => rfl
  | i + 1 => by
    unfold sA fA
    split
    · rw [sA_fA fl i]; simp
    · exact sA_fA fl i
def gL (fl : Int) : Nat → List (List Int)
  | 0 => [[0]]
  | i + 1 => if testA fl i = true then gL fl i ++ [[(zf i : Int)]] else gL fl i
theorem gL_len (fl : Int) : ∀ i, (gL fl i).length ≤ i + 1
  | 0 => by simp [gL]
  | i + 1 => by
    have := gL_len fl i
    unfold gL
    split
    · simp only [List.length_append, List.length_cons, List.length_nil]; omega
    · omega
theorem gL_head (fl : Int) : ∀ i, ∃ r, gL fl i = [0] :: r
  | 0 => ⟨[], rfl⟩
  | i + 1 => by
    obtain ⟨r, h⟩ := gL_head fl i
    unfold gL
    split
    · exact ⟨r ++ [[(zf i : Int)]], by rw [h]; rfl⟩
    · exact ⟨r, h⟩
theorem zf_le : ∀ i, i < 8 → zf i ≤ 9 := by decide
theorem feed_cons (s : PS) (b : UInt8) (t : List UInt8) : s.feed (b :: t) = (s.byte (b.toNat : Int)).feed t := rfl
theorem b59 : (((59 : UInt8).toNat : Nat) : Int) = 59 := rfl
theorem b58 : (((58 : UInt8).toNat : Nat) : Int) = 58 := rfl
theorem feed_gL (fl : Int) : ∀ i, i ≤ 8 → PS.none.feed ([48] ++ fA fl i) = st (gL fl i)
  | 0, _ => byte_none (d := 0) (by omega)
  | i + 1, h => by
    obtain ⟨r, hr⟩ := gL_head fl i
    have hl := gL_len fl i
    unfold fA gL
    split
    · rw [← List.append_assoc, EvN.feed_app, feed_gL fl i (by omega), feed_cons, b59, byte_semi (by rw [hr]; simp) (by omega), ← dec3_eq (by have := zf_le i (by omega); omega)]
      exact feed_num (zf i) (by have := zf_le i (by omega); omega) (gL fl i) []
    · exact feed_gL fl i (by omega)
def colL (c : Nat) (k n : Int) : List (List Int) := if k = 1 then [[(c : Int), 5, n]] else if k = 2 then [[(c : Int), 2, 0, ((n.toNat / 65536 : Nat) : Int), ((n.toNat / 256 % 256 : Nat) : Int), ((n.toNat % 256 : Nat) : Int)]] else []
theorem colL_len (c : Nat) (k n : Int) : (colL c k n).length ≤ 1 := by unfold colL; split <;> (try split) <;> simp
theorem feed_col {L : List (List Int)} (hne : L ≠ []) (hlen : L.length < 16) {c : Nat} (hc : c = 38 ∨ c = 48) {k n : Int} (hn : 0 ≤ n) (hk : colorP k n = true) : (st L).feed (saysP c k n) = st (L ++ colL c k n) := by
  simp only [colorP, decide_eq_true_eq] at hk
  have digit : ∀ (init : List (List Int)) (l : List Int) (d : Nat), d < 10 → (st (init ++ [l ++ [0]])).byte (48 + (d : Int)) = st (init ++ [l ++ [(d : Int)]]) := fun init l d hd => by
    rw [byte_dig hd, show min (10 * 0 + (d : Int)) 9999 = (d : Int) by omega]
  have h1 : (st (L ++ [[0]])).feed (D c) = st (L ++ [[(c : Int)]]) := feed_num c (by omega) L []
  have h2 : (st (L ++ [[(c : Int)]])).byte 58 = st (L ++ [[(c : Int), 0]]) := byte_colon (init := L) (l := [(c : Int)]) (by simp)
  unfold saysP colL
  by_cases c1 : k = 1
  · rw [if_pos c1, if_pos c1]
    obtain ⟨m, rfl⟩ : ∃ m : Nat, n = m := ⟨n.toNat, by omega⟩
    have h3 : (st (L ++ [[(c : Int), 0]])).byte 53 = st (L ++ [[(c : Int), 5]]) := digit L [(c : Int)] 5 (by omega)
    have h4 : (st (L ++ [[(c : Int), 5]])).byte 58 = st (L ++ [[(c : Int), 5, 0]]) := byte_colon (init := L) (l := [(c : Int), 5]) (by simp)
    have h5 : (st (L ++ [[(c : Int), 5, 0]])).feed (D m) = st (L ++ [[(c : Int), 5, (m : Int)]]) := feed_num m (by omega) L [(c : Int), 5]
    have b53 : (((53 : UInt8).toNat : Nat) : Int) = 53 := rfl
    rw [feed_cons, b59, byte_semi hne hlen, EvN.feed_app, h1, EvN.feed_app]
    rw [feed_cons, feed_cons, feed_cons, b58, b53, h2, h3, h4]
    exact h5
  rw [if_neg c1, if_neg c1]
  by_cases c2 : k = 2
  · rw [if_pos c2, if_pos c2]
    obtain ⟨m, rfl⟩ : ∃ m : Nat, n = m := ⟨n.toNat, by omega⟩
    have hm : m < 16777216 := by omega
    have e : (m : Int).toNat = m := rfl
    rw [e]
    have h3 : (st (L ++ [[(c : Int), 0]])).byte 50 = st (L ++ [[(c : Int), 2]]) := digit L [(c : Int)] 2 (by omega)
    have h4 : (st (L ++ [[(c : Int), 2]])).byte 58 = st (L ++ [[(c : Int), 2, 0]]) := byte_colon (init := L) (l := [(c : Int), 2]) (by simp)
    have h5 : (st (L ++ [[(c : Int), 2, 0]])).byte 58 = st (L ++ [[(c : Int), 2, 0, 0]]) := byte_colon (init := L) (l := [(c : Int), 2, 0]) (by simp)
    generalize hr : m / 65536 = r
    generalize hg : m / 256 % 256 = g
    generalize hbb : m % 256 = b
    have h6 : (st (L ++ [[(c : Int), 2, 0, 0]])).feed (D r) = st (L ++ [[(c : Int), 2, 0, (r : Int)]]) := feed_num r (by omega) L [(c : Int), 2, 0]
    have h7 : (st (L ++ [[(c : Int), 2, 0, (r : Int)]])).byte 58 = st (L ++ [[(c : Int), 2, 0, (r : Int), 0]]) := byte_colon (init := L) (l := [(c : Int), 2, 0, (r : Int)]) (by simp)
    have h8 : (st (L ++ [[(c : Int), 2, 0, (r : Int), 0]])).feed (D g) = st (L ++ [[(c : Int), 2, 0, (r : Int), (g : Int)]]) := feed_num g (by omega) L [(c : Int), 2, 0, (r : Int)]
    have h9 : (st (L ++ [[(c : Int), 2, 0, (r : Int), (g : Int)]])).byte 58 = st (L ++ [[(c : Int), 2, 0, (r : Int), (g : Int), 0]]) := byte_colon (init := L) (l := [(c : Int), 2, 0, (r : Int), (g : Int)]) (by simp)
    have h10 : (st (L ++ [[(c : Int), 2, 0, (r : Int), (g : Int), 0]])).feed (D b) = st (L ++ [[(c : Int), 2, 0, (r : Int), (g : Int), (b : Int)]]) := feed_num b (by omega) L [(c : Int), 2, 0, (r : Int), (g : Int)]
    have b50 : (((50 : UInt8).toNat : Nat) : Int) = 50 := rfl
    rw [feed_cons, b59, byte_semi hne hlen, EvN.feed_app, h1, EvN.feed_app]
    rw [feed_cons, feed_cons, feed_cons, feed_cons, b58, b50, h2, h3, h4, h5]
    show (st (L ++ [[(c : Int), 2, 0, 0]])).feed (D r ++ (58 :: (D g ++ (58 :: D b)))) = _
    rw [EvN.feed_app, h6, feed_cons, b58, h7, EvN.feed_app, h8, feed_cons, b58, h9]
    exact h10
  · rw [if_neg c2, if_neg c2, List.append_nil]; rfl
def bodyB (b : At) : List UInt8 := (([48] ++ fA b.fl 8) ++ saysP 38 b.fk b.fn) ++ saysP 48 b.bk b.bn
def LB (b : At) : List (List Int) := gL b.fl 8 ++ (colL 38 b.fk b.fn ++ colL 48 b.bk b.bn)
theorem feed_body {b : At} (h1 : 0 ≤ b.fn) (h2 : 0 ≤ b.bn) (c1 : colorP b.fk b.fn = true) (c2 : colorP b.bk b.bn = true) : PS.none.feed (bodyB b) = st (LB b) := by
  obtain ⟨r, hr⟩ := gL_head b.fl 8
  have hl := gL_len b.fl 8
  have hl2 := colL_len 38 b.fk b.fn
  unfold bodyB LB
  rw [EvN.feed_app, EvN.feed_app, feed_gL b.fl 8 (by omega), feed_col (by rw [hr]; simp) (by omega) (.inl rfl) h1 c1, feed_col (by rw [hr]; simp) (by simp only [List.length_append]; omega) (.inr rfl) h2 c2, List.append_assoc]
/-! ### The bytes, one by one -/
def inD (x : UInt8) : Prop := 48 ≤ x.toNat ∧ x.toNat ≤ 59
theorem D_in : ∀ (n : Nat), ∀ x ∈ D n, inD x := by
  intro n
  induction n using Nat.strongRecOn with
  | _ n ih =>
    intro x hx
    have dig : ∀ d, d < 10 → inD (UInt8.ofNat (48 + d)) := fun d hd => by
      have : (UInt8.ofNat (48 + d)).toNat = 48 + d := by rw [UInt8.toNat_ofNat']; omega
      exact ⟨by omega, by omega⟩
    by_cases c : n < 10
    · rw [D1 c] at hx
      simp only [List.mem_singleton] at hx
      subst hx; exact dig n c
    · rw [Dq c] at hx
      rcases List.mem_append.1 hx with hx | hx
      · exact ih (n / 10) (by omega) x hx
      · exact ih (n % 10) (by omega) x hx
theorem in59 : inD 59 := ⟨by decide, by decide⟩
theorem in58 : inD 58 := ⟨by decide, by decide⟩
def AllD (t : List UInt8) : Prop := ∀ x ∈ t, inD x
theorem AllD.app {a b : List UInt8} (h : AllD a) (k : AllD b) : AllD (a ++ b) := fun x hx => by
  rcases List.mem_append.1 hx with hx | hx
  · exact h x hx
  · exact k x hx
theorem AllD.cons {a : UInt8} {b : List UInt8} (h : inD a) (k : AllD b) : AllD (a :: b) := fun x hx => by
  rcases List.mem_cons.1 hx with rfl | hx
  · exact h
  · exact k x hx
theorem AllD.nil : AllD [] := fun x hx => by simp at hx
theorem says_in (c : Nat) (k n : Int) : AllD (saysP c k n) := by
  unfold saysP
  split
  · exact .cons in59 (.app (D_in c) (.app (.cons in58 (.cons ⟨by decide, by decide⟩ (.cons in58 .nil))) (D_in _)))
  · split
    · exact .cons in59 (.app (D_in c) (.app (.cons in58 (.cons ⟨by decide, by decide⟩ (.cons in58 (.cons in58 .nil)))) (.app (D_in _) (.cons in58 (.app (D_in _) (.cons in58 (D_in _)))))))
    · exact .nil
theorem fA_in (fl : Int) : ∀ i, i ≤ 8 → AllD (fA fl i)
  | 0, _ => .nil
  | i + 1, h => by
    unfold fA
    split
    · exact .app (fA_in fl i (by omega)) (.cons in59 (by rw [← dec3_eq (by have := zf_le i (by omega); omega)]; exact D_in _))
    · exact fA_in fl i (by omega)
theorem body_in (b : At) : AllD (bodyB b) := .app (.app (.app (.cons ⟨by decide, by decide⟩ .nil) (fA_in _ 8 (by omega))) (says_in _ _ _)) (says_in _ _ _)
abbrev SS (ps : PS) (s : Int) : PSt := ⟨DSt.zero, s, ps, [], false, 0, [], false, []⟩
theorem step_in {x : UInt8} (h : inD x) {ps : PS} {s : Int} (hs : s = 3 ∨ s = 4) : (SS ps s).step x = SS (ps.byte (x.toNat : Int)) 4 := by
  obtain ⟨h0, h1⟩ := h
  have hx : nx s (x.toNat : Int) = (4, 4) := by
    unfold nx
    rw [if_neg (by omega), if_neg (by omega), if_neg (by omega), if_neg (by omega), if_neg (by omega), if_pos (by omega)]
    unfold nSeq
    rw [if_neg (by omega), if_neg (by omega), if_neg (by omega), if_pos (by omega), if_neg (by omega), if_pos (by omega)]
  have e : nx (SS ps s).st (x.toNat : Int) = (4, 4) := hx
  unfold PSt.step
  rw [e]
  have s1 : (SS ps s).step1 x = SS ps s := by
    unfold PSt.step1
    rw [e, if_pos (by decide)]
    unfold PSt.endS
    rw [if_pos (show (SS ps s).d.kept = 0 from rfl)]
  rw [s1]
  have s2 : (SS ps s).step2 4 x = SS ps s := by
    unfold PSt.step2
    rw [if_neg]
    rintro ⟨_, h | h⟩
    · have : s = 10 := h; omega
    · have : s = 12 := h; omega
  show { (((SS ps s).step2 4 x).step3 4).doesS 4 x with st := 4 } = _
  rw [s2]
  have s3 : (SS ps s).step3 4 = SS ps s := by
    unfold PSt.step3
    rw [if_neg (by omega)]
  rw [s3]
  rfl
theorem feedP : ∀ (t : List UInt8), AllD t → ∀ (ps : PS) (s : Int), (s = 3 ∨ s = 4) → ∃ s', (s' = 3 ∨ s' = 4) ∧ (SS ps s).feed t = SS (ps.feed t) s'
  | [], _, ps, s, hs => ⟨s, hs, rfl⟩
  | x :: t, h, ps, s, hs => by
    obtain ⟨s', h1, h2⟩ := feedP t (fun y hy => h y (by simp [hy])) (ps.byte (x.toNat : Int)) 4 (.inr rfl)
    refine ⟨s', h1, ?_⟩
    show ((SS ps s).step x).feed t = _
    rw [step_in (h x (by simp)) hs, h2]; rfl
theorem feed_start : PSt.new.feed [27, 91] = SS PS.none 3 := by rfl
theorem feed_end {ps : PS} {s : Int} (hs : s = 3 ∨ s = 4) : (SS ps s).step 109 = ⟨DSt.zero, 0, ps, [], false, 0, [], false, [⟨4, 0, 109, [], ps.L, []⟩]⟩ := by
  rcases hs with rfl | rfl <;> rfl
theorem fed {t : List UInt8} (h : AllD t) : PSt.new.feed ([27, 91] ++ (t ++ [109])) = ⟨DSt.zero, 0, PS.none.feed t, [], false, 0, [], false, [⟨4, 0, 109, [], (PS.none.feed t).L, []⟩]⟩ := by
  have app : ∀ (s : PSt) (a b : List UInt8), s.feed (a ++ b) = (s.feed a).feed b := fun s a b => by simp [PSt.feed]
  obtain ⟨s', h1, h2⟩ := feedP t h PS.none 3 (.inl rfl)
  rw [app, feed_start, app, h2]
  exact feed_end h1
/-! ### What the parameters do -/
set_option maxRecDepth 100000 in
theorem flags_all : ((List.range 256).all fun m => decide (applyF (gL (m : Int) 8).length At.zero (gL (m : Int) 8) = ⟨(m : Int), 0, 0, 0, 0⟩) && (gL (m : Int) 8).all fun p => !(decide (fst0 p = 38) || decide (fst0 p = 48))) = true := by kernel_rfl
theorem inB_nat {n : Nat} (h : n ≤ 255) : inB (n : Int) := ⟨by omega, by omega⟩
theorem step_col {a : At} {c : Nat} (hc : c = 38 ∨ c = 48) {k n : Int} (hn : 0 ≤ n) (hk : colorP k n = true) (h0 : k ≠ 0) (r : List (List Int)) : ∃ p, colL c k n = [p] ∧ stepA a p r = (if c = 38 then { a with fk := k, fn := n } else { a with bk := k, bn := n }, 0) := by
  simp only [colorP, decide_eq_true_eq] at hk
  have fin : ∀ (p : List Int) (q : Co × Int), fst0 p = (c : Int) → longP (p :: r) = q → q = (⟨k, n, true⟩, 0) → stepA a p r = (if c = 38 then { a with fk := k, fn := n } else { a with bk := k, bn := n }, 0) := by
    intro p q hf hq hv
    unfold stepA
    rw [hf, hq, hv, if_neg (by omega), if_pos (by omega)]
    rcases hc with rfl | rfl
    · rw [if_pos ⟨rfl, rfl⟩, if_pos rfl]; rfl
    · rw [if_neg (by simp), if_pos rfl, if_neg (by omega)]; rfl
  unfold colL
  by_cases c1 : k = 1
  · rw [if_pos c1]
    subst c1
    refine ⟨_, rfl, fin _ _ rfl rfl ?_⟩
    rw [longP_cons, if_pos (by simp), partsOf_eq (a := 5) (t := [n]) rfl, if_neg (by simp), paint5, if_pos (show inB n from ⟨hn, by omega⟩)]
  · have c2 : k = 2 := by omega
    subst c2
    rw [if_neg c1, if_pos rfl]
    refine ⟨_, rfl, fin _ _ rfl rfl ?_⟩
    obtain ⟨m, rfl⟩ : ∃ m : Nat, n = m := ⟨n.toNat, by omega⟩
    have e : (m : Int).toNat = m := rfl
    rw [e, longP_cons, if_pos (by simp), partsOf_eq (a := 2) (t := [0, ((m / 65536 : Nat) : Int), ((m / 256 % 256 : Nat) : Int), ((m % 256 : Nat) : Int)]) rfl, if_pos ⟨by simp, rfl⟩]
    show (paintP (2 :: ((m / 65536 : Nat) : Int) :: ((m / 256 % 256 : Nat) : Int) :: ((m % 256 : Nat) : Int) :: []), (0 : Int)) = _
    rw [paint2, if_pos ⟨inB_nat (by omega), inB_nat (by omega), inB_nat (by omega)⟩]
    have : 65536 * ((m / 65536 : Nat) : Int) + 256 * ((m / 256 % 256 : Nat) : Int) + ((m % 256 : Nat) : Int) = (m : Int) := by omega
    rw [this]
theorem apply_back {x b : At} (hr : rightP b = true) (h0 : 0 ≤ b.fl) (h1 : 0 ≤ b.fn) (h2 : 0 ≤ b.bn) : applyP x (LB b) = b := by
  simp only [rightP, Bool.and_eq_true, decide_eq_true_eq] at hr
  obtain ⟨r1, r2, r3⟩ := hr
  obtain ⟨r, hg⟩ := gL_head b.fl 8
  obtain ⟨m, hm⟩ : ∃ m : Nat, b.fl = m := ⟨b.fl.toNat, by omega⟩
  have fa := List.all_eq_true.1 flags_all m (List.mem_range.2 (by omega))
  rw [← hm] at fa
  simp only [Bool.and_eq_true, decide_eq_true_eq, List.all_eq_true, Bool.not_eq_true', Bool.or_eq_false_iff, decide_eq_false_iff_not] at fa
  obtain ⟨f1, f2⟩ := fa
  have hz : applyF (gL b.fl 8).length x (gL b.fl 8) = ⟨b.fl, 0, 0, 0, 0⟩ := by
    rw [← f1, hg]; rfl
  unfold applyP LB
  rw [if_neg (by rw [hg]; simp), applyF_app (gL b.fl 8) x _ (fun p hp h => h.elim (f2 p hp).1 (f2 p hp).2), hz]
  have col : ∀ (c : Nat) (k n : Int) (a : At) (Y : List (List Int)), (c = 38 ∨ c = 48) → 0 ≤ n → colorP k n = true → (if c = 38 then a.fk = 0 ∧ a.fn = 0 else a.bk = 0 ∧ a.bn = 0) → applyF (colL c k n ++ Y).length a (colL c k n ++ Y) = applyF Y.length (if c = 38 then { a with fk := k, fn := n } else { a with bk := k, bn := n }) Y := by
    intro c k n a Y hc hn hk ha
    by_cases k0 : k = 0
    · have hk' := hk
      simp only [colorP, decide_eq_true_eq] at hk'
      have hn0 : n = 0 := by omega
      subst k0 hn0
      have e : colL c 0 0 = [] := by unfold colL; rw [if_neg (by omega), if_neg (by omega)]
      rw [e]
      rcases hc with rfl | rfl
      · rw [if_pos rfl] at ha ⊢
        obtain ⟨a1, a2, a3, a4, a5⟩ := a
        obtain ⟨rfl, rfl⟩ := ha
        rfl
      · rw [if_neg (by omega)] at ha ⊢
        obtain ⟨a1, a2, a3, a4, a5⟩ := a
        obtain ⟨rfl, rfl⟩ := ha
        rfl
    · obtain ⟨p, e, hs⟩ := step_col (a := a) hc hn hk k0 Y
      rw [e]
      show applyF Y.length (stepA a p Y).1 (Y.drop (stepA a p Y).2) = _
      rw [hs]; rfl
  have e1 := col 38 b.fk b.fn ⟨b.fl, 0, 0, 0, 0⟩ (colL 48 b.bk b.bn) (.inl rfl) h1 r2 ⟨rfl, rfl⟩
  have e2 := col 48 b.bk b.bn ⟨b.fl, b.fk, b.fn, 0, 0⟩ [] (.inr rfl) h2 r3 ⟨rfl, rfl⟩
  rw [e1]
  rw [List.append_nil] at e2
  show applyF (colL 48 b.bk b.bn).length ⟨b.fl, b.fk, b.fn, 0, 0⟩ (colL 48 b.bk b.bn) = b
  rw [e2]
  rfl
theorem bet_body {a b : At} (hab : a ≠ b) (hr : rightP b = true) : betP a b (sA b.fl 8) = [27, 91] ++ (bodyB b ++ [109]) := by
  unfold betP bodyB
  rw [if_neg (fun h => h.elim hab (fun h => by rw [hr] at h; cases h)), sA_fA]
  simp
end Go.Proofs.YtcfjjeipdacbcaaDoor.AM.EvN
