/-
  Parameters in digits, read again: the plain law, no program in sight.
-/
import Derived.Test.YtcfjjeipdacbcaaDoorPbAll
import Derived.Lib.ItoaNum
set_option linter.unusedVariables false
set_option linter.unusedSimpArgs false
namespace Go.Proofs.YtcfjjeipdacbcaaDoor.AM
open Go
abbrev DD (n : Nat) : List UInt8 := Lib.decDigits n
theorem DD1 {n : Nat} (h : n < 10) : DD n = [UInt8.ofNat (48 + n)] := Lib.decDigits_one h
theorem DDq {n : Nat} (h : ¬ n < 10) : DD n = DD (n / 10) ++ [UInt8.ofNat (48 + n % 10)] := by
  show Lib.decDigits n = _
  rw [Lib.decDigits, dif_neg h]
theorem dig_nat {d : Nat} (h : d < 10) : ((UInt8.ofNat (48 + d)).toNat : Int) = 48 + (d : Int) := by
  have : (UInt8.ofNat (48 + d)).toNat = 48 + d := by
    rw [UInt8.toNat_ofNat']; omega
  omega
abbrev st (L : List (List Int)) : PS := ⟨L, false, false⟩
theorem byte_dig {init : List (List Int)} {l : List Int} {v : Int} {d : Nat} (hd : d < 10) : (st (init ++ [l ++ [v]])).byte (48 + (d : Int)) = st (init ++ [l ++ [min (10 * v + (d : Int)) 9999]]) := by
  unfold PS.byte
  have hl : ¬ (init ++ [l ++ [v]]).length = 0 := by simp
  rw [if_neg (by simp; omega), if_neg hl]
  unfold PS.step PS.last
  rw [if_neg (by omega), if_neg (by simp), if_neg (by omega)]
  have e1 : (init ++ [l ++ [v]]).dropLast = init := by simp
  have e2 : (init ++ [l ++ [v]]).getLastD [] = l ++ [v] := by simp
  simp only [e1, e2]
  have e3 : (l ++ [v]).length - 1 = l.length := by simp
  rw [e3]
  have e4 : (l ++ [v]).getD l.length 0 = v := by simp [List.getD]
  have e5 : (l ++ [v]).set l.length (min (10 * v + (48 + (d : Int) - 48)) 9999) = l ++ [min (10 * v + (d : Int)) 9999] := by
    rw [show 10 * v + (48 + (d : Int) - 48) = 10 * v + (d : Int) by omega]
    simp [List.set_append]
  rw [e4, e5]
theorem byte_none {d : Nat} (hd : d < 10) : PS.none.byte (48 + (d : Int)) = st [[(d : Int)]] := by
  have : PS.none.byte (48 + (d : Int)) = (st ([] ++ [[] ++ [0]])).byte (48 + (d : Int)) := by
    have e1 : PS.none.byte (48 + (d : Int)) = PS.step (48 + (d : Int)) PS.none.begins := by
      unfold PS.byte
      rw [if_neg (by simp [PS.none]; omega), if_pos (show PS.none.L.length = 0 from rfl)]
    have e2 : (st ([] ++ [[] ++ [0]])).byte (48 + (d : Int)) = PS.step (48 + (d : Int)) (st ([] ++ [[] ++ [0]])) := by
      unfold PS.byte
      rw [if_neg (by simp; omega), if_neg (by simp)]
    rw [e1, e2]
    rfl
  rw [this, byte_dig hd]
  simp; omega
theorem feed_app (s : PS) (a b : List UInt8) : s.feed (a ++ b) = (s.feed a).feed b := by simp [PS.feed]
theorem feed_one (s : PS) (b : UInt8) : s.feed [b] = s.byte (b.toNat : Int) := rfl
theorem feed_num : ∀ (n : Nat), n ≤ 9999 → ∀ (init : List (List Int)) (l : List Int), (st (init ++ [l ++ [0]])).feed (DD n) = st (init ++ [l ++ [(n : Int)]]) := by
  intro n
  induction n using Nat.strongRecOn with
  | _ n ih =>
    intro hn init l
    by_cases c : n < 10
    · rw [DD1 c, feed_one, dig_nat c, byte_dig c]
      rw [show min (10 * 0 + (n : Int)) 9999 = (n : Int) by omega]
    · rw [DDq c, feed_app, ih (n / 10) (by omega) (by omega), feed_one, dig_nat (by omega), byte_dig (by omega)]
      rw [show min (10 * ((n / 10 : Nat) : Int) + ((n % 10 : Nat) : Int)) 9999 = (n : Int) by omega]
theorem feed_num0 : ∀ (n : Nat), n ≤ 9999 → PS.none.feed (DD n) = st [[(n : Int)]] := by
  intro n
  induction n using Nat.strongRecOn with
  | _ n ih =>
    intro hn
    by_cases c : n < 10
    · rw [DD1 c, feed_one, dig_nat c, byte_none c]
    · rw [DDq c, feed_app, ih (n / 10) (by omega) (by omega), feed_one, dig_nat (by omega)]
      have := byte_dig (init := []) (l := []) (v := ((n / 10 : Nat) : Int)) (d := n % 10) (by omega)
      simp only [List.nil_append] at this
      rw [this]
      rw [show min (10 * ((n / 10 : Nat) : Int) + ((n % 10 : Nat) : Int)) 9999 = (n : Int) by omega]
theorem byte_colon {init : List (List Int)} {l : List Int} (h1 : l.length < 8) : (st (init ++ [l])).byte 58 = st (init ++ [l ++ [0]]) := by
  unfold PS.byte
  rw [if_neg (by simp), if_neg (by simp)]
  unfold PS.step PS.last
  rw [if_neg (by omega), if_neg (by simp), if_pos rfl]
  have e2 : (init ++ [l]).getLastD [] = l := by simp
  have e1 : (init ++ [l]).dropLast = init := by simp
  simp only [e1, e2]
  rw [if_neg (by omega)]
theorem byte_semi {L : List (List Int)} (h0 : L ≠ []) (h1 : L.length < 16) : (st L).byte 59 = st (L ++ [[0]]) := by
  have hl : ¬ L.length = 0 := fun h => h0 (List.eq_nil_of_length_eq_zero h)
  unfold PS.byte
  rw [if_neg (by simp), if_neg hl]
  unfold PS.step PS.last
  rw [if_pos rfl]
  unfold PS.begins
  rw [if_neg (by show ¬ L.length = 16; omega)]
def nv (x : Int) : Nat := x.toNat % 10000
theorem nv_le (x : Int) : nv x ≤ 9999 := by unfold nv; omega
abbrev nvs (l : List Int) : List Int := l.map fun x => (nv x : Int)
def psK (l : List Int) : Nat → List UInt8
  | 0 => []
  | k + 1 => psK l k ++ ((if 0 < k then [58] else []) ++ DD (nv (l.getD k 0)))
def lsK (L : List (List Int)) : Nat → List UInt8
  | 0 => []
  | i + 1 => lsK L i ++ ((if 0 < i then [59] else []) ++ psK (L.getD i []) (L.getD i []).length)
theorem nvs_take {l : List Int} {k : Nat} (h : k < l.length) : nvs (l.take (k + 1)) = nvs (l.take k) ++ [(nv (l.getD k 0) : Int)] := by
  rw [List.take_add_one, List.getElem?_eq_getElem h, nvs, List.map_append]
  simp [List.getD, h]
theorem feed_ps (l : List Int) (h8 : l.length ≤ 8) (s : PS) (init : List (List Int)) (hs : ∀ n, n ≤ 9999 → s.feed (DD n) = st (init ++ [[(n : Int)]])) : ∀ k, k < l.length → s.feed (psK l (k + 1)) = st (init ++ [nvs (l.take (k + 1))])
  | 0, h => by
    show s.feed ([] ++ ([] ++ DD (nv (l.getD 0 0)))) = _
    rw [List.nil_append, List.nil_append, hs _ (nv_le _), nvs_take h]
    rfl
  | k + 1, h => by
    show s.feed (psK l (k + 1) ++ ([58] ++ DD (nv (l.getD (k + 1) 0)))) = _
    rw [feed_app, feed_ps l h8 s init hs k (by omega), feed_app, feed_one]
    have e : (((58 : UInt8).toNat : Nat) : Int) = 58 := rfl
    rw [e, byte_colon (by simp; omega), feed_num _ (nv_le _), nvs_take h]
theorem feed_ls (L : List (List Int)) (h16 : L.length ≤ 16) (hl : ∀ l ∈ L, 1 ≤ l.length ∧ l.length ≤ 8) : ∀ i, i < L.length → PS.none.feed (lsK L (i + 1)) = st ((L.take (i + 1)).map nvs) := by
  intro i
  have take1 : ∀ i, i < L.length → (L.take (i + 1)).map nvs = (L.take i).map nvs ++ [nvs (L.getD i [])] := fun i h => by
    rw [List.take_add_one, List.getElem?_eq_getElem h, List.map_append]
    simp [List.getD, h]
  have one : ∀ i, i < L.length → ∃ k, (L.getD i []).length = k + 1 ∧ k < (L.getD i []).length ∧ (L.getD i []).length ≤ 8 := fun i h => by
    have hm : L.getD i [] ∈ L := by simp [List.getD, h]
    obtain ⟨a, b⟩ := hl _ hm
    exact ⟨(L.getD i []).length - 1, by omega, by omega, b⟩
  induction i with
  | zero =>
    intro h
    obtain ⟨k, hk, hk2, h8⟩ := one 0 h
    show PS.none.feed ([] ++ ([] ++ psK (L.getD 0 []) (L.getD 0 []).length)) = _
    rw [List.nil_append, List.nil_append, take1 0 h]
    have := feed_ps (L.getD 0 []) h8 PS.none [] (fun n hn => feed_num0 n hn) k hk2
    rw [hk, this, ← hk, List.take_length]
    rfl
  | succ i ih =>
    intro h
    obtain ⟨k, hk, hk2, h8⟩ := one (i + 1) h
    show PS.none.feed (lsK L (i + 1) ++ ([59] ++ psK (L.getD (i + 1) []) (L.getD (i + 1) []).length)) = _
    rw [feed_app, ih (by omega), feed_app, feed_one]
    have e : (((59 : UInt8).toNat : Nat) : Int) = 59 := rfl
    rw [e, byte_semi (by rw [take1 i (by omega)]; simp) (by simp; omega), take1 (i + 1) h]
    have := feed_ps (L.getD (i + 1) []) h8 (st ((L.take (i + 1)).map nvs ++ [[0]])) ((L.take (i + 1)).map nvs) (fun n hn => feed_num n hn _ []) k hk2
    rw [hk, this, ← hk, List.take_length]
theorem back_law (L : List (List Int)) (h16 : L.length ≤ 16) (hl : ∀ l ∈ L, 1 ≤ l.length ∧ l.length ≤ 8) : (PS.none.feed (lsK L L.length)).L = L.map nvs := by
  cases h : L.length with
  | zero =>
    have : L = [] := List.eq_nil_of_length_eq_zero h
    subst this; rfl
  | succ i =>
    rw [feed_ls L h16 hl i (by omega), ← h, List.take_length]
end Go.Proofs.YtcfjjeipdacbcaaDoor.AM
