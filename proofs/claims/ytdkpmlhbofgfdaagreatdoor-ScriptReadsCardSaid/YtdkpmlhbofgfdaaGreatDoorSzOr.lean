/-
  What is known of the library by its answers: numerals and back, where a byte is, how many there are, texts that are joined.
-/
import Derived.Test.YtdkpmlhbofgfdaaGreatDoorSzX1
import Derived.Test.YtdkpmlhbofgfdaaGreatDoorShelf
import Derived.Test.YtdkpmlhbofgfdaaGreatDoorTab
import Derived.Test.YtdkpmlhbofgfdaaGreatDoorLaid
import Derived.Test.YtdkpmlhbofgfdaaGreatDoorRep
import Derived.Test.YtdkpmlhbofgfdaaGreatDoorAmArgs2
import Derived.Lib.AtoiErrMem
set_option linter.unusedVariables false
set_option linter.unusedSimpArgs false
namespace Go.Proofs.YtdkpmlhbofgfdaaGreatDoor.AM
open Go
section
open Go.RowKit
theorem strsOf_get : ∀ {cs : List AV} {ls : List (List UInt8)}, strsOf cs = some ls → ls.length = cs.length ∧ ∀ (j : Nat) l, ls[j]? = some l → cs[j]? = some (.str l)
  | [], ls, h => by obtain rfl := Option.some.inj h; exact ⟨rfl, fun j l h => by simp at h⟩
  | .str s :: r, ls, h => by
    unfold strsOf at h
    split at h
    · rename_i l' hl
      obtain rfl := Option.some.inj h
      obtain ⟨h1, h2⟩ := strsOf_get hl
      refine ⟨by simp [h1], fun j l hj => ?_⟩
      cases j with
      | zero => simp at hj; subst hj; rfl
      | succ j => simp at hj; simpa using h2 j l hj
    · cases h
  | .bool _ :: r, ls, h => by cases h
  | .int _ _ :: r, ls, h => by cases h
  | .nilp :: r, ls, h => by cases h
  | .ptr _ _ :: r, ls, h => by cases h
  | .nils :: r, ls, h => by cases h
  | .slc _ _ _ _ :: r, ls, h => by cases h
  | .nilm :: r, ls, h => by cases h
  | .map _ :: r, ls, h => by cases h
  | .nilFn :: r, ls, h => by cases h
  | .fn _ _ _ :: r, ls, h => by cases h
  | .yld _ :: r, ls, h => by cases h
  | .nilIface :: r, ls, h => by cases h
  | .iface _ _ :: r, ls, h => by cases h
  | .agg _ :: r, ls, h => by cases h
  | .tup _ :: r, ls, h => by cases h
theorem joinO_ok {gl : List Nat} (args : List AV) (H : AHeap) (v : AV) (h : joinO args H = some v) : OrhOK Tryz.prog gl 40 args H v := by
  unfold joinO at h
  split at h
  · rename_i b o len cap sep
    split at h
    · rename_i B hB
      split at h
      · rename_i cs hcs
        split at h
        · rename_i ls hls
          split at h
          · rename_i hb
            obtain ⟨hb0, hb1, hb2⟩ := hb
            injection h with h; subst h
            refine ⟨⟨_, Tryz.func40, by kernel_rfl, by kernel_rfl⟩, fun base m W cargs hsr hl => ?_⟩
            obtain ⟨c1, z1, h1, hv1, hz1⟩ := hl.cons_inv
            obtain ⟨c2, z2, rfl, hv2, hz2⟩ := hz1.cons_inv
            rw [hz2.nil_inv] at h1
            obtain ⟨sb, rfl, rfl⟩ := str_inv hv2
            obtain ⟨q1, q2, q3⟩ := cut_some hcs
            obtain ⟨s1, s2⟩ := strsOf_get hls
            obtain ⟨g1, g2⟩ := row_inv hB
            cases hv1 with
            | slc hm hle hc ha =>
              rename_i cap' a L
              have hcap : cap ≤ cap' := by rcases hc with rfl | ⟨hc, _⟩ <;> omega
              obtain rfl := ha (by omega)
              obtain rfl : cargs = #[.slice (some ⟨L.blk, L.off + o, none⟩) len cap', .string sb] := Array.ext' h1
              have hx : (ls.map fun l => (⟨l.toArray⟩ : ByteArray)).map (·.data.toList) = ls := by simp [Function.comp_def]
              have hn : (ls.map fun l => (⟨l.toArray⟩ : ByteArray)).length = len := by simp [s1, q2]
              have hcell : ∀ (j : Nat) x, (ls.map fun l => (⟨l.toArray⟩ : ByteArray))[j]? = some x → W.cell? ⟨L.blk, L.off + o + j, none⟩ = some (.string x) := by
                intro j x hj
                rw [List.getElem?_map] at hj
                cases hlj : ls[j]? with
                | none => rw [hlj] at hj; cases hj
                | some l =>
                  rw [hlj] at hj
                  obtain rfl := Option.some.inj hj
                  have e1 := s2 j l hlj
                  have hj2 : j < len := by rw [← q2]; exact (List.getElem?_eq_some_iff.1 e1).1
                  rw [q3 j hj2] at e1
                  obtain ⟨c, k1, k2⟩ := hsr.cell b L B hm g1 g2 _ _ e1
                  obtain ⟨sb', rfl, he⟩ := str_inv k2
                  subst he
                  rw [Nat.add_assoc, k1]
              have hbk : L.blk < W.heap.size := by
                obtain ⟨x, hx0⟩ : ∃ x, (ls.map fun l => (⟨l.toArray⟩ : ByteArray))[0]? = some x := ⟨_, List.getElem?_eq_getElem (by omega)⟩
                exact World.block_lt_of_cell? _ _ (hcell 0 x hx0)
              have hc := Tryz.strings_Join L.blk (L.off + o) cap' (ls.map fun l => ⟨l.toArray⟩) sb W hcell hbk (by omega) (by omega) (by rw [hx]; omega)
              rw [hn, hx] at hc
              refine hc.mono fun q W' hq => ?_
              obtain ⟨rfl, hw⟩ := hq
              exact ⟨_, rfl, VR.str (m := noInj) ⟨(Lib.join ls sb.data.toList).toArray⟩, hw⟩
          · cases h
        · cases h
      · cases h
    · cases h
  · cases h
end
def ansS (r : Option (AV × AHeap)) (l : List UInt8) : Bool := match r with | some (.str s, _) => decide (s = l) | _ => false
noncomputable def itoaN (i : Nat) : Bool := ansS (Fast.call (QL TT tblL orcR) 200 (.fn 35) [.int .i64 ((i : Int) - 4)] (tabH 1 TT)) (decZ ((i : Int) - 4))
set_option maxRecDepth 100000 in
set_option maxHeartbeats 4000000 in
theorem itoa0 : ((List.range 65).all fun i => itoaN i) = true := by kernel_rfl
set_option maxRecDepth 100000 in
set_option maxHeartbeats 4000000 in
theorem itoa1 : ((List.range 65).all fun i => itoaN (i + 65)) = true := by kernel_rfl
set_option maxRecDepth 100000 in
set_option maxHeartbeats 4000000 in
theorem itoa2 : ((List.range 65).all fun i => itoaN (i + 130)) = true := by kernel_rfl
set_option maxRecDepth 100000 in
set_option maxHeartbeats 4000000 in
theorem itoa3 : ((List.range 65).all fun i => itoaN (i + 195)) = true := by kernel_rfl
theorem itoa_all {i : Nat} (h : i < 260) : itoaN i = true := by
  by_cases c0 : i < 65
  · exact List.all_eq_true.1 itoa0 i (List.mem_range.2 c0)
  by_cases c1 : i < 130
  · have := List.all_eq_true.1 itoa1 (i - 65) (List.mem_range.2 (by omega))
    rwa [show i - 65 + 65 = i by omega] at this
  by_cases c2 : i < 195
  · have := List.all_eq_true.1 itoa2 (i - 130) (List.mem_range.2 (by omega))
    rwa [show i - 130 + 130 = i by omega] at this
  · have := List.all_eq_true.1 itoa3 (i - 195) (List.mem_range.2 (by omega))
    rwa [show i - 195 + 195 = i by omega] at this
theorem ansS_some {r : Option (AV × AHeap)} {l : List UInt8} (h : ansS r l = true) : ∃ H', r = some (.str l, H') := by
  unfold ansS at h
  split at h
  · obtain rfl := of_decide_eq_true h
    exact ⟨_, rfl⟩
  · cases h
theorem tgI : ∀ t ∈ TT, t.g ∈ [0, 1999999] ∧ t.g < 999999 := by decide
theorem hgI : ∀ g ∈ [0, 1999999], g < 999999 → g ∈ TT.map (·.g) := by decide
theorem itoa_closed {n : Int} (h0 : -4 ≤ n) (h1 : n < 256) : OrcOK Tryz.prog TT 35 [.int .i64 n] (.str (decZ n)) := by
  have r := itoa_all (i := (n + 4).toNat) (by omega)
  unfold itoaN at r
  rw [show (((n + 4).toNat : Nat) : Int) - 4 = n by omega, Fast.call_eq] at r
  obtain ⟨H', h⟩ := ansS_some r
  exact orc_of_run (N := 1) mix tok hgI (okL tgI tblL_ok orcR_ok) rfl rfl h
def atoiN (i : Nat) : Bool := decide (Lib.atoi (decZ ((i : Int) - 4)) = some ((i : Int) - 4)) && decide ((decZ ((i : Int) - 4)).length ≤ 18)
set_option maxRecDepth 100000 in
theorem atoi_all : ((List.range 260).all atoiN) = true := by decide +kernel
theorem atoi_at {n : Int} (h0 : -4 ≤ n) (h1 : n < 256) : Lib.atoi (decZ n) = some n ∧ (decZ n).length ≤ 18 := by
  have := List.all_eq_true.1 atoi_all (n + 4).toNat (List.mem_range.2 (by omega))
  unfold atoiN at this
  rw [show (((n + 4).toNat : Nat) : Int) - 4 = n by omega] at this
  simpa using this
def oItoa : List AV → Option AV
  | [.int .i64 n] => if -4 ≤ n ∧ n < 256 then some (.str (decZ n)) else none
  | _ => none
def oAtoi : List AV → Option AV
  | [.str s] => if s.length ≤ 18 then (match Lib.atoi s with | some n => some (.tup [.int .i64 n, .nilIface]) | none => none) else none
  | _ => none
def oIndex : List AV → Option AV
  | [.str s, .str [c]] => some (.int .i64 (Lib.indexByte s c))
  | _ => none
def oCount : List AV → Option AV
  | [.str s, .str [c]] => some (.int .i64 ((Lib.countByte s c : Nat) : Int))
  | _ => none
/-- all answers: a closed function's, too -/
def orcS (g f : FuncId) (args : List AV) : Option AV :=
  bif Nat.beq f 35 then oItoa args else bif Nat.beq f 60 then oAtoi args else bif Nat.beq f 59 then oIndex args else bif Nat.beq f 92 then oCount args else one g [] (.bool true) f args
section
open Go.RowKit
theorem bytes_of {s : ByteArray} {c : UInt8} (h : s.data.toList = [c]) : s = ⟨#[c]⟩ := by
  obtain ⟨a⟩ := s
  simp only at h
  congr 1
  exact Array.ext' h
theorem oItoa_ok (args : List AV) (v : AV) (h : oItoa args = some v) : OrcOK Tryz.prog TT 35 args v := by
  unfold oItoa at h
  split at h
  · split at h
    · rename_i hn
      obtain rfl := Option.some.inj h
      exact itoa_closed hn.1 hn.2
    · cases h
  · cases h
theorem oAtoi_ok (args : List AV) (v : AV) (h : oAtoi args = some v) : OrcOK Tryz.prog TT 60 args v := by
  unfold oAtoi at h
  split at h
  · rename_i s
    split at h
    · rename_i hl
      split at h
      · rename_i n hn
        obtain rfl := Option.some.inj h
        refine ⟨⟨_, Tryz.func60, by kernel_rfl, by kernel_rfl⟩, rfl, fun W cargs _ hl2 => ?_⟩
        obtain ⟨c1, z1, h1, hv1, hz1⟩ := hl2.cons_inv
        rw [hz1.nil_inv] at h1
        obtain ⟨sb, rfl, rfl⟩ := str_inv hv1
        obtain rfl : cargs = #[.string sb] := Array.ext' h1
        refine (Tryz.strconv_Atoi sb n (by rw [size_of rfl]; exact hl) hn W).mono fun q W' hq => ?_
        obtain ⟨rfl, t, rfl⟩ := hq
        refine ⟨_, rfl, ?_, Lib.bytesWorld_below W _ _⟩
        exact VR.tup (m := noInj) (x := [.int .i64 n, .nilIface]) (x' := #[.int .i64 n, .nilIface]) rfl (fun i u u' a b => by
          match i, a, b with
          | 0, a, b => simp at a b; subst a b; exact .int _ _
          | 1, a, b => simp at a b; subst a b; exact .nilIface)
      · cases h
    · cases h
  · cases h
theorem oIndex_ok (args : List AV) (v : AV) (h : oIndex args = some v) : OrcOK Tryz.prog TT 59 args v := by
  unfold oIndex at h
  split at h
  · rename_i s c
    obtain rfl := Option.some.inj h
    refine ⟨⟨_, Tryz.func59, by kernel_rfl, by kernel_rfl⟩, rfl, fun W cargs _ hl2 => ?_⟩
    obtain ⟨c1, z1, h1, hv1, hz1⟩ := hl2.cons_inv
    obtain ⟨c2, z2, rfl, hv2, hz2⟩ := hz1.cons_inv
    rw [hz2.nil_inv] at h1
    obtain ⟨sb, rfl, rfl⟩ := str_inv hv1
    obtain ⟨cb, rfl, hcb⟩ := str_inv hv2
    rw [bytes_of hcb] at h1
    obtain rfl : cargs = #[.string sb, .string ⟨#[c]⟩] := Array.ext' h1
    refine (Tryz.stringslite_Index_one sb c W).mono fun q W' hq => ?_
    obtain ⟨rfl, rfl⟩ := hq
    exact ⟨_, rfl, .int _ _, Below.refl _ _⟩
  · cases h
theorem oCount_ok (args : List AV) (v : AV) (h : oCount args = some v) : OrcOK Tryz.prog TT 92 args v := by
  unfold oCount at h
  split at h
  · rename_i s c
    obtain rfl := Option.some.inj h
    refine ⟨⟨_, Tryz.func92, by kernel_rfl, by kernel_rfl⟩, rfl, fun W cargs _ hl2 => ?_⟩
    obtain ⟨c1, z1, h1, hv1, hz1⟩ := hl2.cons_inv
    obtain ⟨c2, z2, rfl, hv2, hz2⟩ := hz1.cons_inv
    rw [hz2.nil_inv] at h1
    obtain ⟨sb, rfl, rfl⟩ := str_inv hv1
    obtain ⟨cb, rfl, hcb⟩ := str_inv hv2
    rw [bytes_of hcb] at h1
    obtain rfl : cargs = #[.string sb, .string ⟨#[c]⟩] := Array.ext' h1
    refine (Tryz.strings_Count_one sb c W).mono fun q W' hq => ?_
    obtain ⟨rfl, rfl⟩ := hq
    exact ⟨_, rfl, .int _ _, Below.refl _ _⟩
  · cases h
theorem orcS_ok {g : FuncId} (h : OrcOK Tryz.prog TT g [] (.bool true)) (f : FuncId) (args : List AV) (v : AV) (hv : orcS g f args = some v) : OrcOK Tryz.prog TT f args v := by
  unfold orcS at hv
  cases h1 : Nat.beq f 35 with
  | true => obtain rfl := Nat.eq_of_beq_eq_true h1; exact oItoa_ok _ _ hv
  | false =>
    rw [h1] at hv
    cases h2 : Nat.beq f 60 with
    | true => obtain rfl := Nat.eq_of_beq_eq_true h2; exact oAtoi_ok _ _ hv
    | false =>
      rw [h2] at hv
      cases h3 : Nat.beq f 59 with
      | true => obtain rfl := Nat.eq_of_beq_eq_true h3; exact oIndex_ok _ _ hv
      | false =>
        rw [h3] at hv
        cases h4 : Nat.beq f 92 with
        | true => obtain rfl := Nat.eq_of_beq_eq_true h4; exact oCount_ok _ _ hv
        | false => rw [h4] at hv; exact one_ok h f args v hv
end
theorem orcS_no (g f : FuncId) (h : (Nat.beq f g || Nat.beq f 35 || Nat.beq f 59 || Nat.beq f 60 || Nat.beq f 92) = false) (a : List AV) : orcS g f a = none := by
  simp only [Bool.or_eq_false_iff] at h
  obtain ⟨⟨⟨⟨h1, h2⟩, h3⟩, h4⟩, h5⟩ := h
  unfold orcS
  rw [h2, h3, h4, h5]
  show (bif Nat.beq f g && sameArgs a [] then some (AV.bool true) else none) = none
  rw [h1]; rfl
theorem orcS_25 (g : FuncId) (n : Int) (h0 : -4 ≤ n) (h1 : n < 256) : orcS g 35 [.int .i64 n] = some (.str (decZ n)) := by
  show (if -4 ≤ n ∧ n < 256 then some (AV.str (decZ n)) else none) = _
  rw [if_pos ⟨h0, h1⟩]
theorem orcS_50 (g : FuncId) (n : Int) (h0 : -4 ≤ n) (h1 : n < 256) : orcS g 60 [.str (decZ n)] = some (.tup [.int .i64 n, .nilIface]) := by
  obtain ⟨a, b⟩ := atoi_at h0 h1
  show (if (decZ n).length ≤ 18 then (match Lib.atoi (decZ n) with | some n => some (AV.tup [.int .i64 n, .nilIface]) | none => none) else none) = _
  rw [if_pos b, a]
end Go.Proofs.YtdkpmlhbofgfdaaGreatDoor.AM
