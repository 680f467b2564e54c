/-
  A walk through a text, and events in a list, as the machine has them.
-/
import Derived.Test.YteockjhckmlclaaEvPl
set_option linter.unusedVariables false
set_option linter.unusedSimpArgs false
namespace Go.Proofs.Yteockjhckmlclaa.AM
open Go
def nxtE (H : AHeap) (x : AV) : Option (AV × AHeap) := EOp.run noCall H .nil (.nxt (.c x))
theorem wp_nxt (Q : Prog) (H : AHeap) (e : Env) (K : AV → AHeap → Prop) (x : Opd) : EOp.wp Q H e K (.nxt x) = bindX (nxtE H (x.ev e)) K := rfl
def rngV (x : AV) : Option (AObj × AKind) := LOp.run .nil (.rng (.c x))
theorem run_rng (e : Env) (x : Opd) : LOp.run e (.rng x) = rngV (x.ev e) := rfl
theorem rngV_str (s : List UInt8) : rngV (.str s) = some (.itr s 0, .ptr) := rfl
theorem nxt_more {H : AHeap} {b pos : Nat} {s : List UInt8} (h : H.get b = some (.itr s pos)) (hp : pos < s.length) : nxtE H (.ptr b 0) = some (.tup [.bool true, .int .i64 pos, .int .i32 ((Utf8.decode ⟨s.toArray⟩ pos).1 : Nat)], H.set b (.itr s (pos + (Utf8.decode ⟨s.toArray⟩ pos).2))) := by
  simp only [nxtE, EOp.run, Opd.ev, h, ne_eq, not_true_eq_false, if_false, if_pos hp]
theorem nxt_end {H : AHeap} {b pos : Nat} {s : List UInt8} (h : H.get b = some (.itr s pos)) (hp : ¬ pos < s.length) : nxtE H (.ptr b 0) = some (.tup [.bool false], H) := by
  simp only [nxtE, EOp.run, Opd.ev, h, ne_eq, not_true_eq_false, if_false, if_neg hp]
theorem Hp.allocI {base : Nat} {H : AHeap} {l : List Cel} (h : Hp base H l) (s : List UInt8) (p : Nat) : ∃ H', H.alloc (.itr s p) = H' ∧ Hp base H' l ∧ Keep base H H' ∧ H'.get H.next = some (.itr s p) ∧ H'.next = H.next + 1 := by
  refine ⟨_, rfl, ⟨fun x hx => ?_, h.nd, h.lo, Nat.le_succ_of_le h.bn, fun b hb => ?_⟩, h.keep_alloc _, by rw [AHeap.get_alloc, if_pos rfl], rfl⟩
  · obtain ⟨es', ty', h1, h2⟩ := h.has x hx
    exact ⟨es', ty', by rw [AHeap.get_alloc, if_neg (Nat.ne_of_lt (h.lt hx))]; exact h1, h2⟩
  · have hb' : H.next + 1 ≤ b := hb
    rw [AHeap.get_alloc, if_neg (by omega)]
    exact h.fr b (by omega)
theorem Hp.setI {base : Nat} {H : AHeap} {l : List Cel} (h : Hp base H l) {m : Nat} {s : List UInt8} {p p' : Nat} (hm : H.get m = some (.itr s p)) (hb : base ≤ m) : Hp base (H.set m (.itr s p')) l ∧ Keep base H (H.set m (.itr s p')) ∧ (H.set m (.itr s p')).get m = some (.itr s p') := by
  refine ⟨⟨fun x hx => ?_, h.nd, h.lo, h.bn, fun b hb' => ?_⟩, fun b hb' => ?_, by rw [AHeap.get_set, if_pos rfl]⟩
  · obtain ⟨es', ty', h1, h2⟩ := h.has x hx
    refine ⟨es', ty', ?_, h2⟩
    rw [AHeap.get_set, if_neg (fun e => ?_)]
    · exact h1
    · rw [e, hm] at h1; cases h1
  · have hlt : m < H.next := Nat.lt_of_not_le fun hh => by rw [h.fr m hh] at hm; cases hm
    have hb'' : H.next ≤ b := hb'
    rw [AHeap.get_set, if_neg (by omega)]
    exact h.fr b hb''
  · rw [AHeap.get_set, if_neg (by omega)]
theorem flatV_split {E : List EvC} {i : Nat} {a : EvC} (h : E[i]? = some a) : flatV E = flatV (E.take i) ++ (a.1.cs ++ flatV (E.drop (i + 1))) := by
  obtain ⟨h1, h2⟩ := List.getElem?_eq_some_iff.1 h
  have : E = E.take i ++ (a :: E.drop (i + 1)) := by rw [← h2, ← List.drop_eq_getElem_cons h1, List.take_append_drop]
  conv => lhs; rw [this]
  simp [flatV]
/-- an event in a list of them -/
theorem TRv.cell {base : Nat} {H : AHeap} {v : AV} {E : List EvC} {cl l : List Cel} (h : TRv v E cl) (hp : Hp base H (cl ++ l)) {i : Nat} {a : EvC} (ha : E[i]? = some a) (kd : IntKind) : ∃ b p, idxSV 6 v (.int kd i) = some (.ptr b p) ∧ loadV H none (.ptr b p) = some (.int .i64 a.1.k) ∧ loadV H none (.ptr b (p + 1)) = some (.int .i32 a.1.r) := by
  have hi := (List.getElem?_eq_some_iff.1 ha).1
  rcases h with ⟨rfl, _⟩ | ⟨b, pre, rfl, rfl⟩
  · simp at hi
  · have e : pre ++ flatV E = (pre ++ flatV (E.take i)) ++ (a.1.cs ++ flatV (E.drop (i + 1))) := by rw [flatV_split ha]; simp
    have hl : (pre ++ flatV (E.take i)).length = pre.length + i * 6 := by
      rw [List.length_append, flatV_len, List.length_take, Nat.min_eq_left (by omega)]
    have hm : (⟨b, 6, (pre ++ flatV (E.take i)) ++ (a.1.cs ++ flatV (E.drop (i + 1)))⟩ : Cel) ∈ (⟨b, 6, pre ++ flatV E⟩ :: flatC E) ++ l := by rw [← e]; simp
    refine ⟨b, pre.length + i * 6, ?_, hp.load hm ?_, hp.load hm ?_⟩
    · simp only [idxSV, ROp.run, Opd.ev, inIndex, if_pos (show 0 ≤ (i : Int) ∧ (i : Int) < (E.length : Int) by omega), Int.toNat_natCast]
    · rw [List.getElem?_append_right (by omega), hl, Nat.sub_self]; rfl
    · rw [List.getElem?_append_right (by omega), hl, Nat.add_sub_cancel_left]; rfl
end Go.Proofs.Yteockjhckmlclaa.AM
