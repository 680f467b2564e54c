/-
  The document's parameters, walked on the abstract machine.
-/
import Derived.Test.YtbokakhpdlkkkaaParams3
import Derived.Test.YtbokakhpdlkkkaaParamsRef
set_option linter.unusedVariables false
set_option linter.unusedSimpArgs false
namespace Go.Proofs.Ytbokakhpdlkkkaa.AM
open Go
structure RS.Ok (r : RS) (k : Nat) : Prop where
  n0 : 0 ≤ r.n
  n1 : r.n ≤ 9999
  p0 : 1 ≤ r.parts
  p1 : r.parts ≤ k + 1
  o8 : r.one.length ≤ 8
  op : r.parts ≤ 8 → r.one.length + 1 ≤ r.parts
  a16 : r.all.length ≤ 16
theorem RS.Ok.step {r : RS} {k : Nat} (h : r.Ok k) (c : Int) (fin : Bool) : (r.step c fin).Ok (k + 1) := by
  have h1 := h.n0; have h2 := h.n1; have h3 := h.p0; have h4 := h.p1; have h5 := h.o8; have h6 := h.op; have h7 := h.a16
  unfold RS.step
  split
  · exact ⟨h1, h2, h3, by omega, h5, h6, h7⟩
  · rename_i hc
    simp only []
    generalize (if fin = true then r.any else true) = any
    split
    · refine ⟨?_, ?_, h3, by simp only; omega, h5, h6, h7⟩
      · simp only; split <;> omega
      · simp only; split <;> omega
    · unfold RS.sep
      simp only []
      split
      · refine ⟨by simp, by simp, by simp, by simp, by simp, by simp, ?_⟩
        simp only
        by_cases hh : any = true ∧ r.all.length < 16
        · rw [if_pos hh]; simp; omega
        · rw [if_neg hh]; exact h7
      · refine ⟨by simp, by simp, by simp, by simp only; omega, ?_, ?_, h7⟩
        · simp only; split
          · rename_i hp; have := h6 hp; simp; omega
          · exact h5
        · intro hp
          simp only at hp ⊢
          rw [if_pos (by omega)]
          have := h6 (by omega)
          simp; omega
/-- where the document's two lists lie -/
def RL (base : Nat) (H : AHeap) (va vo : AV) (r : RS) : Prop :=
  ∃ (M : List (Nat × List Int)) (ob : Nat) (l : List Cel), M.map (·.2) = r.all ∧ vo = .slc ob 0 r.one.length r.one.length ∧ Hp base H (⟨ob, 1, ints r.one⟩ :: l) ∧
    ((M = [] ∧ va = .nils ∧ l = []) ∨ ∃ b, M ≠ [] ∧ va = .slc b 0 M.length M.length ∧ l = ⟨b, 1, heads M⟩ :: inner M)
theorem RL.len {base : Nat} {H : AHeap} {va vo : AV} {r : RS} (h : RL base H va vo r) : lngV H 1 va = some (.int .i64 r.all.length) := by
  obtain ⟨M, ob, l, hM, _, _, hc⟩ := h
  rw [← hM]
  rcases hc with ⟨rfl, rfl, _⟩ | ⟨b, _, rfl, _⟩
  · rfl
  · simp [lngV_slc]
/-- a number more -/
theorem RL.number {base : Nat} {H : AHeap} {va vo : AV} {r : RS} (h : RL base H va vo r) (ho : r.one.length ≤ 8) (x : Int) (any : Bool) (n : Int) (parts : Nat) :
    ∃ H1 H2 w, H.alloc (.row ⟨[.int .i64 x], 0, false, true⟩) = H1 ∧ appendE H1 1 8 vo (.slc H.next 0 1 1) = some (w, H2) ∧ RL base H2 va w ⟨r.all, r.one ++ [x], n, any, parts⟩ ∧ Keep base H H2 := by
  obtain ⟨M, ob, l, hM, rfl, hp, hc⟩ := h
  obtain ⟨H1, s1, h1, k1⟩ := hp.make [.int .i64 x] 1
  obtain ⟨B, r1, c1⟩ := h1.rowOf (cs := [.int .i64 x]) (List.mem_cons_self ..)
  obtain ⟨H2, s2, h2, k2⟩ := (h1.swap).append1 (bytes := 8) (o2 := 0) (c2 := 1) (v := .int .i64 x) (n := r.one.length) (by simp) r1 (by rw [c1]; rfl) rfl (by omega) (by omega)
  have e : ints (r.one ++ [x]) = ints r.one ++ [.int .i64 x] := by simp
  refine ⟨H1, H2, _, s1, s2, ⟨M, H1.next, l, hM, by simp, ?_, hc⟩, k1.trans k2⟩
  simp only [e]
  exact h2.swap.drop
/-- a list more, and a new one begun -/
theorem RL.list {base : Nat} {H : AHeap} {va vo : AV} {r : RS} (h : RL base H va vo r) (ha : r.all.length ≤ 16) (any : Bool) (n : Int) (parts : Nat) :
    ∃ H1 H2 H3 w, H.alloc (.row ⟨[vo], 0, false, true⟩) = H1 ∧ bs1V vo = some (.row ⟨[vo], 0, false, true⟩, .slc 1 1) ∧ appendE H1 1 24 va (.slc H.next 0 1 1) = some (w, H2) ∧ H2.alloc (.row ⟨[], 0, false, true⟩) = H3 ∧ RL base H3 w (.slc H2.next 0 0 0) ⟨r.all ++ [r.one], [], n, any, parts⟩ ∧ Keep base H H3 := by
  obtain ⟨M, ob, l, hM, rfl, hp, hc⟩ := h
  have hl : M.length = r.all.length := by rw [← hM]; simp
  obtain ⟨H1, s1, h1, k1⟩ := hp.make [.slc ob 0 r.one.length r.one.length] 1
  obtain ⟨w, H2, s2, h2, k2⟩ := LL.push (H := H1) (base := base) (v := va) (M := M) (ib := ob) (m := r.one.length) (tb := H.next) (l := r.one) (by
        rcases hc with ⟨q1, q2, rfl⟩ | ⟨b, q1, q2, rfl⟩
        · exact .inl ⟨q1, q2, h1⟩
        · exact .inr ⟨b, q1, q2, h1⟩) rfl (by omega)
  obtain ⟨H3, s3, h3, k3⟩ : ∃ H3, H2.alloc (.row ⟨[], 0, false, true⟩) = H3 ∧ RL base H3 w (.slc H2.next 0 0 0) ⟨r.all ++ [r.one], [], n, any, parts⟩ ∧ Keep base H2 H3 := by
    rcases h2 with ⟨q1, q2, q3⟩ | ⟨b, q1, q2, q3⟩
    · simp at q1
    · obtain ⟨H3, s3, h3, k3⟩ := q3.make [] 1
      exact ⟨H3, s3, ⟨_, H2.next, _, by simp [hM], rfl, h3, .inr ⟨b, q1, q2, rfl⟩⟩, k3⟩
  exact ⟨H1, H2, H3, w, s1, rfl, s2, s3, h3, k1.trans (k2.trans k3)⟩
theorem RL.fresh {base : Nat} {H : AHeap} {va vo : AV} {r : RS} (h : RL base H va vo r) (any : Bool) (n : Int) (parts : Nat) :
    ∃ H3, H.alloc (.row ⟨[], 0, false, true⟩) = H3 ∧ RL base H3 va (.slc H.next 0 0 0) ⟨r.all, [], n, any, parts⟩ ∧ Keep base H H3 := by
  obtain ⟨M, ob, l, hM, rfl, hp, hc⟩ := h
  obtain ⟨H3, s3, h3, k3⟩ := hp.drop.make [] 1
  exact ⟨H3, s3, ⟨M, H.next, l, hM, rfl, h3, hc⟩, k3⟩
theorem RL.set {base : Nat} {H : AHeap} {va vo : AV} {r : RS} (h : RL base H va vo r) (any : Bool) (n : Int) (parts : Nat) : RL base H va vo ⟨r.all, r.one, n, any, parts⟩ := h
end Go.Proofs.Ytbokakhpdlkkkaa.AM
