/-
  Which operations are calls.
-/
import Derived.Test.YtdkpmlhbofgfdaaGreatDoorAmE4
set_option linter.unusedSimpArgs false
set_option linter.unusedVariables false
namespace Go.Proofs.YtdkpmlhbofgfdaaGreatDoor.AM
open Go Go.RowKit

variable {P : Program} {gl : List Nat}
theorem cop0_call {op : Op} {x : EOp} (hop : cop0 P gl op = some (.e x)) (hcx : x.calls = true) : ∃ c, op = .call c ∧ ccall P gl c = some (.e x) ∧ ∀ b, c.callee ≠ .builtin b := by
  cases op <;> simp only [cop0, reduceCtorEq] at hop
  case move X => obtain ⟨_, _, hop⟩ := bindE hop; have := eI hop; cases this
  case assign X => obtain ⟨_, _, hop⟩ := bindE hop; have := eI hop; cases this
  case pick => obtain ⟨_, _, hop⟩ := bindE hop; obtain ⟨_, _, hop⟩ := bindE hop; obtain ⟨_, _, hop⟩ := bindE hop; have := eI hop; cases this
  case alloc t => obtain ⟨_, _, hop⟩ := bindE hop; have := eI hop; cases this
  case box t X => obtain ⟨_, _, hop⟩ := bindE hop; have := eI hop; cases this
  case build t ps =>
    obtain ⟨_, _, hop⟩ := bindE hop
    split at hop
    · obtain ⟨_, _, hop⟩ := bindE hop; obtain ⟨_, _, hop⟩ := bindE hop; obtain ⟨_, _, hop⟩ := bindE hop; have := eI hop; cases this
    · obtain ⟨_, _, hop⟩ := bindE hop; obtain ⟨_, _, hop⟩ := bindE hop; obtain ⟨_, _, hop⟩ := bindE hop; have := eI hop; cases this
    · cases hop
  case buildSlice t n ps =>
    obtain ⟨U, hU, hop⟩ := bindE hop
    split at hop
    · obtain ⟨_, _, hop⟩ := bindE hop; obtain ⟨_, _, hop⟩ := bindE hop; obtain ⟨_, _, hop⟩ := bindE hop; have := eI hop; cases this
    · cases hop
  case insert t mm k x0 =>
    obtain ⟨U, hU, hop⟩ := bindE hop
    split at hop
    · obtain ⟨kk', hkk, hop⟩ := bindE hop
      obtain ⟨m', hm', hop⟩ := bindE hop
      obtain ⟨k', hk', hop⟩ := bindE hop
      obtain ⟨x', hx', hop⟩ := bindE hop
      have := eI hop; injection this with this; subst this; simp [EOp.calls] at hcx
    · cases hop
  case load t A => obtain ⟨_, _, hop⟩ := bindE hop; obtain ⟨_, _, hop⟩ := bindE hop; have := eI hop; cases this
  case store t A X =>
    obtain ⟨n, hn, hop⟩ := bindE hop
    obtain ⟨a', ha', hop⟩ := bindE hop
    obtain ⟨x', hx', hop⟩ := bindE hop
    have := eI hop; injection this with this; subst this; simp [EOp.calls] at hcx
  case nilCheck X => obtain ⟨_, _, hop⟩ := bindE hop; have := eI hop; cases this
  case binOp op t X Y yt =>
    unfold cbin at hop
    obtain ⟨_, _, hop⟩ := bindE hop; obtain ⟨_, _, hop⟩ := bindE hop
    split at hop
    all_goals try (have := eI hop; cases this; done)
    all_goals
      obtain ⟨_, _, hop⟩ := bindE hop
      split at hop <;> first
        | (have := eI hop; cases this; done)
        | (cases hop; done)
        | (split at hop <;> first | (have := eI hop; cases this; done) | (cases hop; done))
        | (obtain ⟨_, _, hop⟩ := bindE hop; split at hop <;> first | (have := eI hop; cases this; done) | (cases hop; done))
  case unOp op t X => cases op <;> simp only [reduceCtorEq] at hop <;> (obtain ⟨_, _, hop⟩ := bindE hop; have := eI hop; cases this)
  case convert s d X =>
    unfold cconv at hop
    obtain ⟨y, hy, hop⟩ := bindE hop
    obtain ⟨S, hS, hop⟩ := bindE hop
    obtain ⟨D, hD, hop⟩ := bindE hop
    split at hop
    · have := eI hop; cases this
    · have := eI hop; cases this
    · have := eI hop; cases this
    · obtain ⟨_, _, hop⟩ := bindE hop
      split at hop
      · have := eI hop; cases this
      · have := eI hop; cases this
      · cases hop
    · obtain ⟨E, hE, hop⟩ := bindE hop
      cases hb : decide (s = d) <;> rw [hb] at hop <;> cases E <;> first | (cases hop; done) | skip
      rename_i k
      cases k <;> first | (cases hop; done) | skip
      have := eI hop; injection this with this; subst this
      cases hcx
    · obtain ⟨_, _, hop⟩ := bindE hop
      split at hop
      · have := eI hop; cases this
      · have := eI hop; cases this
      · cases hop
    · cases hop
  case makeInterface t X =>
    obtain ⟨U, hU, hop⟩ := bindE hop
    split at hop
    · cases hop
    · obtain ⟨_, _, hop⟩ := bindE hop; have := eI hop; cases this
  case makeFunc f as bs => obtain ⟨_, _, hop⟩ := bindE hop; obtain ⟨_, _, hop⟩ := bindE hop; have := eI hop; cases this
  case makeMap t rs => cases rs <;> simp only [reduceCtorEq] at hop; have := eI hop; cases this
  case makeSlice t l c =>
    obtain ⟨U, hU, hop⟩ := bindE hop
    split at hop
    · obtain ⟨_, _, hop⟩ := bindE hop; obtain ⟨_, _, hop⟩ := bindE hop; obtain ⟨_, _, hop⟩ := bindE hop; obtain ⟨_, _, hop⟩ := bindE hop; obtain ⟨_, _, hop⟩ := bindE hop; have := eI hop; cases this
    · cases hop
  case slice t X lo hi mx =>
    cases mx <;> simp only [reduceCtorEq] at hop
    obtain ⟨_, _, hop⟩ := bindE hop; obtain ⟨_, _, hop⟩ := bindE hop; obtain ⟨_, _, hop⟩ := bindE hop; obtain ⟨_, _, hop⟩ := bindE hop
    split at hop <;> first
      | (obtain ⟨_, _, hop⟩ := bindE hop; have := eI hop; cases this; done)
      | (have := eI hop; cases this; done)
      | (cases hop; done)
  case fieldAddr t X f =>
    obtain ⟨U, hU, hop⟩ := bindE hop
    split at hop
    · obtain ⟨_, _, hop⟩ := bindE hop; obtain ⟨_, _, hop⟩ := bindE hop
      split at hop
      · cases hop
      · obtain ⟨_, _, hop⟩ := bindE hop; have := eI hop; cases this
    · cases hop
  case field t X f =>
    obtain ⟨U, hU, hop⟩ := bindE hop
    split at hop
    · obtain ⟨_, _, hop⟩ := bindE hop; obtain ⟨_, _, hop⟩ := bindE hop; obtain ⟨_, _, hop⟩ := bindE hop; have := eI hop; cases this
    · cases hop
  case indexAddr t X I =>
    obtain ⟨U, hU, hop⟩ := bindE hop
    split at hop
    · obtain ⟨_, _, hop⟩ := bindE hop; obtain ⟨_, _, hop⟩ := bindE hop; obtain ⟨_, _, hop⟩ := bindE hop; have := eI hop; cases this
    · obtain ⟨_, _, hop⟩ := bindE hop; obtain ⟨_, _, hop⟩ := bindE hop; obtain ⟨_, _, hop⟩ := bindE hop; have := eI hop; cases this
    · cases hop
  case index t X I =>
    obtain ⟨U, hU, hop⟩ := bindE hop
    split at hop
    · obtain ⟨_, _, hop⟩ := bindE hop; obtain ⟨_, _, hop⟩ := bindE hop; obtain ⟨_, _, hop⟩ := bindE hop; obtain ⟨_, _, hop⟩ := bindE hop; have := eI hop; cases this
    · obtain ⟨_, _, hop⟩ := bindE hop; obtain ⟨_, _, hop⟩ := bindE hop; have := eI hop; cases this
    · cases hop
  case lookup t X K ok =>
    obtain ⟨U, hU, hop⟩ := bindE hop
    split at hop
    · obtain ⟨_, _, hop⟩ := bindE hop; obtain ⟨_, _, hop⟩ := bindE hop; obtain ⟨_, _, hop⟩ := bindE hop; obtain ⟨_, _, hop⟩ := bindE hop; obtain ⟨_, _, hop⟩ := bindE hop; have := eI hop; cases this
    · cases hop
  case mapUpdate t mm k x0 =>
    obtain ⟨U, hU, hop⟩ := bindE hop
    split at hop
    · obtain ⟨kk', hkk, hop⟩ := bindE hop
      obtain ⟨m', hm', hop⟩ := bindE hop
      obtain ⟨k', hk', hop⟩ := bindE hop
      obtain ⟨x', hx', hop⟩ := bindE hop
      have := eI hop; injection this with this; subst this; simp [EOp.calls] at hcx
    · cases hop
  case extract X i => obtain ⟨_, _, hop⟩ := bindE hop; have := eI hop; cases this
  case call c =>
    refine ⟨c, rfl, hop, fun b hb => ?_⟩
    unfold ccall at hop
    obtain ⟨as, has, hop⟩ := bindE hop
    split at hop
    · rename_i hcal; rw [hcal] at hb; cases hb
    · rename_i hcal; rw [hcal] at hb; cases hb
    · rename_i hcal; rw [hcal] at hb; cases hb
    · obtain ⟨t0, ht0, hop⟩ := bindE hop
      split at hop
      · obtain ⟨U, hU, hop⟩ := bindE hop
        split at hop
        · obtain ⟨t1, ht1, hop⟩ := bindE hop
          obtain ⟨U1, hU1, hop⟩ := bindE hop
          split at hop
          all_goals first
            | (obtain ⟨_, _, hop⟩ := bindE hop
               obtain ⟨_, _, hop⟩ := bindE hop
               split at hop
               · obtain ⟨_, _, hop⟩ := bindE hop
                 have := eI hop; injection this with this; subst this; simp [EOp.calls] at hcx
               · cases hop)
            | cases hop
        · cases hop
      · obtain ⟨U, hU, hop⟩ := bindE hop
        split at hop
        all_goals first
          | (have := eI hop; cases this; done)
          | (cases hop; done)
          | (obtain ⟨_, _, hop⟩ := bindE hop
             split at hop
             · have := eI hop; cases this
             · cases hop)
      · obtain ⟨U, hU, hop⟩ := bindE hop
        split at hop
        · obtain ⟨es, hes, hop⟩ := bindE hop
          have := eI hop; injection this with this; subst this; simp [EOp.calls] at hcx
        · cases hop
      · obtain ⟨U, hU, hop⟩ := bindE hop
        split at hop
        · obtain ⟨z, hz, hop⟩ := bindE hop
          have := eI hop; injection this with this; subst this; simp [EOp.calls] at hcx
        · have := eI hop; injection this with this; subst this; simp [EOp.calls] at hcx
        · cases hop
      · have := eI hop; cases this
      · have := eI hop; cases this
      · cases hop
end Go.Proofs.YtdkpmlhbofgfdaaGreatDoor.AM
