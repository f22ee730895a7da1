/-
  ABSTRACT HEAPS: loops with conditions that aren't known.
-/
import Derived.Test.YtccpckiiademmaaGreatDoorKb2
set_option linter.unusedSimpArgs false
set_option linter.unusedVariables false
namespace Go.Ab

/-- The first loop's body, in the order of the text. -/
def loopOf : Code → Option Code
  | .loop b => some b
  | .seq a b => match loopOf a with
    | some c => some c
    | none => loopOf b
  | .cond _ a b => match loopOf a with
    | some c => some c
    | none => loopOf b
  | .block _ b => loopOf b
  | .scope b => loopOf b
  | _ => none

/-- A frame's slot, told. -/
theorem frame_at (h : Nat → Value) (i : Nat) : h = fun j => cond (Nat.beq j i) (h i) (h j) := by
  funext j
  rw [cond_beq]
  split
  · rename_i e; rw [e]
  · rfl

/-- A loop, by an invariant on a number that falls: rounds go on, or leave. -/
theorem aloop_ind {body : Fr → St → Option (AX × Fr × St)} {α : Type} (I : α → Fr → St → Prop) (m : α → Nat) (Q : AX → Fr → St → Prop)
    (hb : ∀ a f S, I a f S → (∃ b f' S', body f S = some (.normal, f', S') ∧ I b f' S' ∧ m b < m a) ∨ ∃ ex f' S', ex ≠ .normal ∧ body f S = some (ex, f', S') ∧ Q ex f' S') :
    ∀ (k : Nat) (a : α) (f : Fr) (S : St), I a f S → m a < k → ∃ ex f' S', aloop body k f S = some (ex, f', S') ∧ Q ex f' S'
  | 0, a, f, S, _, h => by omega
  | k + 1, a, f, S, hI, hk => by
    rcases hb a f S hI with ⟨b, f', S', h1, h2, h3⟩ | ⟨ex, f', S', h0, h1, h2⟩
    · obtain ⟨ex, f2, S2, h4, h5⟩ := aloop_ind I m Q hb k b f' S' h2 (by omega)
      exact ⟨ex, f2, S2, by simp only [aloop, h1]; exact h4, h5⟩
    · refine ⟨ex, f', S', ?_, h2⟩
      simp only [aloop, h1]
      cases ex with
      | normal => exact absurd rfl h0
      | exit i => rfl
      | ret => rfl

end Go.Ab
