/-
  ABSTRACT HEAPS, part 18: closed calls as summaries.
-/
import Derived.Test.YtccpckiiademmaaGreatDoorAb17
set_option linter.unusedSimpArgs false
namespace Go.Ab

def res : Option (Value × St) → Option Value
  | some (v, _) => some v
  | none => none

theorem res_some {r : Option (Value × St)} {v : Value} (h : res r = some v) : ∃ S, r = some (v, S) := by
  cases r with
  | none => cases h
  | some p =>
    obtain ⟨u, S⟩ := p
    simp only [res, Option.some.injEq] at h
    subst h
    exact ⟨S, rfl⟩

/-- The empty heap. -/
def S0 : St := ⟨.nil, 16⟩

theorem S0_wf : WF S0 := fun n b h => by simp [S0, Tr.get] at h

/-- Names of variables alone. -/
def globs (ρ : Rn) : Rn := fun n => cond (Nat.blt n NG) (ρ n) none

theorem globs_free (ρ : Rn) {c c' : Nat} (h : NG ≤ c) : FreeOn (globs ρ) c c' := fun n h1 _ => by
  unfold globs
  rw [blt_eq, decide_eq_false (by omega)]
  rfl

theorem globs_WR {P : Program} {ρ : Rn} {w : World} {H : Hp} (h : WR P ρ w H) : WR P (globs ρ) w S0.h.get :=
  ⟨fun m n bm bn lm ln h1 => by simp [S0, Tr.get] at h1, fun n b h1 => by simp [S0, Tr.get] at h1, fun g hg => by
    obtain ⟨x, hx⟩ := h.glob g hg
    exact ⟨x, by unfold globs; rw [blt_eq, decide_eq_true hg]; exact hx⟩⟩

/-- Functions that answer 'true', and leave memory alone. -/
def trueFn : Nat → List Value → St → Option (Value × St) := fun _ args S =>
  match args with
  | [] => some (.bool true, S)
  | _ => none

def livesS (l : List FuncId) : Summ := fun g => cond (l.any (Nat.beq g)) (some trueFn) none

theorem livesS_nil {P : Program} : SummOK P (livesS []) := fun g s h => by simp [livesS] at h

theorem livesS_ok {P : Program} {kn : Kn} (hP : ProgOK P kn) {l : List FuncId} (hl : SummOK P (livesS l)) {n : Nat} {g : FuncId} (h : res (acall P kn (livesS l) n 16 g [] S0) = some (.bool true)) : SummOK P (livesS (g :: l)) := by
  intro g' s hs ro args S v S' hrun hwf ρ w cargs hw hargs hf hro
  cases hin : l.any (Nat.beq g') with
  | true =>
    refine hl g' s ?_ ro args S v S' hrun hwf ρ w cargs hw hargs hf hro
    unfold livesS at hs ⊢
    rw [List.any_cons, hin, Bool.or_true] at hs
    rw [hin]
    exact hs
  | false =>
    unfold livesS at hs
    rw [List.any_cons, hin, Bool.or_false] at hs
    cases he : Nat.beq g' g with
    | false => rw [he] at hs; cases hs
    | true =>
      rw [he] at hs
      simp only [cond_true, Option.some.injEq] at hs
      subst hs
      obtain rfl := Nat.eq_of_beq_eq_true he
      unfold trueFn at hrun
      split at hrun
      · simp only [Option.some.injEq, Prod.mk.injEq] at hrun
        obtain ⟨rfl, rfl⟩ := hrun
        obtain ⟨S1, h1⟩ := res_some h
        have hc : cargs = #[] := by apply Array.ext'; exact List.eq_nil_of_length_eq_zero hargs.1
        subst hc
        refine (acall_ok hP hl n 16 g' [] S0 _ S1 h1 S0_wf (globs ρ) w #[] (globs_WR hw) (VRl.nil _) (globs_free ρ (by decide)) (by decide)).mono ?_
        rintro e w' ⟨cv, ρ', rfl, hp, hv⟩
        cases hv
        refine ⟨.bool true, ρ, rfl, ?_, .bool true⟩
        have hold : ∀ B, B < w.heap.size → w'.heap[B]? = w.heap[B]? := fun B hB => hp.frame B hB (fun n b l _ h => by simp [S0, Tr.get] at h)
        exact ⟨Nat.le_refl _, fun _ _ => rfl, hw.of_heap (fun n b l h1 h2 => hold _ (hw.lt h1 h2)), hp.os, hp.tape, hp.output, hp.size, fun B hB _ => hold B hB, fun n b l h1 h2 => by omega, fun n b _ h => ⟨b, h⟩, fun _ _ => rfl⟩
      · cases hrun

end Go.Ab
