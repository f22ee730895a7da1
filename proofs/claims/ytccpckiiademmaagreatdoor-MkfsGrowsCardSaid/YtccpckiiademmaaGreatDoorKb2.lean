/-
  ABSTRACT HEAPS: summaries of functions that take and give values without addresses, and leave memory alone.
-/
import Derived.Test.YtccpckiiademmaaGreatDoorKb1
set_option linter.unusedSimpArgs false
set_option linter.unusedVariables false
namespace Go.Ab

/-- A value without addresses is told by itself alone. -/
theorem VR.clean_eq {ρ : Rn} : ∀ (n : Nat) {c u : Value}, cleanB n u = true → VR ρ c u → c = u
  | 0, c, u, h, _ => by simp [cleanB] at h
  | n + 1, c, u, h, hv => by
    cases hv with
    | bool b => rfl
    | int k m => rfl
    | string s => rfl
    | nilptr => rfl
    | ptr off hl => simp [cleanB] at h
    | nilslice a b => rfl
    | slice off a b d hl hc => simp [cleanB] at h
    | void a b => simp [cleanB] at h
    | nilmap => rfl
    | map hl => simp [cleanB] at h
    | func f xs ys hs hh => simp [cleanB] at h
    | nilFunc => rfl
    | nilIface => rfl
    | iface t v u hv => simp only [cleanB] at h; rw [VR.clean_eq n h hv]
    | agg xs ys hs hh =>
      simp only [cleanB, List.all_eq_true] at h
      congr 1
      apply Array.ext hs
      intro i h1 h2
      have h3 := hh i h1
      rw [Array.getD_eq_getD_getElem?, Array.getD_eq_getD_getElem?, Array.getElem?_eq_getElem h1, Array.getElem?_eq_getElem h2] at h3
      exact VR.clean_eq n (h _ (by simp)) h3
    | tuple xs ys hs hh =>
      simp only [cleanB, List.all_eq_true] at h
      congr 1
      apply Array.ext hs
      intro i h1 h2
      have h3 := hh i h1
      rw [Array.getD_eq_getD_getElem?, Array.getD_eq_getD_getElem?, Array.getElem?_eq_getElem h1, Array.getElem?_eq_getElem h2] at h3
      exact VR.clean_eq n (h _ (by simp)) h3

theorem VRl.clean_eq {ρ : Rn} {cs us : List Value} (h : us.all (cleanB 50) = true) (hv : VRl ρ cs us) : cs = us := by
  apply List.ext_getElem hv.1
  intro i h1 h2
  have h3 := hv.getD i
  rw [List.getD_eq_getElem?_getD, List.getD_eq_getElem?_getD, List.getElem?_eq_getElem h1, List.getElem?_eq_getElem h2] at h3
  exact VR.clean_eq 50 (List.all_eq_true.1 h _ (by simp)) h3

theorem VRl.clean {us : List Value} (h : us.all (cleanB 50) = true) (ρ : Rn) : VRl ρ us us := ⟨rfl, fun i hi => by
  rw [List.getD_eq_getElem?_getD, List.getElem?_eq_getElem hi]
  exact cleanB_VR ρ 50 _ (List.all_eq_true.1 h _ (by simp))⟩

/-- One summary more. -/
def addS (g : FuncId) (s : Nat → List Value → St → Option (Value × St)) (summ : Summ) : Summ := fun h => cond (Nat.beq h g) (some s) (summ h)

theorem addS_ok {P : Program} {summ : Summ} (hs : SummOK P summ) {g : FuncId} {s : Nat → List Value → St → Option (Value × St)} (h : SummOK P (fun h => cond (Nat.beq h g) (some s) none)) : SummOK P (addS g s summ) := by
  intro g' s' hg'
  unfold addS at hg'
  cases hb : Nat.beq g' g with
  | true => rw [hb] at hg'; exact h g' s' (by simp only [hb]; exact hg')
  | false => rw [hb] at hg'; exact hs g' s' hg'

def pureS (f : List Value → Option Value) : Nat → List Value → St → Option (Value × St) := fun _ args S =>
  match f args with
  | some v => some (v, S)
  | none => none

/-- What a pure function answers on the empty heap it answers anywhere. -/
theorem pure_ok {P : Program} {kn : Kn} (hP : ProgOK P kn) {summ : Summ} (hsm : SummOK P summ) {g : FuncId} {f : List Value → Option Value}
    (hf : ∀ args v, f args = some v → args.all (cleanB 50) = true ∧ cleanB 50 v = true ∧ ∃ n, res (acall P kn summ n 16 g args S0) = some v) : SummOK P (addS g (pureS f) summ) := by
  refine addS_ok hsm ?_
  intro g' s hs ro args S v S' hrun hwf ρ w cargs hw hargs hfr hro
  cases hb : Nat.beq g' g with
  | false => simp only [hb] at hs; cases hs
  | true =>
    simp only [hb, cond_true, Option.some.injEq] at hs
    subst hs
    obtain rfl := Nat.eq_of_beq_eq_true hb
    unfold pureS at hrun
    split at hrun
    · rename_i u hu
      simp only [Option.some.injEq, Prod.mk.injEq] at hrun
      obtain ⟨rfl, rfl⟩ := hrun
      obtain ⟨h1, h2, n, h3⟩ := hf args u hu
      obtain ⟨S1, h4⟩ := res_some h3
      have hca := hargs.clean_eq h1
      have hargs' : VRl (globs ρ) cargs.toList args := by rw [hca]; exact VRl.clean h1 _
      refine (acall_ok hP hsm n 16 g' args S0 _ S1 h4 S0_wf (globs ρ) w cargs (globs_WR hw) hargs' (globs_free ρ (by decide)) (by decide)).mono ?_
      rintro e w' ⟨cv, ρ', rfl, hp, hv⟩
      obtain rfl := VR.clean_eq 50 h2 hv
      refine ⟨cv, ρ, rfl, ?_, cleanB_VR ρ 50 _ h2⟩
      have hold : ∀ B, B < w.heap.size → w'.heap[B]? = w.heap[B]? := fun B hB => hp.frame B hB (fun n b l _ h => by simp [S0, Tr.get] at h)
      exact ⟨Nat.le_refl _, fun _ _ => rfl, hw.of_heap (fun n b l h1 h2 => hold _ (hw.lt h1 h2)), hp.os, hp.tape, hp.output, hp.size, fun B hB _ => hold B hB, fun n b l h1 h2 => by omega, fun n b _ h => ⟨b, h⟩, fun _ _ => rfl⟩
    · cases hrun

end Go.Ab
