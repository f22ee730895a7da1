/-
  THE PROGRAM's OWN FACTS for the abstract heaps.
-/
import Derived.Test.YtccpckiiademmaaGreatDoorProg
import Derived.Test.YtccpckiiademmaaGreatDoorAb18
set_option linter.unusedSimpArgs false
namespace Go.Proofs.YtccpckiiademmaaGreatDoor
open Go Go.Ab Go.Proofs

noncomputable def kn : Kn := ⟨fun t => !(Tryz.prog.stoodInHeld t) && !(Tryz.prog.eqGuardType Tryz.prog.depth t), fun g => cond (Nat.beq g 258) 1 (cond (Nat.beq g 280) 2 0)⟩

theorem noNG_all : (Tryz.prog.funcs.toList.all fun fn => !(fn.name == "runtime.NumGoroutine")) = true := by kernel_rfl

theorem ext_cases {g k : Nat} (h : kn.ext g = k) (hk : 0 < k) : (g = 258 ∧ k = 1) ∨ (g = 280 ∧ k = 2) := by
  unfold kn at h
  simp only [cond_beq] at h
  split at h
  · rename_i e; exact .inl ⟨e, h.symm⟩
  · split at h
    · rename_i e; exact .inr ⟨e, h.symm⟩
    · omega

set_option maxRecDepth 100000 in
theorem progOK : ProgOK Tryz.prog kn where
  mixed := by kernel_rfl
  noNG := fun f fn h => by
    have h1 := List.all_eq_true.1 noNG_all fn (by rw [Array.mem_toList_iff]; exact Array.mem_of_getElem? h)
    simpa using h1
  stood := fun t h => by
    have h1 : (!(Tryz.prog.stoodInHeld t) && !(Tryz.prog.eqGuardType Tryz.prog.depth t)) = true := h
    rw [Bool.and_eq_true] at h1
    simpa using h1.1
  guard := fun t h => by
    have h1 : (!(Tryz.prog.stoodInHeld t) && !(Tryz.prog.eqGuardType Tryz.prog.depth t)) = true := h
    rw [Bool.and_eq_true] at h1
    simpa using h1.2
  ext1 := fun g h => by
    rcases ext_cases h (by decide) with ⟨rfl, _⟩ | ⟨_, h2⟩
    · exact ⟨Tryz.f258, Tryz.func258, by kernel_rfl, by kernel_rfl, by kernel_rfl, by kernel_rfl⟩
    · cases h2
  ext2 := fun g h => by
    rcases ext_cases h (by decide) with ⟨_, h2⟩ | ⟨rfl, _⟩
    · cases h2
    · exact ⟨Tryz.f280, Tryz.func280, by kernel_rfl, by kernel_rfl, by kernel_rfl, by kernel_rfl⟩

end Go.Proofs.YtccpckiiademmaaGreatDoor
