/-
  CheckNames: the calls, told by the abstract heap.
-/
import Derived.Test.YtcbhbgphcdngjaaGreatDoorLv0
set_option linter.unusedSimpArgs false
namespace Go.Proofs.YtcbhbgphcdngjaaGreatDoor
open Go Go.Ab Go.Proofs

def namesL : List Value := [.string ⟨#[110, 111, 110, 101]⟩, .string ⟨#[115, 117, 112, 101, 114]⟩, .string ⟨#[99, 108, 97, 105, 109, 115]⟩, .string ⟨#[114, 111, 111, 116]⟩, .string ⟨#[102, 111, 108, 100, 101, 114]⟩, .string ⟨#[108, 105, 110, 107]⟩, .string ⟨#[100, 101, 101, 112]⟩, .string ⟨#[111, 114, 112, 104, 97, 110]⟩, .string ⟨#[98, 105, 116, 109, 97, 112]⟩, .string ⟨#[114, 101, 99, 111, 114, 100]⟩]

/-- The heap of the variable alone. -/
def Hn : St := ⟨(Tr.nil).set 0 (some (.row .arg 9 namesL)), 16⟩

theorem Hn_get (n : Nat) : Hn.h.get n = if n = 0 then some (.row .arg 9 namesL) else none := by
  show (Tr.set _ _ _).get n = _
  rw [Tr.get_set]
  rfl

theorem Hn_wf : WF Hn := fun n b h => by
  rw [Hn_get] at h
  split at h
  · rename_i e; subst e; decide
  · cases h

/-- Names of variables. -/
def ρG : Rn := fun n => if n < NG then some ⟨n, 0, 0⟩ else none

theorem ρG_free {c c' : Nat} (h : NG ≤ c) : FreeOn ρG c c' := fun n h1 _ => if_neg (by omega)

def NamesAt (w : World) : Prop := ∃ cc e fr, w.heap[0]? = some (.cells cc e fr) ∧ ∀ (i : Nat) (u : Value), namesL[i]? = some u → cc[i]? = some u

theorem namesL_VR {i : Nat} {u : Value} (h : namesL[i]? = some u) (ρ : Rn) : VR ρ u u := by
  have hm : u ∈ namesL := List.mem_of_getElem? h
  have : ∃ s, u = .string s := by
    simp only [namesL, List.mem_cons, List.mem_nil_iff, or_false] at hm
    rcases hm with rfl | rfl | rfl | rfl | rfl | rfl | rfl | rfl | rfl | rfl <;> exact ⟨_, rfl⟩
  obtain ⟨s, rfl⟩ := this
  exact .string s

theorem Hn_WR {w : World} (h : NamesAt w) : WR Tryz.prog ρG w Hn.h.get := by
  obtain ⟨cc, e, fr, h1, h2⟩ := h
  refine ⟨fun m n bm bn lm ln hm hn _ _ _ => ?_, fun n b hb => ?_, fun g hg => ⟨0, if_pos hg⟩⟩
  · rw [Hn_get] at hm hn
    split at hm
    · rename_i e1
      split at hn
      · rename_i e2; rw [e1, e2]
      · cases hn
    · cases hm
  · rw [Hn_get] at hb
    split at hb
    · rename_i e1
      subst e1
      simp only [Option.some.injEq] at hb
      subst hb
      exact ⟨⟨0, 0, 0⟩, if_pos (by decide), cc, e, fr, h1, fun i u hu => ⟨u, h2 i u hu, namesL_VR hu _⟩, trivial⟩
    · cases hb

noncomputable def go (f : Int) : Option Value := res (acall Tryz.prog kn (livesS L19) 100000 16 3 [.int .i64 f] Hn)

theorem go_neg (n : Nat) : go (.negSucc n) = some (.bool true) := by unfold go; kernel_rfl
theorem go_0 : go (.ofNat 0) = some (.bool true) := by unfold go; kernel_rfl
theorem go_1 : go (.ofNat 1) = some (.bool true) := by unfold go; kernel_rfl
theorem go_2 : go (.ofNat 2) = some (.bool true) := by unfold go; kernel_rfl
theorem go_3 : go (.ofNat 3) = some (.bool true) := by unfold go; kernel_rfl
theorem go_4 : go (.ofNat 4) = some (.bool true) := by unfold go; kernel_rfl
theorem go_5 : go (.ofNat 5) = some (.bool true) := by unfold go; kernel_rfl
theorem go_6 : go (.ofNat 6) = some (.bool true) := by unfold go; kernel_rfl
theorem go_7 : go (.ofNat 7) = some (.bool true) := by unfold go; kernel_rfl
theorem go_8 : go (.ofNat 8) = some (.bool true) := by unfold go; kernel_rfl
theorem go_9 : go (.ofNat 9) = some (.bool true) := by unfold go; kernel_rfl
theorem go_big (n : Nat) : go (.ofNat (n + 10)) = some (.bool true) := by unfold go; kernel_rfl

theorem go_all : ∀ f : Int, go f = some (.bool true)
  | .negSucc n => go_neg n
  | .ofNat 0 => go_0
  | .ofNat 1 => go_1
  | .ofNat 2 => go_2
  | .ofNat 3 => go_3
  | .ofNat 4 => go_4
  | .ofNat 5 => go_5
  | .ofNat 6 => go_6
  | .ofNat 7 => go_7
  | .ofNat 8 => go_8
  | .ofNat 9 => go_9
  | .ofNat (n + 10) => go_big n

end Go.Proofs.YtcbhbgphcdngjaaGreatDoor
