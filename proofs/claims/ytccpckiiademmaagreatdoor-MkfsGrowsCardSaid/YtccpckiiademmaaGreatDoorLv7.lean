/-
  THE CHAIN OF THE LAYERS' EXAMPLES: the twenty-first.
-/
import Derived.Test.YtccpckiiademmaaGreatDoorLv0
import Derived.Test.YtccpckiiademmaaGreatDoorAn2
namespace Go.Proofs.YtccpckiiademmaaGreatDoor
open Go Go.Ab Go.Proofs

noncomputable def s20 : Summ := addS 215 append0S (addS 173 (pureS allNilF) (livesS L20))
theorem run21 : res (acall Tryz.prog kn s20 100000 16 4 [] S0) = some (.bool true) := by kernel_rfl

end Go.Proofs.YtccpckiiademmaaGreatDoor
