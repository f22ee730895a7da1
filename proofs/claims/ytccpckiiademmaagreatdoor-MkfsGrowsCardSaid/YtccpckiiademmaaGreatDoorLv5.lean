/-
  THE CHAIN OF THE LAYERS' EXAMPLES: evaluations, by the kernel.
-/
import Derived.Test.YtccpckiiademmaaGreatDoorLv0
namespace Go.Proofs.YtccpckiiademmaaGreatDoor
open Go Go.Ab Go.Proofs

theorem run18 : res (acall Tryz.prog kn (livesS L17) 100000 16 37 [] S0) = some (.bool true) := by kernel_rfl
theorem run19 : res (acall Tryz.prog kn (livesS L18) 100000 16 19 [] S0) = some (.bool true) := by kernel_rfl

end Go.Proofs.YtccpckiiademmaaGreatDoor
