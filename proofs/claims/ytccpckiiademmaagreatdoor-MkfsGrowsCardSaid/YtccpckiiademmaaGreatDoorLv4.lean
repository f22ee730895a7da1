/-
  THE CHAIN OF THE LAYERS' EXAMPLES: evaluations, by the kernel.
-/
import Derived.Test.YtccpckiiademmaaGreatDoorLv0
namespace Go.Proofs.YtccpckiiademmaaGreatDoor
open Go Go.Ab Go.Proofs

theorem run17 : res (acall Tryz.prog kn (livesS L16) 100000 16 66 [] S0) = some (.bool true) := by kernel_rfl

end Go.Proofs.YtccpckiiademmaaGreatDoor
