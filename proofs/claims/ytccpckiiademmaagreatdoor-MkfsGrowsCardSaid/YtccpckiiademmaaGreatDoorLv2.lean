/-
  THE CHAIN OF THE LAYERS' EXAMPLES: evaluations, by the kernel.
-/
import Derived.Test.YtccpckiiademmaaGreatDoorLv0
namespace Go.Proofs.YtccpckiiademmaaGreatDoor
open Go Go.Ab Go.Proofs

theorem run15 : res (acall Tryz.prog kn (livesS L13) 100000 16 146 [] S0) = some (.bool true) := by kernel_rfl

end Go.Proofs.YtccpckiiademmaaGreatDoor
