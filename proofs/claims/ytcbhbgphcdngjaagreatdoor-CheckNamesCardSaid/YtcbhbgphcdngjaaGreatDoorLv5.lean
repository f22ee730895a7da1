/-
  THE CHAIN OF THE LAYERS' EXAMPLES: evaluations, by the kernel.
-/
import Derived.Test.YtcbhbgphcdngjaaGreatDoorLv0
namespace Go.Proofs.YtcbhbgphcdngjaaGreatDoor
open Go Go.Ab Go.Proofs

theorem run18 : res (acall Tryz.prog kn (livesS L17) 100000 16 6 [] S0) = some (.bool true) := by kernel_rfl
theorem run19 : res (acall Tryz.prog kn (livesS L18) 100000 16 4 [] S0) = some (.bool true) := by kernel_rfl

end Go.Proofs.YtcbhbgphcdngjaaGreatDoor
