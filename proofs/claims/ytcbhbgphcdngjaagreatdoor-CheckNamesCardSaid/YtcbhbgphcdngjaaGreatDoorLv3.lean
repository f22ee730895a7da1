/-
  THE CHAIN OF THE LAYERS' EXAMPLES: evaluations, by the kernel.
-/
import Derived.Test.YtcbhbgphcdngjaaGreatDoorLv0
namespace Go.Proofs.YtcbhbgphcdngjaaGreatDoor
open Go Go.Ab Go.Proofs

theorem run16 : res (acall Tryz.prog kn (livesS L15) 100000 16 26 [] S0) = some (.bool true) := by kernel_rfl

end Go.Proofs.YtcbhbgphcdngjaaGreatDoor
