/-
  THE CHAIN OF THE LAYERS' EXAMPLES: evaluations, by the kernel.
-/
import Derived.Test.YtcbhbgphcdngjaaGreatDoorLv0
namespace Go.Proofs.YtcbhbgphcdngjaaGreatDoor
open Go Go.Ab Go.Proofs

theorem run01 : res (acall Tryz.prog kn (livesS []) 100000 16 158 [] S0) = some (.bool true) := by kernel_rfl
theorem run02 : res (acall Tryz.prog kn (livesS L01) 100000 16 34 [] S0) = some (.bool true) := by kernel_rfl
theorem run03 : res (acall Tryz.prog kn (livesS L02) 100000 16 150 [] S0) = some (.bool true) := by kernel_rfl
theorem run04 : res (acall Tryz.prog kn (livesS L03) 100000 16 159 [] S0) = some (.bool true) := by kernel_rfl
theorem run05 : res (acall Tryz.prog kn (livesS L04) 100000 16 103 [] S0) = some (.bool true) := by kernel_rfl
theorem run06 : res (acall Tryz.prog kn (livesS L05) 100000 16 104 [] S0) = some (.bool true) := by kernel_rfl
theorem run07 : res (acall Tryz.prog kn (livesS L06) 100000 16 105 [] S0) = some (.bool true) := by kernel_rfl
theorem run08 : res (acall Tryz.prog kn (livesS L07) 100000 16 11 [] S0) = some (.bool true) := by kernel_rfl
theorem run09 : res (acall Tryz.prog kn (livesS L08) 100000 16 106 [] S0) = some (.bool true) := by kernel_rfl
theorem run10 : res (acall Tryz.prog kn (livesS L09) 100000 16 100 [] S0) = some (.bool true) := by kernel_rfl
theorem run11 : res (acall Tryz.prog kn (livesS L10) 100000 16 55 [] S0) = some (.bool true) := by kernel_rfl
theorem run12 : res (acall Tryz.prog kn (livesS L11) 100000 16 16 [] S0) = some (.bool true) := by kernel_rfl
theorem run13 : res (acall Tryz.prog kn (livesS L12) 100000 16 7 [] S0) = some (.bool true) := by kernel_rfl

end Go.Proofs.YtcbhbgphcdngjaaGreatDoor
