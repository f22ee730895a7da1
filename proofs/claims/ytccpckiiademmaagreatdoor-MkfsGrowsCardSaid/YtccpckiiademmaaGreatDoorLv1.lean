/-
  THE CHAIN OF THE LAYERS' EXAMPLES: evaluations, by the kernel.
-/
import Derived.Test.YtccpckiiademmaaGreatDoorLv0
namespace Go.Proofs.YtccpckiiademmaaGreatDoor
open Go Go.Ab Go.Proofs

theorem run01 : res (acall Tryz.prog kn (livesS []) 100000 16 223 [] S0) = some (.bool true) := by kernel_rfl
theorem run02 : res (acall Tryz.prog kn (livesS L01) 100000 16 114 [] S0) = some (.bool true) := by kernel_rfl
theorem run03 : res (acall Tryz.prog kn (livesS L02) 100000 16 218 [] S0) = some (.bool true) := by kernel_rfl
theorem run04 : res (acall Tryz.prog kn (livesS L03) 100000 16 224 [] S0) = some (.bool true) := by kernel_rfl
theorem run05 : res (acall Tryz.prog kn (livesS L04) 100000 16 183 [] S0) = some (.bool true) := by kernel_rfl
theorem run06 : res (acall Tryz.prog kn (livesS L05) 100000 16 184 [] S0) = some (.bool true) := by kernel_rfl
theorem run07 : res (acall Tryz.prog kn (livesS L06) 100000 16 185 [] S0) = some (.bool true) := by kernel_rfl
theorem run08 : res (acall Tryz.prog kn (livesS L07) 100000 16 67 [] S0) = some (.bool true) := by kernel_rfl
theorem run09 : res (acall Tryz.prog kn (livesS L08) 100000 16 186 [] S0) = some (.bool true) := by kernel_rfl
theorem run10 : res (acall Tryz.prog kn (livesS L09) 100000 16 181 [] S0) = some (.bool true) := by kernel_rfl
theorem run11 : res (acall Tryz.prog kn (livesS L10) 100000 16 145 [] S0) = some (.bool true) := by kernel_rfl
theorem run12 : res (acall Tryz.prog kn (livesS L11) 100000 16 72 [] S0) = some (.bool true) := by kernel_rfl
theorem run13 : res (acall Tryz.prog kn (livesS L12) 100000 16 38 [] S0) = some (.bool true) := by kernel_rfl

end Go.Proofs.YtccpckiiademmaaGreatDoor
