/-
  THE CHAIN OF THE LAYERS' EXAMPLES: each answers true.
-/
import Derived.Test.YtccpckiiademmaaGreatDoorLv1
import Derived.Test.YtccpckiiademmaaGreatDoorLv2
import Derived.Test.YtccpckiiademmaaGreatDoorLv3
import Derived.Test.YtccpckiiademmaaGreatDoorLv4
import Derived.Test.YtccpckiiademmaaGreatDoorLv5
import Derived.Test.YtccpckiiademmaaGreatDoorLv6
namespace Go.Proofs.YtccpckiiademmaaGreatDoor
open Go Go.Ab Go.Proofs

theorem ok01 : SummOK Tryz.prog (livesS L01) := livesS_ok progOK livesS_nil run01
theorem ok02 : SummOK Tryz.prog (livesS L02) := livesS_ok progOK ok01 run02
theorem ok03 : SummOK Tryz.prog (livesS L03) := livesS_ok progOK ok02 run03
theorem ok04 : SummOK Tryz.prog (livesS L04) := livesS_ok progOK ok03 run04
theorem ok05 : SummOK Tryz.prog (livesS L05) := livesS_ok progOK ok04 run05
theorem ok06 : SummOK Tryz.prog (livesS L06) := livesS_ok progOK ok05 run06
theorem ok07 : SummOK Tryz.prog (livesS L07) := livesS_ok progOK ok06 run07
theorem ok08 : SummOK Tryz.prog (livesS L08) := livesS_ok progOK ok07 run08
theorem ok09 : SummOK Tryz.prog (livesS L09) := livesS_ok progOK ok08 run09
theorem ok10 : SummOK Tryz.prog (livesS L10) := livesS_ok progOK ok09 run10
theorem ok11 : SummOK Tryz.prog (livesS L11) := livesS_ok progOK ok10 run11
theorem ok12 : SummOK Tryz.prog (livesS L12) := livesS_ok progOK ok11 run12
theorem ok13 : SummOK Tryz.prog (livesS L13) := livesS_ok progOK ok12 run13
theorem ok15 : SummOK Tryz.prog (livesS L15) := livesS_ok progOK ok13 run15
theorem ok16 : SummOK Tryz.prog (livesS L16) := livesS_ok progOK ok15 run16
theorem ok17 : SummOK Tryz.prog (livesS L17) := livesS_ok progOK ok16 run17
theorem ok18 : SummOK Tryz.prog (livesS L18) := livesS_ok progOK ok17 run18
theorem ok19 : SummOK Tryz.prog (livesS L19) := livesS_ok progOK ok18 run19
theorem ok20 : SummOK Tryz.prog (livesS L20) := livesS_ok progOK ok19 run20

end Go.Proofs.YtccpckiiademmaaGreatDoor
