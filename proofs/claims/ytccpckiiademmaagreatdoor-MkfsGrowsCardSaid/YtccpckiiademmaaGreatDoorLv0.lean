/-
  THE CHAIN OF THE LAYERS' EXAMPLES: the lists of those that are told.
-/
import Derived.Test.YtccpckiiademmaaGreatDoorPr
namespace Go.Proofs.YtccpckiiademmaaGreatDoor
open Go Go.Ab Go.Proofs

def L01 : List FuncId := 223 :: []
def L02 : List FuncId := 114 :: L01
def L03 : List FuncId := 218 :: L02
def L04 : List FuncId := 224 :: L03
def L05 : List FuncId := 183 :: L04
def L06 : List FuncId := 184 :: L05
def L07 : List FuncId := 185 :: L06
def L08 : List FuncId := 67 :: L07
def L09 : List FuncId := 186 :: L08
def L10 : List FuncId := 181 :: L09
def L11 : List FuncId := 145 :: L10
def L12 : List FuncId := 72 :: L11
def L13 : List FuncId := 38 :: L12
def L15 : List FuncId := 146 :: L13
def L16 : List FuncId := 108 :: L15
def L17 : List FuncId := 66 :: L16
def L18 : List FuncId := 37 :: L17
def L19 : List FuncId := 19 :: L18
def L20 : List FuncId := 8 :: L19

end Go.Proofs.YtccpckiiademmaaGreatDoor
