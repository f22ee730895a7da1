/-
  THE CHAIN OF THE LAYERS' EXAMPLES: the lists of those that are told.
-/
import Derived.Test.YtcbhbgphcdngjaaGreatDoorPr
namespace Go.Proofs.YtcbhbgphcdngjaaGreatDoor
open Go Go.Ab Go.Proofs

def L01 : List FuncId := 158 :: []
def L02 : List FuncId := 34 :: L01
def L03 : List FuncId := 150 :: L02
def L04 : List FuncId := 159 :: L03
def L05 : List FuncId := 103 :: L04
def L06 : List FuncId := 104 :: L05
def L07 : List FuncId := 105 :: L06
def L08 : List FuncId := 11 :: L07
def L09 : List FuncId := 106 :: L08
def L10 : List FuncId := 100 :: L09
def L11 : List FuncId := 55 :: L10
def L12 : List FuncId := 16 :: L11
def L13 : List FuncId := 7 :: L12
def L15 : List FuncId := 56 :: L13
def L16 : List FuncId := 26 :: L15
def L17 : List FuncId := 10 :: L16
def L18 : List FuncId := 6 :: L17
def L19 : List FuncId := 4 :: L18

end Go.Proofs.YtcbhbgphcdngjaaGreatDoor
