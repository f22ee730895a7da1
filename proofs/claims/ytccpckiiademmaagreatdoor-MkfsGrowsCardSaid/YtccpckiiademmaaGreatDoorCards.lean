/-
  DERIVED. GIVEN WITH THE SEED: THE CARDS: each row of YtccpckiiademmaaGreatDoorRows.lean that lists a variable, with what it lists TIED to the program's text (the seventh form; the later family's looks); each row that meets fmt, with fmt's text TOLD by the authors' own Lean function (tested against real Go, not proved from fmt's source: count such statements apart). THE CARD IS WHAT COUNTS. Prove the row's statement (the work); the ties are given (YtccpckiiademmaaGreatDoorTie.lean); close each card by the builder's one call (the guide's Derived/Test/ToyasCard.lean, 'card_holds'). Laid BY PROGRAM, IN A SANDBOX (cutbox-door.mjs). By AI agents, Wed Nov 11 2026. No macro, syntax, notation, axiom, sorry.
-/
import Derived.Test.YtccpckiiademmaaGreatDoorRows
import GoSem.ClaimSeven
namespace Go.Proofs.YtccpckiiademmaaGreatDoor
namespace Rows

/-- THE TIED CARD OF 'cantlelaw21.MkfsGrows'. -/
def mkfsGrowsCard : Claim7 := { stood := { row := mkfsGrowsRow, standIns := [], harness := (true, "e3d70d2ce1a9a2072811e230675dcfe090d0b1c9efeeb30873782bc2d13dc6c2"), looks := false }, kinds := [], alts := [], laidByText := true, laidKinds := [.data, .pinned], laidTests := true, laidLooks := .later }
def MkfsGrowsCardSaid : Prop := Claim7.holds Tryz.pinned (.plain (OpenSpec.ofChange mkfsGrowsSpec)) mkfsGrowsCard

/-- THE SECOND FORM's CARD OF 'cantlelaw21.MkfsGrows'. -/
def mkfsGrowsUptoCard : Claim7 := { stood := { row := mkfsGrowsUptoRow, standIns := [], harness := (true, "e3d70d2ce1a9a2072811e230675dcfe090d0b1c9efeeb30873782bc2d13dc6c2"), looks := false }, kinds := [], alts := [], laidByText := true, laidKinds := [.data, .pinned], laidTests := true, laidLooks := .later }
def MkfsGrowsUptoCardSaid : Prop := Claim7.holds Tryz.pinned (.plain (OpenSpec.upto mkfsGrowsSpec)) mkfsGrowsUptoCard
end Rows
end Go.Proofs.YtccpckiiademmaaGreatDoor
