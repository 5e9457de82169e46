/-
  DERIVED. GIVEN WITH THE SEED: THE CARDS: each row of YtkmenkanochelaaGreatDoorRows.lean that lists a variable, with what it lists TIED to the program's text (the seventh form; the later family's looks); each row that meets fmt, with fmt's text TOLD by the authors' own Lean function (tested against real Go, not proved from fmt's source: count such statements apart). THE CARD IS WHAT COUNTS. Prove the row's statement (the work); the ties are given (YtkmenkanochelaaGreatDoorTie.lean); close each card by the builder's one call (the guide's Derived/Test/ToyasCard.lean, 'card_holds'). Laid BY PROGRAM, IN A SANDBOX (cutbox-door.mjs). By AI agents, Wed Nov 11 2026. No macro, syntax, notation, axiom, sorry.
-/
import Derived.Test.YtkmenkanochelaaGreatDoorRows
import GoSem.ClaimSeven
namespace Go.Proofs.YtkmenkanochelaaGreatDoor
namespace Rows

/-- THE TIED CARD OF 'hackneylaw15.BagVersions'. -/
def bagVersionsCard : Claim7 := { stood := { row := bagVersionsRow, standIns := [], harness := (true, "d9d13cd93d2b104b3926591454e1e86e4eea16985d3d84ca2bef128958008ec0"), looks := true }, kinds := [], alts := [], laidByText := true, laidKinds := [.data, .data, .data, .data, .pinned, .pinned], laidTests := true, laidLooks := .later }
def BagVersionsCardSaid : Prop := Claim7.holds Tryz.pinned (.plain (OpenSpec.ofChange bagVersionsSpec)) bagVersionsCard

/-- THE SECOND FORM's CARD OF 'hackneylaw15.BagVersions'. -/
def bagVersionsUptoCard : Claim7 := { stood := { row := bagVersionsUptoRow, standIns := [], harness := (true, "d9d13cd93d2b104b3926591454e1e86e4eea16985d3d84ca2bef128958008ec0"), looks := true }, kinds := [], alts := [], laidByText := true, laidKinds := [.data, .data, .data, .data, .pinned, .pinned], laidTests := true, laidLooks := .later }
def BagVersionsUptoCardSaid : Prop := Claim7.holds Tryz.pinned (.plain (OpenSpec.upto bagVersionsSpec)) bagVersionsUptoCard
end Rows
end Go.Proofs.YtkmenkanochelaaGreatDoor
