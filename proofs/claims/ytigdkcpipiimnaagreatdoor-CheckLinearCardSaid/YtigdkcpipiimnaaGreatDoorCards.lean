/-
  DERIVED. GIVEN WITH THE SEED: THE CARDS: each row of YtigdkcpipiimnaaGreatDoorRows.lean that lists a variable, with what it lists TIED to the program's text (the seventh form; the later family's looks); each row that meets fmt, with fmt's text TOLD by the authors' own Lean function (tested against real Go, not proved from fmt's source: count such statements apart). THE CARD IS WHAT COUNTS. Prove the row's statement (the work); the ties are given (YtigdkcpipiimnaaGreatDoorTie.lean); close each card by the builder's one call (the guide's Derived/Test/ToyasCard.lean, 'card_holds'). Laid BY PROGRAM, IN A SANDBOX (cutbox-door.mjs). By AI agents, Wed Nov 11 2026. No macro, syntax, notation, axiom, sorry.
-/
import Derived.Test.YtigdkcpipiimnaaGreatDoorRows
import GoSem.ClaimSeven
namespace Go.Proofs.YtigdkcpipiimnaaGreatDoor
namespace Rows

/-- THE TIED CARD OF 'hackneylaw24.CheckLinear'. -/
def checkLinearCard : Claim7 := { stood := { row := checkLinearRow, standIns := [], harness := (true, "b08ef462ad7c54f2f29d5e1a90d16ae6966cf9f3fb499b3458bf884778510c01"), looks := true }, kinds := [], alts := [], laidByText := true, laidKinds := [.data, .data, .data, .data, .pinned, .pinned], laidTests := true, laidLooks := .later }
def CheckLinearCardSaid : Prop := Claim7.holds Tryz.pinned (.plain (OpenSpec.ofChange checkLinearSpec)) checkLinearCard

/-- THE TIED CARD OF 'hackneylaw24.CheckTells'. -/
def checkTellsCard : Claim7 := { stood := { row := checkTellsRow, standIns := [], harness := (true, "b08ef462ad7c54f2f29d5e1a90d16ae6966cf9f3fb499b3458bf884778510c01"), looks := true }, kinds := [], alts := [], laidByText := true, laidKinds := [.data, .data, .data, .data, .pinned, .pinned], laidTests := true, laidLooks := .later }
def CheckTellsCardSaid : Prop := Claim7.holds Tryz.pinned (.plain (OpenSpec.ofChange checkTellsSpec)) checkTellsCard

/-- THE SECOND FORM's CARD OF 'hackneylaw24.CheckLinear'. -/
def checkLinearUptoCard : Claim7 := { stood := { row := checkLinearUptoRow, standIns := [], harness := (true, "b08ef462ad7c54f2f29d5e1a90d16ae6966cf9f3fb499b3458bf884778510c01"), looks := true }, kinds := [], alts := [], laidByText := true, laidKinds := [.data, .data, .data, .data, .pinned, .pinned], laidTests := true, laidLooks := .later }
def CheckLinearUptoCardSaid : Prop := Claim7.holds Tryz.pinned (.plain (OpenSpec.upto checkLinearSpec)) checkLinearUptoCard

/-- THE SECOND FORM's CARD OF 'hackneylaw24.CheckTells'. -/
def checkTellsUptoCard : Claim7 := { stood := { row := checkTellsUptoRow, standIns := [], harness := (true, "b08ef462ad7c54f2f29d5e1a90d16ae6966cf9f3fb499b3458bf884778510c01"), looks := true }, kinds := [], alts := [], laidByText := true, laidKinds := [.data, .data, .data, .data, .pinned, .pinned], laidTests := true, laidLooks := .later }
def CheckTellsUptoCardSaid : Prop := Claim7.holds Tryz.pinned (.plain (OpenSpec.upto checkTellsSpec)) checkTellsUptoCard
end Rows
end Go.Proofs.YtigdkcpipiimnaaGreatDoor
