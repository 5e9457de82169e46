/-
  DERIVED. GIVEN WITH THE SEED: THE CARDS: each row of YthpfbljbifcaoaaGreatDoorRows.lean that lists a variable, with what it lists TIED to the program's text (the seventh form; the later family's looks); each row that meets fmt, with fmt's text TOLD by the authors' own Lean function (tested against real Go, not proved from fmt's source: count such statements apart). THE CARD IS WHAT COUNTS. Prove the row's statement (the work); the ties are given (YthpfbljbifcaoaaGreatDoorTie.lean); close each card by the builder's one call (the guide's Derived/Test/ToyasCard.lean, 'card_holds'). Laid BY PROGRAM, IN A SANDBOX (cutbox-door.mjs). By AI agents, Wed Nov 11 2026. No macro, syntax, notation, axiom, sorry.
-/
import Derived.Test.YthpfbljbifcaoaaGreatDoorRows
import GoSem.ClaimSeven
namespace Go.Proofs.YthpfbljbifcaoaaGreatDoor
namespace Rows

/-- THE TIED CARD OF 'hackneylaw23.AutoHolds'. -/
def autoHoldsCard : Claim7 := { stood := { row := autoHoldsRow, standIns := [], harness := (true, "0597ddc7317ddd6a50afc9bf4ef53ad9760a936298661fa817ed1746825497f4"), looks := true }, kinds := [], alts := [], laidByText := true, laidKinds := [.data, .data, .data, .data, .pinned, .pinned], laidTests := true, laidLooks := .later }
def AutoHoldsCardSaid : Prop := Claim7.holds Tryz.pinned (.plain (OpenSpec.ofChange autoHoldsSpec)) autoHoldsCard

/-- THE TIED CARD OF 'hackneylaw23.AutoPlays'. -/
def autoPlaysCard : Claim7 := { stood := { row := autoPlaysRow, standIns := [], harness := (true, "0597ddc7317ddd6a50afc9bf4ef53ad9760a936298661fa817ed1746825497f4"), looks := true }, kinds := [], alts := [], laidByText := true, laidKinds := [.data, .data, .data, .data, .pinned, .pinned], laidTests := true, laidLooks := .later }
def AutoPlaysCardSaid : Prop := Claim7.holds Tryz.pinned (.plain (OpenSpec.ofChange autoPlaysSpec)) autoPlaysCard

/-- THE SECOND FORM's CARD OF 'hackneylaw23.AutoHolds'. -/
def autoHoldsUptoCard : Claim7 := { stood := { row := autoHoldsUptoRow, standIns := [], harness := (true, "0597ddc7317ddd6a50afc9bf4ef53ad9760a936298661fa817ed1746825497f4"), looks := true }, kinds := [], alts := [], laidByText := true, laidKinds := [.data, .data, .data, .data, .pinned, .pinned], laidTests := true, laidLooks := .later }
def AutoHoldsUptoCardSaid : Prop := Claim7.holds Tryz.pinned (.plain (OpenSpec.upto autoHoldsSpec)) autoHoldsUptoCard

/-- THE SECOND FORM's CARD OF 'hackneylaw23.AutoPlays'. -/
def autoPlaysUptoCard : Claim7 := { stood := { row := autoPlaysUptoRow, standIns := [], harness := (true, "0597ddc7317ddd6a50afc9bf4ef53ad9760a936298661fa817ed1746825497f4"), looks := true }, kinds := [], alts := [], laidByText := true, laidKinds := [.data, .data, .data, .data, .pinned, .pinned], laidTests := true, laidLooks := .later }
def AutoPlaysUptoCardSaid : Prop := Claim7.holds Tryz.pinned (.plain (OpenSpec.upto autoPlaysSpec)) autoPlaysUptoCard
end Rows
end Go.Proofs.YthpfbljbifcaoaaGreatDoor
