/-
  DERIVED. GIVEN WITH THE SEED: THE CARDS: each row of YtbdnlaepeladbaaGreatDoorRows.lean that lists a variable, with what it lists TIED to the program's text (the seventh form; the later family's looks); each row that meets fmt, with fmt's text TOLD by the authors' own Lean function (tested against real Go, not proved from fmt's source: count such statements apart). THE CARD IS WHAT COUNTS. Prove the row's statement (the work); the ties are given (YtbdnlaepeladbaaGreatDoorTie.lean); close each card by the builder's one call (the guide's Derived/Test/ToyasCard.lean, 'card_holds'). Laid BY PROGRAM, IN A SANDBOX (cutbox-door.mjs). By AI agents, Wed Nov 11 2026. No macro, syntax, notation, axiom, sorry.
-/
import Derived.Test.YtbdnlaepeladbaaGreatDoorRows
import GoSem.ClaimSeven
namespace Go.Proofs.YtbdnlaepeladbaaGreatDoor
namespace Rows

/-- THE TIED CARD OF 'hackneylaw14.LeaseHolds'. -/
def leaseHoldsCard : Claim7 := { stood := { row := leaseHoldsRow, standIns := [], harness := (true, "a0f0f0f0bd1e98f9c9b7dbc8af6be97106c234d2c617a309dfbb756e9d89444b"), looks := true }, kinds := [], alts := [], laidByText := true, laidKinds := [.data, .data, .data, .data, .pinned, .pinned], laidTests := true, laidLooks := .later }
def LeaseHoldsCardSaid : Prop := Claim7.holds Tryz.pinned (.plain (OpenSpec.ofChange leaseHoldsSpec)) leaseHoldsCard

/-- THE TIED CARD OF 'hackneylaw14.LeasePlays'. -/
def leasePlaysCard : Claim7 := { stood := { row := leasePlaysRow, standIns := [], harness := (true, "a0f0f0f0bd1e98f9c9b7dbc8af6be97106c234d2c617a309dfbb756e9d89444b"), looks := true }, kinds := [], alts := [], laidByText := true, laidKinds := [.data, .data, .data, .data, .pinned, .pinned], laidTests := true, laidLooks := .later }
def LeasePlaysCardSaid : Prop := Claim7.holds Tryz.pinned (.plain (OpenSpec.ofChange leasePlaysSpec)) leasePlaysCard

/-- THE TIED CARD OF 'hackneylaw15.BagPlays'. -/
def bagPlaysCard : Claim7 := { stood := { row := bagPlaysRow, standIns := [], harness := (true, "a0f0f0f0bd1e98f9c9b7dbc8af6be97106c234d2c617a309dfbb756e9d89444b"), looks := true }, kinds := [], alts := [], laidByText := true, laidKinds := [.data, .data, .data, .data, .pinned, .pinned], laidTests := true, laidLooks := .later }
def BagPlaysCardSaid : Prop := Claim7.holds Tryz.pinned (.plain (OpenSpec.ofChange bagPlaysSpec)) bagPlaysCard

/-- THE TIED CARD OF 'hackneylaw16.WorldBounds'. -/
def worldBoundsCard : Claim7 := { stood := { row := worldBoundsRow, standIns := [], harness := (true, "a0f0f0f0bd1e98f9c9b7dbc8af6be97106c234d2c617a309dfbb756e9d89444b"), looks := true }, kinds := [], alts := [], laidByText := true, laidKinds := [.data, .data, .data, .data, .pinned, .pinned], laidTests := true, laidLooks := .later }
def WorldBoundsCardSaid : Prop := Claim7.holds Tryz.pinned (.plain (OpenSpec.ofChange worldBoundsSpec)) worldBoundsCard

/-- THE TIED CARD OF 'hackneylaw16.WorldPlays'. -/
def worldPlaysCard : Claim7 := { stood := { row := worldPlaysRow, standIns := [], harness := (true, "a0f0f0f0bd1e98f9c9b7dbc8af6be97106c234d2c617a309dfbb756e9d89444b"), looks := true }, kinds := [], alts := [], laidByText := true, laidKinds := [.data, .data, .data, .data, .pinned, .pinned], laidTests := true, laidLooks := .later }
def WorldPlaysCardSaid : Prop := Claim7.holds Tryz.pinned (.plain (OpenSpec.ofChange worldPlaysSpec)) worldPlaysCard

/-- THE SECOND FORM's CARD OF 'hackneylaw14.LeaseHolds'. -/
def leaseHoldsUptoCard : Claim7 := { stood := { row := leaseHoldsUptoRow, standIns := [], harness := (true, "a0f0f0f0bd1e98f9c9b7dbc8af6be97106c234d2c617a309dfbb756e9d89444b"), looks := true }, kinds := [], alts := [], laidByText := true, laidKinds := [.data, .data, .data, .data, .pinned, .pinned], laidTests := true, laidLooks := .later }
def LeaseHoldsUptoCardSaid : Prop := Claim7.holds Tryz.pinned (.plain (OpenSpec.upto leaseHoldsSpec)) leaseHoldsUptoCard

/-- THE SECOND FORM's CARD OF 'hackneylaw14.LeasePlays'. -/
def leasePlaysUptoCard : Claim7 := { stood := { row := leasePlaysUptoRow, standIns := [], harness := (true, "a0f0f0f0bd1e98f9c9b7dbc8af6be97106c234d2c617a309dfbb756e9d89444b"), looks := true }, kinds := [], alts := [], laidByText := true, laidKinds := [.data, .data, .data, .data, .pinned, .pinned], laidTests := true, laidLooks := .later }
def LeasePlaysUptoCardSaid : Prop := Claim7.holds Tryz.pinned (.plain (OpenSpec.upto leasePlaysSpec)) leasePlaysUptoCard

/-- THE SECOND FORM's CARD OF 'hackneylaw15.BagPlays'. -/
def bagPlaysUptoCard : Claim7 := { stood := { row := bagPlaysUptoRow, standIns := [], harness := (true, "a0f0f0f0bd1e98f9c9b7dbc8af6be97106c234d2c617a309dfbb756e9d89444b"), looks := true }, kinds := [], alts := [], laidByText := true, laidKinds := [.data, .data, .data, .data, .pinned, .pinned], laidTests := true, laidLooks := .later }
def BagPlaysUptoCardSaid : Prop := Claim7.holds Tryz.pinned (.plain (OpenSpec.upto bagPlaysSpec)) bagPlaysUptoCard

/-- THE SECOND FORM's CARD OF 'hackneylaw16.WorldBounds'. -/
def worldBoundsUptoCard : Claim7 := { stood := { row := worldBoundsUptoRow, standIns := [], harness := (true, "a0f0f0f0bd1e98f9c9b7dbc8af6be97106c234d2c617a309dfbb756e9d89444b"), looks := true }, kinds := [], alts := [], laidByText := true, laidKinds := [.data, .data, .data, .data, .pinned, .pinned], laidTests := true, laidLooks := .later }
def WorldBoundsUptoCardSaid : Prop := Claim7.holds Tryz.pinned (.plain (OpenSpec.upto worldBoundsSpec)) worldBoundsUptoCard

/-- THE SECOND FORM's CARD OF 'hackneylaw16.WorldPlays'. -/
def worldPlaysUptoCard : Claim7 := { stood := { row := worldPlaysUptoRow, standIns := [], harness := (true, "a0f0f0f0bd1e98f9c9b7dbc8af6be97106c234d2c617a309dfbb756e9d89444b"), looks := true }, kinds := [], alts := [], laidByText := true, laidKinds := [.data, .data, .data, .data, .pinned, .pinned], laidTests := true, laidLooks := .later }
def WorldPlaysUptoCardSaid : Prop := Claim7.holds Tryz.pinned (.plain (OpenSpec.upto worldPlaysSpec)) worldPlaysUptoCard
end Rows
end Go.Proofs.YtbdnlaepeladbaaGreatDoor
