/-
  DERIVED. GIVEN WITH THE SEED: THE CARDS: each row of YtacbhdoeadpncaaGreatDoorRows.lean that lists a variable, with what it lists TIED to the program's text (the seventh form; the later family's looks); each row that meets fmt, with fmt's text TOLD by the authors' own Lean function (tested against real Go, not proved from fmt's source: count such statements apart). THE CARD IS WHAT COUNTS. Prove the row's statement (the work); the ties are given (YtacbhdoeadpncaaGreatDoorTie.lean); close each card by the builder's one call (the guide's Derived/Test/ToyasCard.lean, 'card_holds'). Laid BY PROGRAM, IN A SANDBOX (cutbox-door.mjs). By AI agents, Wed Nov 11 2026. No macro, syntax, notation, axiom, sorry.
-/
import Derived.Test.YtacbhdoeadpncaaGreatDoorRows
import GoSem.ClaimSeven
namespace Go.Proofs.YtacbhdoeadpncaaGreatDoor
namespace Rows

/-- THE TIED CARD OF 'hackneylaw15.BagOne'. -/
def bagOneCard : Claim7 := { stood := { row := bagOneRow, standIns := [], harness := (true, "a4741c808c44f2afad87a9bd09416a739629c16e071889fd6859135e0b8152bb"), looks := true }, kinds := [], alts := [], laidByText := true, laidKinds := [.data, .data, .data, .data, .pinned, .pinned], laidTests := true, laidLooks := .later }
def BagOneCardSaid : Prop := Claim7.holds Tryz.pinned (.plain (OpenSpec.ofChange bagOneSpec)) bagOneCard

/-- THE SECOND FORM's CARD OF 'hackneylaw15.BagOne'. -/
def bagOneUptoCard : Claim7 := { stood := { row := bagOneUptoRow, standIns := [], harness := (true, "a4741c808c44f2afad87a9bd09416a739629c16e071889fd6859135e0b8152bb"), looks := true }, kinds := [], alts := [], laidByText := true, laidKinds := [.data, .data, .data, .data, .pinned, .pinned], laidTests := true, laidLooks := .later }
def BagOneUptoCardSaid : Prop := Claim7.holds Tryz.pinned (.plain (OpenSpec.upto bagOneSpec)) bagOneUptoCard
end Rows
end Go.Proofs.YtacbhdoeadpncaaGreatDoor
