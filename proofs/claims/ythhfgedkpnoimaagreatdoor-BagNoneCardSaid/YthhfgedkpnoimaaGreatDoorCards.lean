/-
  DERIVED. GIVEN WITH THE SEED: THE CARDS: each row of YthhfgedkpnoimaaGreatDoorRows.lean that lists a variable, with what it lists TIED to the program's text (the seventh form; the later family's looks); each row that meets fmt, with fmt's text TOLD by the authors' own Lean function (tested against real Go, not proved from fmt's source: count such statements apart). THE CARD IS WHAT COUNTS. Prove the row's statement (the work); the ties are given (YthhfgedkpnoimaaGreatDoorTie.lean); close each card by the builder's one call (the guide's Derived/Test/ToyasCard.lean, 'card_holds'). Laid BY PROGRAM, IN A SANDBOX (cutbox-door.mjs). By AI agents, Wed Nov 11 2026. No macro, syntax, notation, axiom, sorry.
-/
import Derived.Test.YthhfgedkpnoimaaGreatDoorRows
import GoSem.ClaimSeven
namespace Go.Proofs.YthhfgedkpnoimaaGreatDoor
namespace Rows

/-- THE TIED CARD OF 'hackneylaw15.BagNone'. -/
def bagNoneCard : Claim7 := { stood := { row := bagNoneRow, standIns := [], harness := (true, "29f3f0ce549539f6b0efeed3687f07224b6e28774fc553d8079b1d7e6548866d"), looks := true }, kinds := [], alts := [], laidByText := true, laidKinds := [.data, .data, .data, .data, .pinned, .pinned], laidTests := true, laidLooks := .later }
def BagNoneCardSaid : Prop := Claim7.holds Tryz.pinned (.plain (OpenSpec.ofChange bagNoneSpec)) bagNoneCard

/-- THE SECOND FORM's CARD OF 'hackneylaw15.BagNone'. -/
def bagNoneUptoCard : Claim7 := { stood := { row := bagNoneUptoRow, standIns := [], harness := (true, "29f3f0ce549539f6b0efeed3687f07224b6e28774fc553d8079b1d7e6548866d"), looks := true }, kinds := [], alts := [], laidByText := true, laidKinds := [.data, .data, .data, .data, .pinned, .pinned], laidTests := true, laidLooks := .later }
def BagNoneUptoCardSaid : Prop := Claim7.holds Tryz.pinned (.plain (OpenSpec.upto bagNoneSpec)) bagNoneUptoCard
end Rows
end Go.Proofs.YthhfgedkpnoimaaGreatDoor
