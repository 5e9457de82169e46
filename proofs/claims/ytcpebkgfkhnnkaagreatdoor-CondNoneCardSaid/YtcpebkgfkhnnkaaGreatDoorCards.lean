/-
  DERIVED. GIVEN WITH THE SEED: THE CARDS: each row of YtcpebkgfkhnnkaaGreatDoorRows.lean that lists a variable, with what it lists TIED to the program's text (the seventh form; the later family's looks); each row that meets fmt, with fmt's text TOLD by the authors' own Lean function (tested against real Go, not proved from fmt's source: count such statements apart). THE CARD IS WHAT COUNTS. Prove the row's statement (the work); the ties are given (YtcpebkgfkhnnkaaGreatDoorTie.lean); close each card by the builder's one call (the guide's Derived/Test/ToyasCard.lean, 'card_holds'). Laid BY PROGRAM, IN A SANDBOX (cutbox-door.mjs). By AI agents, Wed Nov 11 2026. No macro, syntax, notation, axiom, sorry.
-/
import Derived.Test.YtcpebkgfkhnnkaaGreatDoorRows
import GoSem.ClaimSeven
namespace Go.Proofs.YtcpebkgfkhnnkaaGreatDoor
namespace Rows

/-- THE TIED CARD OF 'hackneylaw25.CondNone'. -/
def condNoneCard : Claim7 := { stood := { row := condNoneRow, standIns := [], harness := (true, "ec77a65365107fa8e0cc8aa9899e207347be74c6de9fa88dfc19c3da7b526809"), looks := true }, kinds := [], alts := [], laidByText := true, laidKinds := [.data, .data, .data, .data, .pinned, .pinned], laidTests := true, laidLooks := .later }
def CondNoneCardSaid : Prop := Claim7.holds Tryz.pinned (.plain (OpenSpec.ofChange condNoneSpec)) condNoneCard

/-- THE SECOND FORM's CARD OF 'hackneylaw25.CondNone'. -/
def condNoneUptoCard : Claim7 := { stood := { row := condNoneUptoRow, standIns := [], harness := (true, "ec77a65365107fa8e0cc8aa9899e207347be74c6de9fa88dfc19c3da7b526809"), looks := true }, kinds := [], alts := [], laidByText := true, laidKinds := [.data, .data, .data, .data, .pinned, .pinned], laidTests := true, laidLooks := .later }
def CondNoneUptoCardSaid : Prop := Claim7.holds Tryz.pinned (.plain (OpenSpec.upto condNoneSpec)) condNoneUptoCard
end Rows
end Go.Proofs.YtcpebkgfkhnnkaaGreatDoor
