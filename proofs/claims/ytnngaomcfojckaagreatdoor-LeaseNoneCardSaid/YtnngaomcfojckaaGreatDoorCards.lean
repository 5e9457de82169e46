/-
  DERIVED. GIVEN WITH THE SEED: THE CARDS: each row of YtnngaomcfojckaaGreatDoorRows.lean that lists a variable, with what it lists TIED to the program's text (the seventh form; the later family's looks); each row that meets fmt, with fmt's text TOLD by the authors' own Lean function (tested against real Go, not proved from fmt's source: count such statements apart). THE CARD IS WHAT COUNTS. Prove the row's statement (the work); the ties are given (YtnngaomcfojckaaGreatDoorTie.lean); close each card by the builder's one call (the guide's Derived/Test/ToyasCard.lean, 'card_holds'). Laid BY PROGRAM, IN A SANDBOX (cutbox-door.mjs). By AI agents, Wed Nov 11 2026. No macro, syntax, notation, axiom, sorry.
-/
import Derived.Test.YtnngaomcfojckaaGreatDoorRows
import GoSem.ClaimSeven
namespace Go.Proofs.YtnngaomcfojckaaGreatDoor
namespace Rows

/-- THE TIED CARD OF 'hackneylaw14.LeaseNone'. -/
def leaseNoneCard : Claim7 := { stood := { row := leaseNoneRow, standIns := [], harness := (true, "c673ff27095112447b6a619e7bc5e5be37ab2cc6af0a2ce957a7096c9a14f714"), looks := true }, kinds := [], alts := [], laidByText := true, laidKinds := [.data, .data, .data, .data, .pinned, .pinned], laidTests := true, laidLooks := .later }
def LeaseNoneCardSaid : Prop := Claim7.holds Tryz.pinned (.plain (OpenSpec.ofChange leaseNoneSpec)) leaseNoneCard

/-- THE SECOND FORM's CARD OF 'hackneylaw14.LeaseNone'. -/
def leaseNoneUptoCard : Claim7 := { stood := { row := leaseNoneUptoRow, standIns := [], harness := (true, "c673ff27095112447b6a619e7bc5e5be37ab2cc6af0a2ce957a7096c9a14f714"), looks := true }, kinds := [], alts := [], laidByText := true, laidKinds := [.data, .data, .data, .data, .pinned, .pinned], laidTests := true, laidLooks := .later }
def LeaseNoneUptoCardSaid : Prop := Claim7.holds Tryz.pinned (.plain (OpenSpec.upto leaseNoneSpec)) leaseNoneUptoCard
end Rows
end Go.Proofs.YtnngaomcfojckaaGreatDoor
