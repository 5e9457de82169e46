/- The machine's runs, by the kernel, part A. Conditions: none. -/
import Derived.Test.YtnngaomcfojckaaGreatDoorKe
namespace Go.Proofs.YtnngaomcfojckaaGreatDoor
open Go.Eng Go.RowKit

set_option maxRecDepth 100000 in
theorem run06 (n0 : Nat) (w0 : World) (h) : allIs (trueEnt 205).res (runs [] ⟨gl, n0, w0, h⟩ (trueEnt 205).f ((trueEnt 205).args.map .lit) S0) = true := by kernel_rfl


end Go.Proofs.YtnngaomcfojckaaGreatDoor
