/- The machine's runs, by the kernel, part A. Conditions: none. -/
import Derived.Test.YtkahldoobpdblaaGreatDoorKe
namespace Go.Proofs.YtkahldoobpdblaaGreatDoor
open Go.Eng Go.RowKit

set_option maxRecDepth 100000 in
theorem run06 (n0 : Nat) (w0 : World) (h) : allIs (trueEnt 231).res (runs [] ⟨gl, n0, w0, h⟩ (trueEnt 231).f ((trueEnt 231).args.map .lit) S0) = true := by kernel_rfl


end Go.Proofs.YtkahldoobpdblaaGreatDoor
