/- The machine's runs, by the kernel, part E. Conditions: none. -/
import Derived.Test.YtkmenkanochelaaGreatDoorKe
namespace Go.Proofs.YtkmenkanochelaaGreatDoor
open Go.Eng Go.RowKit

set_option maxRecDepth 100000 in
theorem run14 (n0 : Nat) (w0 : World) (h) : allIs (trueEnt 11).res (runs [trueEnt 24] ⟨gl, n0, w0, h⟩ (trueEnt 11).f ((trueEnt 11).args.map .lit) S0) = true := by kernel_rfl

set_option maxRecDepth 100000 in
theorem run15 (n0 : Nat) (w0 : World) (h) : allIs (trueEnt 4).res (runs [trueEnt 11] ⟨gl, n0, w0, h⟩ (trueEnt 4).f ((trueEnt 4).args.map .lit) S0) = true := by kernel_rfl


end Go.Proofs.YtkmenkanochelaaGreatDoor
