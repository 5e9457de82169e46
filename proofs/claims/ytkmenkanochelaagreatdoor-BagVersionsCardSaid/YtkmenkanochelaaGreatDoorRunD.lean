/- The machine's runs, by the kernel, part D. Conditions: none. -/
import Derived.Test.YtkmenkanochelaaGreatDoorKe
namespace Go.Proofs.YtkmenkanochelaaGreatDoor
open Go.Eng Go.RowKit

set_option maxRecDepth 100000 in
theorem run11 (n0 : Nat) (w0 : World) (h) : allIs (trueEnt 68).res (runs [trueEnt 102] ⟨gl, n0, w0, h⟩ (trueEnt 68).f ((trueEnt 68).args.map .lit) S0) = true := by kernel_rfl

set_option maxRecDepth 100000 in
theorem run12 (n0 : Nat) (w0 : World) (h) : allIs (trueEnt 40).res (runs [trueEnt 68] ⟨gl, n0, w0, h⟩ (trueEnt 40).f ((trueEnt 40).args.map .lit) S0) = true := by kernel_rfl

set_option maxRecDepth 100000 in
theorem run13 (n0 : Nat) (w0 : World) (h) : allIs (trueEnt 24).res (runs [eI4, eI1, eU100, eU1000, eU50, eU200, eT, trueEnt 40] ⟨gl, n0, w0, h⟩ (trueEnt 24).f ((trueEnt 24).args.map .lit) S0) = true := by kernel_rfl


end Go.Proofs.YtkmenkanochelaaGreatDoor
