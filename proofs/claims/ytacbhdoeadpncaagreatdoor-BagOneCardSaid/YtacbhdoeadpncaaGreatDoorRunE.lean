/- The machine's runs, by the kernel, part E. Conditions: none. -/
import Derived.Test.YtacbhdoeadpncaaGreatDoorKe
namespace Go.Proofs.YtacbhdoeadpncaaGreatDoor
open Go.Eng Go.RowKit

set_option maxRecDepth 100000 in
theorem run14 (n0 : Nat) (w0 : World) (h) : allIs (trueEnt 16).res (runs [trueEnt 36] ⟨gl, n0, w0, h⟩ (trueEnt 16).f ((trueEnt 16).args.map .lit) S0) = true := by kernel_rfl

set_option maxRecDepth 100000 in
theorem run15 (n0 : Nat) (w0 : World) (h) : allIs (trueEnt 4).res (runs [trueEnt 16] ⟨gl, n0, w0, h⟩ (trueEnt 4).f ((trueEnt 4).args.map .lit) S0) = true := by kernel_rfl


end Go.Proofs.YtacbhdoeadpncaaGreatDoor
