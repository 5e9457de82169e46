/- The machine's runs, by the kernel, part E. Conditions: none. -/
import Derived.Test.YtkahldoobpdblaaGreatDoorKe
namespace Go.Proofs.YtkahldoobpdblaaGreatDoor
open Go.Eng Go.RowKit

set_option maxRecDepth 100000 in
theorem run14 (n0 : Nat) (w0 : World) (h) : allIs (trueEnt 68).res (runs [trueEnt 91] ⟨gl, n0, w0, h⟩ (trueEnt 68).f ((trueEnt 68).args.map .lit) S0) = true := by kernel_rfl

set_option maxRecDepth 100000 in
theorem run15 (n0 : Nat) (w0 : World) (h) : allIs (trueEnt 17).res (runs [trueEnt 68] ⟨gl, n0, w0, h⟩ (trueEnt 17).f ((trueEnt 17).args.map .lit) S0) = true := by kernel_rfl


end Go.Proofs.YtkahldoobpdblaaGreatDoor
