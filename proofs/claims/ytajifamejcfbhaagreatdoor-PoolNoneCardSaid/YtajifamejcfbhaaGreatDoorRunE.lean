/- The machine's runs, by the kernel, part E. Conditions: none. -/
import Derived.Test.YtajifamejcfbhaaGreatDoorKe
namespace Go.Proofs.YtajifamejcfbhaaGreatDoor
open Go.Eng Go.RowKit

set_option maxRecDepth 100000 in
theorem run14 (n0 : Nat) (w0 : World) (h) : allIs (trueEnt 295).res (runs [trueEnt 297] ⟨gl, n0, w0, h⟩ (trueEnt 295).f ((trueEnt 295).args.map .lit) S0) = true := by kernel_rfl

set_option maxRecDepth 100000 in
theorem run15 (n0 : Nat) (w0 : World) (h) : allIs (trueEnt 293).res (runs [trueEnt 295] ⟨gl, n0, w0, h⟩ (trueEnt 293).f ((trueEnt 293).args.map .lit) S0) = true := by kernel_rfl


end Go.Proofs.YtajifamejcfbhaaGreatDoor
