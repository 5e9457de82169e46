/- The machine's runs, by the kernel, part E. Conditions: none. -/
import Derived.Test.YtigdkcpipiimnaaGreatDoorKe
namespace Go.Proofs.YtigdkcpipiimnaaGreatDoor
open Go.Eng Go.RowKit

set_option maxRecDepth 100000 in
theorem run14 (n0 : Nat) (w0 : World) (h) (ob) (vs) : allIs (trueEnt 322).res (runs [trueEnt 324] ⟨gl, n0, w0, h, ob, vs⟩ (trueEnt 322).f ((trueEnt 322).args.map .lit) S0) = true := by kernel_rfl

set_option maxRecDepth 100000 in
theorem run15 (n0 : Nat) (w0 : World) (h) (ob) (vs) : allIs (trueEnt 320).res (runs [trueEnt 322] ⟨gl, n0, w0, h, ob, vs⟩ (trueEnt 320).f ((trueEnt 320).args.map .lit) S0) = true := by kernel_rfl


end Go.Proofs.YtigdkcpipiimnaaGreatDoor
