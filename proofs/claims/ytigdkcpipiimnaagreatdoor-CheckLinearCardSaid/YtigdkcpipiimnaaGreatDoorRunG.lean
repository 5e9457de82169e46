/- The machine's runs, by the kernel, part G. Conditions: none. -/
import Derived.Test.YtigdkcpipiimnaaGreatDoorKe
namespace Go.Proofs.YtigdkcpipiimnaaGreatDoor
open Go.Eng Go.RowKit

set_option maxRecDepth 100000 in
theorem run17 (n0 : Nat) (w0 : World) (h) (ob) (vs) : allIs (trueEnt 303).res (runs [trueEnt 317] ⟨gl, n0, w0, h, ob, vs⟩ (trueEnt 303).f ((trueEnt 303).args.map .lit) S0) = true := by kernel_rfl


end Go.Proofs.YtigdkcpipiimnaaGreatDoor
