/- The machine's runs, by the kernel, part F. Conditions: none. -/
import Derived.Test.YtigdkcpipiimnaaGreatDoorKe
namespace Go.Proofs.YtigdkcpipiimnaaGreatDoor
open Go.Eng Go.RowKit

set_option maxRecDepth 100000 in
theorem run16 (n0 : Nat) (w0 : World) (h) (ob) (vs) : allIs (trueEnt 317).res (runs [trueEnt 320] ⟨gl, n0, w0, h, ob, vs⟩ (trueEnt 317).f ((trueEnt 317).args.map .lit) S0) = true := by kernel_rfl


end Go.Proofs.YtigdkcpipiimnaaGreatDoor
