/- The machine's runs, by the kernel, part N. Conditions: none. -/
import Derived.Test.YtigdkcpipiimnaaGreatDoorKe
namespace Go.Proofs.YtigdkcpipiimnaaGreatDoor
open Go.Eng Go.RowKit

set_option maxRecDepth 100000 in
theorem run24 (n0 : Nat) (w0 : World) (h) (ob) (vs) : allIs (trueEnt 5).res (runs [trueEnt 23] ⟨gl, n0, w0, h, ob, vs⟩ (trueEnt 5).f ((trueEnt 5).args.map .lit) S0) = true := by kernel_rfl


end Go.Proofs.YtigdkcpipiimnaaGreatDoor
