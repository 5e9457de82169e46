/- The machine's runs, by the kernel, part M. Conditions: none. -/
import Derived.Test.YtigdkcpipiimnaaGreatDoorKe
namespace Go.Proofs.YtigdkcpipiimnaaGreatDoor
open Go.Eng Go.RowKit

set_option maxRecDepth 100000 in
theorem run23 (n0 : Nat) (w0 : World) (h) (ob) (vs) : allIs (trueEnt 23).res (runs [trueEnt 54] ⟨gl, n0, w0, h, ob, vs⟩ (trueEnt 23).f ((trueEnt 23).args.map .lit) S0) = true := by kernel_rfl


end Go.Proofs.YtigdkcpipiimnaaGreatDoor
