/- The machine's runs, by the kernel, part K. Conditions: none. -/
import Derived.Test.YtigdkcpipiimnaaGreatDoorKe
namespace Go.Proofs.YtigdkcpipiimnaaGreatDoor
open Go.Eng Go.RowKit

set_option maxRecDepth 100000 in
theorem run21 (n0 : Nat) (w0 : World) (h) (ob) (vs) : allIs (trueEnt 75).res (runs [trueEnt 111] ⟨gl, n0, w0, h, ob, vs⟩ (trueEnt 75).f ((trueEnt 75).args.map .lit) S0) = true := by kernel_rfl


end Go.Proofs.YtigdkcpipiimnaaGreatDoor
