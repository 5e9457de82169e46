/- The machine's runs, by the kernel, part L. Conditions: none. -/
import Derived.Test.YtigdkcpipiimnaaGreatDoorKe
namespace Go.Proofs.YtigdkcpipiimnaaGreatDoor
open Go.Eng Go.RowKit

set_option maxRecDepth 100000 in
theorem run22 (n0 : Nat) (w0 : World) (h) (ob) (vs) : allIs (trueEnt 54).res (runs [trueEnt 75] ⟨gl, n0, w0, h, ob, vs⟩ (trueEnt 54).f ((trueEnt 54).args.map .lit) S0) = true := by kernel_rfl


end Go.Proofs.YtigdkcpipiimnaaGreatDoor
