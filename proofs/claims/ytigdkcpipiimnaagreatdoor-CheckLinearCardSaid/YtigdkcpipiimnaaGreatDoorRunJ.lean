/- The machine's runs, by the kernel, part J. Conditions: none. -/
import Derived.Test.YtigdkcpipiimnaaGreatDoorKe
namespace Go.Proofs.YtigdkcpipiimnaaGreatDoor
open Go.Eng Go.RowKit

set_option maxRecDepth 100000 in
theorem run20 (n0 : Nat) (w0 : World) (h) (ob) (vs) : allIs (trueEnt 111).res (runs [trueEnt 212] ⟨gl, n0, w0, h, ob, vs⟩ (trueEnt 111).f ((trueEnt 111).args.map .lit) S0) = true := by kernel_rfl


end Go.Proofs.YtigdkcpipiimnaaGreatDoor
