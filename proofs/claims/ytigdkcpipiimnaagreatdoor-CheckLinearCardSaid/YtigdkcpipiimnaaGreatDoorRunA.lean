/- The machine's runs, by the kernel, part A. Conditions: none. -/
import Derived.Test.YtigdkcpipiimnaaGreatDoorKe
namespace Go.Proofs.YtigdkcpipiimnaaGreatDoor
open Go.Eng Go.RowKit

set_option maxRecDepth 100000 in
theorem run06 (n0 : Nat) (w0 : World) (h) (ob) (vs) : allIs (trueEnt 418).res (runs [] ⟨gl, n0, w0, h, ob, vs⟩ (trueEnt 418).f ((trueEnt 418).args.map .lit) S0) = true := by kernel_rfl


end Go.Proofs.YtigdkcpipiimnaaGreatDoor
