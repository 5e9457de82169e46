/- The machine's runs, by the kernel, part H. Conditions: none. -/
import Derived.Test.YtigdkcpipiimnaaGreatDoorKe
namespace Go.Proofs.YtigdkcpipiimnaaGreatDoor
open Go.Eng Go.RowKit

set_option maxRecDepth 100000 in
theorem run18 (n0 : Nat) (w0 : World) (h) (ob) (vs) : allIs (trueEnt 279).res (runs [trueEnt 303] ⟨gl, n0, w0, h, ob, vs⟩ (trueEnt 279).f ((trueEnt 279).args.map .lit) S0) = true := by kernel_rfl


end Go.Proofs.YtigdkcpipiimnaaGreatDoor
