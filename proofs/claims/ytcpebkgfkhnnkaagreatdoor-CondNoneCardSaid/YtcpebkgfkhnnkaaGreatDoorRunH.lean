/- The machine's runs, by the kernel, part H. Conditions: none. -/
import Derived.Test.YtcpebkgfkhnnkaaGreatDoorKe
namespace Go.Proofs.YtcpebkgfkhnnkaaGreatDoor
open Go.Eng Go.RowKit

set_option maxRecDepth 100000 in
theorem run18 (n0 : Nat) (w0 : World) (h) (ob) (vs) : allIs (trueEnt 338).res (runs [trueEnt 345] ⟨gl, n0, w0, h, ob, vs⟩ (trueEnt 338).f ((trueEnt 338).args.map .lit) S0) = true := by kernel_rfl


end Go.Proofs.YtcpebkgfkhnnkaaGreatDoor
