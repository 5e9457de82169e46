/- The machine's runs, by the kernel, part O. Conditions: none. -/
import Derived.Test.YtcpebkgfkhnnkaaGreatDoorKe
namespace Go.Proofs.YtcpebkgfkhnnkaaGreatDoor
open Go.Eng Go.RowKit

set_option maxRecDepth 100000 in
theorem run25 (n0 : Nat) (w0 : World) (h) (ob) (vs) : allIs (trueEnt 3).res (runs [trueEnt 15] ⟨gl, n0, w0, h, ob, vs⟩ (trueEnt 3).f ((trueEnt 3).args.map .lit) S0) = true := by kernel_rfl


end Go.Proofs.YtcpebkgfkhnnkaaGreatDoor
