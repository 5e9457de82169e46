/- The machine's runs, by the kernel, part M. Conditions: none. -/
import Derived.Test.YtcpebkgfkhnnkaaGreatDoorKe
namespace Go.Proofs.YtcpebkgfkhnnkaaGreatDoor
open Go.Eng Go.RowKit

set_option maxRecDepth 100000 in
theorem run23 (n0 : Nat) (w0 : World) (h) (ob) (vs) : allIs (trueEnt 66).res (runs [trueEnt 154] ⟨gl, n0, w0, h, ob, vs⟩ (trueEnt 66).f ((trueEnt 66).args.map .lit) S0) = true := by kernel_rfl


end Go.Proofs.YtcpebkgfkhnnkaaGreatDoor
