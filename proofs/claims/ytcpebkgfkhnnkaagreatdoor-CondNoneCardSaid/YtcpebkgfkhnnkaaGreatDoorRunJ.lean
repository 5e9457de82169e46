/- The machine's runs, by the kernel, part J. Conditions: none. -/
import Derived.Test.YtcpebkgfkhnnkaaGreatDoorKe
namespace Go.Proofs.YtcpebkgfkhnnkaaGreatDoor
open Go.Eng Go.RowKit

set_option maxRecDepth 100000 in
theorem run20 (n0 : Nat) (w0 : World) (h) (ob) (vs) : allIs (trueEnt 281).res (runs [trueEnt 311] ⟨gl, n0, w0, h, ob, vs⟩ (trueEnt 281).f ((trueEnt 281).args.map .lit) S0) = true := by kernel_rfl


end Go.Proofs.YtcpebkgfkhnnkaaGreatDoor
