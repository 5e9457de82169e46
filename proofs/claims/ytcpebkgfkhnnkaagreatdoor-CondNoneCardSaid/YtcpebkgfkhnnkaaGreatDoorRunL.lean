/- The machine's runs, by the kernel, part L. Conditions: none. -/
import Derived.Test.YtcpebkgfkhnnkaaGreatDoorKe
namespace Go.Proofs.YtcpebkgfkhnnkaaGreatDoor
open Go.Eng Go.RowKit

set_option maxRecDepth 100000 in
theorem run22 (n0 : Nat) (w0 : World) (h) (ob) (vs) : allIs (trueEnt 154).res (runs [trueEnt 241] ⟨gl, n0, w0, h, ob, vs⟩ (trueEnt 154).f ((trueEnt 154).args.map .lit) S0) = true := by kernel_rfl


end Go.Proofs.YtcpebkgfkhnnkaaGreatDoor
