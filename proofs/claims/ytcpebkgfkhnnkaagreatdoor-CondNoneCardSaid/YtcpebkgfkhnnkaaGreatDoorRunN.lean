/- The machine's runs, by the kernel, part N. Conditions: none. -/
import Derived.Test.YtcpebkgfkhnnkaaGreatDoorKe
namespace Go.Proofs.YtcpebkgfkhnnkaaGreatDoor
open Go.Eng Go.RowKit

set_option maxRecDepth 100000 in
theorem run24 (n0 : Nat) (w0 : World) (h) (ob) (vs) : allIs (trueEnt 15).res (runs [trueEnt 66] ⟨gl, n0, w0, h, ob, vs⟩ (trueEnt 15).f ((trueEnt 15).args.map .lit) S0) = true := by kernel_rfl


end Go.Proofs.YtcpebkgfkhnnkaaGreatDoor
