/- The machine's runs, by the kernel, part G. Conditions: none. -/
import Derived.Test.YtcpebkgfkhnnkaaGreatDoorKe
namespace Go.Proofs.YtcpebkgfkhnnkaaGreatDoor
open Go.Eng Go.RowKit

set_option maxRecDepth 100000 in
theorem run17 (n0 : Nat) (w0 : World) (h) (ob) (vs) : allIs (trueEnt 345).res (runs [trueEnt 348] ⟨gl, n0, w0, h, ob, vs⟩ (trueEnt 345).f ((trueEnt 345).args.map .lit) S0) = true := by kernel_rfl


end Go.Proofs.YtcpebkgfkhnnkaaGreatDoor
