/- The machine's runs, by the kernel, part F. Conditions: none. -/
import Derived.Test.YtcpebkgfkhnnkaaGreatDoorKe
namespace Go.Proofs.YtcpebkgfkhnnkaaGreatDoor
open Go.Eng Go.RowKit

set_option maxRecDepth 100000 in
theorem run16 (n0 : Nat) (w0 : World) (h) (ob) (vs) : allIs (trueEnt 348).res (runs [trueEnt 350] ⟨gl, n0, w0, h, ob, vs⟩ (trueEnt 348).f ((trueEnt 348).args.map .lit) S0) = true := by kernel_rfl


end Go.Proofs.YtcpebkgfkhnnkaaGreatDoor
