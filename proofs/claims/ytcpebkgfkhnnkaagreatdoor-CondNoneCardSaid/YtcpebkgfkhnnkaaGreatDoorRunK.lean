/- The machine's runs, by the kernel, part K. Conditions: none. -/
import Derived.Test.YtcpebkgfkhnnkaaGreatDoorKe
namespace Go.Proofs.YtcpebkgfkhnnkaaGreatDoor
open Go.Eng Go.RowKit

set_option maxRecDepth 100000 in
theorem run21 (n0 : Nat) (w0 : World) (h) (ob) (vs) : allIs (trueEnt 241).res (runs [trueEnt 281] ⟨gl, n0, w0, h, ob, vs⟩ (trueEnt 241).f ((trueEnt 241).args.map .lit) S0) = true := by kernel_rfl


end Go.Proofs.YtcpebkgfkhnnkaaGreatDoor
