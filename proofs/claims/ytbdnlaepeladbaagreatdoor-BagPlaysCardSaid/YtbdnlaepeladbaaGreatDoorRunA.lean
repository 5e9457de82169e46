/- The machine's runs, by the kernel, part A. Conditions: none. -/
import Derived.Test.YtbdnlaepeladbaaGreatDoorKe
namespace Go.Proofs.YtbdnlaepeladbaaGreatDoor
open Go.Eng Go.RowKit

set_option maxRecDepth 100000 in
theorem run06 (n0 : Nat) (w0 : World) (h) (ob) (vs) : allIs (trueEnt 355).res (runs [] ⟨gl, n0, w0, h, ob, vs⟩ (trueEnt 355).f ((trueEnt 355).args.map .lit) S0) = true := by kernel_rfl


end Go.Proofs.YtbdnlaepeladbaaGreatDoor
