/- The machine's runs, by the kernel, part L. Conditions: none. -/
import Derived.Test.YtajifamejcfbhaaGreatDoorKe
namespace Go.Proofs.YtajifamejcfbhaaGreatDoor
open Go.Eng Go.RowKit

set_option maxRecDepth 100000 in
theorem run22 (n0 : Nat) (w0 : World) (h) : allIs (trueEnt 3).res (runs [trueEnt 21] ⟨gl, n0, w0, h⟩ (trueEnt 3).f ((trueEnt 3).args.map .lit) S0) = true := by kernel_rfl


end Go.Proofs.YtajifamejcfbhaaGreatDoor
