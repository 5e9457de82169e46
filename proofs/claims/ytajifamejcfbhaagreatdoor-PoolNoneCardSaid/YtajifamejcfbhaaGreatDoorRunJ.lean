/- The machine's runs, by the kernel, part J. Conditions: none. -/
import Derived.Test.YtajifamejcfbhaaGreatDoorKe
namespace Go.Proofs.YtajifamejcfbhaaGreatDoor
open Go.Eng Go.RowKit

set_option maxRecDepth 100000 in
theorem run20 (n0 : Nat) (w0 : World) (h) : allIs (trueEnt 76).res (runs [trueEnt 187] ⟨gl, n0, w0, h⟩ (trueEnt 76).f ((trueEnt 76).args.map .lit) S0) = true := by kernel_rfl


end Go.Proofs.YtajifamejcfbhaaGreatDoor
