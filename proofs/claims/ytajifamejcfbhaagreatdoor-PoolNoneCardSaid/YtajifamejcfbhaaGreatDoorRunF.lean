/- The machine's runs, by the kernel, part F. Conditions: none. -/
import Derived.Test.YtajifamejcfbhaaGreatDoorKe
namespace Go.Proofs.YtajifamejcfbhaaGreatDoor
open Go.Eng Go.RowKit

set_option maxRecDepth 100000 in
theorem run16 (n0 : Nat) (w0 : World) (h) : allIs (trueEnt 290).res (runs [trueEnt 293] ⟨gl, n0, w0, h⟩ (trueEnt 290).f ((trueEnt 290).args.map .lit) S0) = true := by kernel_rfl


end Go.Proofs.YtajifamejcfbhaaGreatDoor
