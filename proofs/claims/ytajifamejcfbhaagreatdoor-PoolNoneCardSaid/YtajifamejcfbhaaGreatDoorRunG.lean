/- The machine's runs, by the kernel, part G. Conditions: none. -/
import Derived.Test.YtajifamejcfbhaaGreatDoorKe
namespace Go.Proofs.YtajifamejcfbhaaGreatDoor
open Go.Eng Go.RowKit

set_option maxRecDepth 100000 in
theorem run17 (n0 : Nat) (w0 : World) (h) : allIs (trueEnt 272).res (runs [trueEnt 290] ⟨gl, n0, w0, h⟩ (trueEnt 272).f ((trueEnt 272).args.map .lit) S0) = true := by kernel_rfl


end Go.Proofs.YtajifamejcfbhaaGreatDoor
