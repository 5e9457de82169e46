/- The machine's runs, by the kernel, part K. Conditions: none. -/
import Derived.Test.YtajifamejcfbhaaGreatDoorKe
namespace Go.Proofs.YtajifamejcfbhaaGreatDoor
open Go.Eng Go.RowKit

set_option maxRecDepth 100000 in
theorem run21 (n0 : Nat) (w0 : World) (h) : allIs (trueEnt 21).res (runs [trueEnt 76] ⟨gl, n0, w0, h⟩ (trueEnt 21).f ((trueEnt 21).args.map .lit) S0) = true := by kernel_rfl


end Go.Proofs.YtajifamejcfbhaaGreatDoor
