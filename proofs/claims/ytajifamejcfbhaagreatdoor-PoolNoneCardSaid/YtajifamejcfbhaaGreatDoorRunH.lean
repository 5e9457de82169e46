/- The machine's runs, by the kernel, part H. Conditions: none. -/
import Derived.Test.YtajifamejcfbhaaGreatDoorKe
namespace Go.Proofs.YtajifamejcfbhaaGreatDoor
open Go.Eng Go.RowKit

set_option maxRecDepth 100000 in
theorem run18 (n0 : Nat) (w0 : World) (h) : allIs (trueEnt 250).res (runs [trueEnt 272] ⟨gl, n0, w0, h⟩ (trueEnt 250).f ((trueEnt 250).args.map .lit) S0) = true := by kernel_rfl


end Go.Proofs.YtajifamejcfbhaaGreatDoor
