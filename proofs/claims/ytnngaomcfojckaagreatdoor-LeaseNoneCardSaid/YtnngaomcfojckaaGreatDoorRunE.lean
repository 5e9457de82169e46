/- The machine's runs, by the kernel, part E. Conditions: none. -/
import Derived.Test.YtnngaomcfojckaaGreatDoorKe
namespace Go.Proofs.YtnngaomcfojckaaGreatDoor
open Go.Eng Go.RowKit

set_option maxRecDepth 100000 in
theorem run14 (n0 : Nat) (w0 : World) (h) : allIs (trueEnt 3).res (runs [trueEnt 20] ⟨gl, n0, w0, h⟩ (trueEnt 3).f ((trueEnt 3).args.map .lit) S0) = true := by kernel_rfl


end Go.Proofs.YtnngaomcfojckaaGreatDoor
