/- The machine's runs, by the kernel, part F. Conditions: none. -/
import Derived.Test.YtkahldoobpdblaaGreatDoorKe
namespace Go.Proofs.YtkahldoobpdblaaGreatDoor
open Go.Eng Go.RowKit

set_option maxRecDepth 100000 in
theorem run16 (n0 : Nat) (w0 : World) (h) : allIs (trueEnt 3).res (runs [trueEnt 17] ⟨gl, n0, w0, h⟩ (trueEnt 3).f ((trueEnt 3).args.map .lit) S0) = true := by kernel_rfl


end Go.Proofs.YtkahldoobpdblaaGreatDoor
