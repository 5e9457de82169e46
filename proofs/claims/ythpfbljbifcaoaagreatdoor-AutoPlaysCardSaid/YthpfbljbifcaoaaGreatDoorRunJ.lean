/- The machine's runs, by the kernel, part J. Conditions: none. -/
import Derived.Test.YthpfbljbifcaoaaGreatDoorKe
namespace Go.Proofs.YthpfbljbifcaoaaGreatDoor
open Go.Eng Go.RowKit

set_option maxRecDepth 100000 in
theorem run20 (n0 : Nat) (w0 : World) (h) : allIs (trueEnt 67).res (runs [trueEnt 168] ⟨gl, n0, w0, h⟩ (trueEnt 67).f ((trueEnt 67).args.map .lit) S0) = true := by kernel_rfl


end Go.Proofs.YthpfbljbifcaoaaGreatDoor
