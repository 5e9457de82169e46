/- The machine's runs, by the kernel, part L. Conditions: none. -/
import Derived.Test.YthpfbljbifcaoaaGreatDoorKe
namespace Go.Proofs.YthpfbljbifcaoaaGreatDoor
open Go.Eng Go.RowKit

set_option maxRecDepth 100000 in
theorem run22 (n0 : Nat) (w0 : World) (h) : allIs (trueEnt 16).res (runs [trueEnt 30] ⟨gl, n0, w0, h⟩ (trueEnt 16).f ((trueEnt 16).args.map .lit) S0) = true := by kernel_rfl


end Go.Proofs.YthpfbljbifcaoaaGreatDoor
