/- The machine's runs, by the kernel, part M. Conditions: none. -/
import Derived.Test.YthpfbljbifcaoaaGreatDoorKe
namespace Go.Proofs.YthpfbljbifcaoaaGreatDoor
open Go.Eng Go.RowKit

set_option maxRecDepth 100000 in
theorem run23 (n0 : Nat) (w0 : World) (h) : allIs (trueEnt 5).res (runs [trueEnt 16] ⟨gl, n0, w0, h⟩ (trueEnt 5).f ((trueEnt 5).args.map .lit) S0) = true := by kernel_rfl


end Go.Proofs.YthpfbljbifcaoaaGreatDoor
