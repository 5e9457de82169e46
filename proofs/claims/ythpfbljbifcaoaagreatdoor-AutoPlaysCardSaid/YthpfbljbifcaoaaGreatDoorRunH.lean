/- The machine's runs, by the kernel, part H. Conditions: none. -/
import Derived.Test.YthpfbljbifcaoaaGreatDoorKe
namespace Go.Proofs.YthpfbljbifcaoaaGreatDoor
open Go.Eng Go.RowKit

set_option maxRecDepth 100000 in
theorem run18 (n0 : Nat) (w0 : World) (h) : allIs (trueEnt 235).res (runs [trueEnt 260] ⟨gl, n0, w0, h⟩ (trueEnt 235).f ((trueEnt 235).args.map .lit) S0) = true := by kernel_rfl


end Go.Proofs.YthpfbljbifcaoaaGreatDoor
