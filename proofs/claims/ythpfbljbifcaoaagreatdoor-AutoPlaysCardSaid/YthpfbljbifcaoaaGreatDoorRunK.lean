/- The machine's runs, by the kernel, part K. Conditions: none. -/
import Derived.Test.YthpfbljbifcaoaaGreatDoorKe
namespace Go.Proofs.YthpfbljbifcaoaaGreatDoor
open Go.Eng Go.RowKit

set_option maxRecDepth 100000 in
theorem run21 (n0 : Nat) (w0 : World) (h) : allIs (trueEnt 30).res (runs [trueEnt 67] ⟨gl, n0, w0, h⟩ (trueEnt 30).f ((trueEnt 30).args.map .lit) S0) = true := by kernel_rfl


end Go.Proofs.YthpfbljbifcaoaaGreatDoor
