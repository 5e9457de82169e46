/- The machine's runs, by the kernel, part F. Conditions: none. -/
import Derived.Test.YthpfbljbifcaoaaGreatDoorKe
namespace Go.Proofs.YthpfbljbifcaoaaGreatDoor
open Go.Eng Go.RowKit

set_option maxRecDepth 100000 in
theorem run16 (n0 : Nat) (w0 : World) (h) : allIs (trueEnt 278).res (runs [trueEnt 281] ⟨gl, n0, w0, h⟩ (trueEnt 278).f ((trueEnt 278).args.map .lit) S0) = true := by kernel_rfl


end Go.Proofs.YthpfbljbifcaoaaGreatDoor
