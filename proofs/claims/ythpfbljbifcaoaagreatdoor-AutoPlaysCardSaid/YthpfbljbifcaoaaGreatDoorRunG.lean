/- The machine's runs, by the kernel, part G. Conditions: none. -/
import Derived.Test.YthpfbljbifcaoaaGreatDoorKe
namespace Go.Proofs.YthpfbljbifcaoaaGreatDoor
open Go.Eng Go.RowKit

set_option maxRecDepth 100000 in
theorem run17 (n0 : Nat) (w0 : World) (h) : allIs (trueEnt 260).res (runs [trueEnt 278] ⟨gl, n0, w0, h⟩ (trueEnt 260).f ((trueEnt 260).args.map .lit) S0) = true := by kernel_rfl


end Go.Proofs.YthpfbljbifcaoaaGreatDoor
