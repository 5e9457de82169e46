/- The machine's runs, by the kernel, part A. Conditions: none. -/
import Derived.Test.YthpfbljbifcaoaaGreatDoorKe
namespace Go.Proofs.YthpfbljbifcaoaaGreatDoor
open Go.Eng Go.RowKit

set_option maxRecDepth 100000 in
theorem run06 (n0 : Nat) (w0 : World) (h) : allIs (trueEnt 380).res (runs [] ⟨gl, n0, w0, h⟩ (trueEnt 380).f ((trueEnt 380).args.map .lit) S0) = true := by kernel_rfl


end Go.Proofs.YthpfbljbifcaoaaGreatDoor
