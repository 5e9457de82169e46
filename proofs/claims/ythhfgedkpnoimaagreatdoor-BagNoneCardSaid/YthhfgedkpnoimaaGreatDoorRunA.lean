/- The machine's runs, by the kernel, part A. Conditions: none. -/
import Derived.Test.YthhfgedkpnoimaaGreatDoorKe
namespace Go.Proofs.YthhfgedkpnoimaaGreatDoor
open Go.Eng Go.RowKit

set_option maxRecDepth 100000 in
theorem run06 (n0 : Nat) (w0 : World) (h) : allIs (trueEnt 221).res (runs [] ⟨gl, n0, w0, h⟩ (trueEnt 221).f ((trueEnt 221).args.map .lit) S0) = true := by kernel_rfl


end Go.Proofs.YthhfgedkpnoimaaGreatDoor
