/- The machine's runs, by the kernel, part A. Conditions: none. -/
import Derived.Test.YtacbhdoeadpncaaGreatDoorKe
namespace Go.Proofs.YtacbhdoeadpncaaGreatDoor
open Go.Eng Go.RowKit

set_option maxRecDepth 100000 in
theorem run06 (n0 : Nat) (w0 : World) (h) : allIs (trueEnt 195).res (runs [] ⟨gl, n0, w0, h⟩ (trueEnt 195).f ((trueEnt 195).args.map .lit) S0) = true := by kernel_rfl


end Go.Proofs.YtacbhdoeadpncaaGreatDoor
