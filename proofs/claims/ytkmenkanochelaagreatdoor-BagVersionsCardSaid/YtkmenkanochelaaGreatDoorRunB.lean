/- The machine's runs, by the kernel, part B. Conditions: none. -/
import Derived.Test.YtkmenkanochelaaGreatDoorKe
namespace Go.Proofs.YtkmenkanochelaaGreatDoor
open Go.Eng Go.RowKit

set_option maxRecDepth 100000 in
theorem run07 (n0 : Nat) (w0 : World) (h) : allIs (trueEnt 178).res (runs [trueEnt 185] ⟨gl, n0, w0, h⟩ (trueEnt 178).f ((trueEnt 178).args.map .lit) S0) = true := by kernel_rfl

set_option maxRecDepth 100000 in
theorem run08 (n0 : Nat) (w0 : World) (h) : allIs (trueEnt 172).res (runs [trueEnt 178] ⟨gl, n0, w0, h⟩ (trueEnt 172).f ((trueEnt 172).args.map .lit) S0) = true := by kernel_rfl

set_option maxRecDepth 100000 in
theorem run09 (n0 : Nat) (w0 : World) (h) : allIs (trueEnt 159).res (runs [trueEnt 172] ⟨gl, n0, w0, h⟩ (trueEnt 159).f ((trueEnt 159).args.map .lit) S0) = true := by kernel_rfl

set_option maxRecDepth 100000 in
theorem run10 (n0 : Nat) (w0 : World) (h) : allIs (trueEnt 102).res (runs [trueEnt 159] ⟨gl, n0, w0, h⟩ (trueEnt 102).f ((trueEnt 102).args.map .lit) S0) = true := by kernel_rfl


end Go.Proofs.YtkmenkanochelaaGreatDoor
