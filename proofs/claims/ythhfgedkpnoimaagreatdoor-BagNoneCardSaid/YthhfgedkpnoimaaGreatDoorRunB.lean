/- The machine's runs, by the kernel, part B. Conditions: none. -/
import Derived.Test.YthhfgedkpnoimaaGreatDoorKe
namespace Go.Proofs.YthhfgedkpnoimaaGreatDoor
open Go.Eng Go.RowKit

set_option maxRecDepth 100000 in
theorem run07 (n0 : Nat) (w0 : World) (h) : allIs (trueEnt 214).res (runs [trueEnt 221] ⟨gl, n0, w0, h⟩ (trueEnt 214).f ((trueEnt 214).args.map .lit) S0) = true := by kernel_rfl

set_option maxRecDepth 100000 in
theorem run08 (n0 : Nat) (w0 : World) (h) : allIs (trueEnt 208).res (runs [trueEnt 214] ⟨gl, n0, w0, h⟩ (trueEnt 208).f ((trueEnt 208).args.map .lit) S0) = true := by kernel_rfl

set_option maxRecDepth 100000 in
theorem run09 (n0 : Nat) (w0 : World) (h) : allIs (trueEnt 195).res (runs [trueEnt 208] ⟨gl, n0, w0, h⟩ (trueEnt 195).f ((trueEnt 195).args.map .lit) S0) = true := by kernel_rfl

set_option maxRecDepth 100000 in
theorem run10 (n0 : Nat) (w0 : World) (h) : allIs (trueEnt 141).res (runs [trueEnt 195] ⟨gl, n0, w0, h⟩ (trueEnt 141).f ((trueEnt 141).args.map .lit) S0) = true := by kernel_rfl


end Go.Proofs.YthhfgedkpnoimaaGreatDoor
