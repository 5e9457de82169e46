/- The machine's runs, by the kernel, part D. Conditions: none. -/
import Derived.Test.YthhfgedkpnoimaaGreatDoorKe
namespace Go.Proofs.YthhfgedkpnoimaaGreatDoor
open Go.Eng Go.RowKit

set_option maxRecDepth 100000 in
theorem run11 (n0 : Nat) (w0 : World) (h) : allIs (trueEnt 113).res (runs [trueEnt 141] ⟨gl, n0, w0, h⟩ (trueEnt 113).f ((trueEnt 113).args.map .lit) S0) = true := by kernel_rfl

set_option maxRecDepth 100000 in
theorem run12 (n0 : Nat) (w0 : World) (h) : allIs (trueEnt 78).res (runs [trueEnt 113] ⟨gl, n0, w0, h⟩ (trueEnt 78).f ((trueEnt 78).args.map .lit) S0) = true := by kernel_rfl

set_option maxRecDepth 100000 in
theorem run13 (n0 : Nat) (w0 : World) (h) : allIs (trueEnt 51).res (runs [eI4, eI1, eU100, eU1000, eU50, eU200, eT, trueEnt 78] ⟨gl, n0, w0, h⟩ (trueEnt 51).f ((trueEnt 51).args.map .lit) S0) = true := by kernel_rfl

set_option maxRecDepth 100000 in
theorem run14 (n0 : Nat) (w0 : World) (h) : allIs (trueEnt 21).res (runs [trueEnt 51] ⟨gl, n0, w0, h⟩ (trueEnt 21).f ((trueEnt 21).args.map .lit) S0) = true := by kernel_rfl

set_option maxRecDepth 100000 in
theorem run15 (n0 : Nat) (w0 : World) (h) : allIs (trueEnt 3).res (runs [trueEnt 21] ⟨gl, n0, w0, h⟩ (trueEnt 3).f ((trueEnt 3).args.map .lit) S0) = true := by kernel_rfl


end Go.Proofs.YthhfgedkpnoimaaGreatDoor
