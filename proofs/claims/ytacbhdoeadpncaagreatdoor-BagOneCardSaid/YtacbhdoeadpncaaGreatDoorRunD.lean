/- The machine's runs, by the kernel, part D. Conditions: none. -/
import Derived.Test.YtacbhdoeadpncaaGreatDoorKe
namespace Go.Proofs.YtacbhdoeadpncaaGreatDoor
open Go.Eng Go.RowKit

set_option maxRecDepth 100000 in
theorem run11 (n0 : Nat) (w0 : World) (h) : allIs (trueEnt 79).res (runs [trueEnt 112] ⟨gl, n0, w0, h⟩ (trueEnt 79).f ((trueEnt 79).args.map .lit) S0) = true := by kernel_rfl

set_option maxRecDepth 100000 in
theorem run12 (n0 : Nat) (w0 : World) (h) : allIs (trueEnt 51).res (runs [trueEnt 79] ⟨gl, n0, w0, h⟩ (trueEnt 51).f ((trueEnt 51).args.map .lit) S0) = true := by kernel_rfl

set_option maxRecDepth 100000 in
theorem run13 (n0 : Nat) (w0 : World) (h) : allIs (trueEnt 36).res (runs [eI4, eI1, eU100, eU1000, eU50, eU200, eT, trueEnt 51] ⟨gl, n0, w0, h⟩ (trueEnt 36).f ((trueEnt 36).args.map .lit) S0) = true := by kernel_rfl


end Go.Proofs.YtacbhdoeadpncaaGreatDoor
