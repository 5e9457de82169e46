/- The machine's runs, by the kernel, part B. Conditions: none. -/
import Derived.Test.YtacbhdoeadpncaaGreatDoorKe
namespace Go.Proofs.YtacbhdoeadpncaaGreatDoor
open Go.Eng Go.RowKit

set_option maxRecDepth 100000 in
theorem run07 (n0 : Nat) (w0 : World) (h) : allIs (trueEnt 188).res (runs [trueEnt 195] ⟨gl, n0, w0, h⟩ (trueEnt 188).f ((trueEnt 188).args.map .lit) S0) = true := by kernel_rfl

set_option maxRecDepth 100000 in
theorem run08 (n0 : Nat) (w0 : World) (h) : allIs (trueEnt 182).res (runs [trueEnt 188] ⟨gl, n0, w0, h⟩ (trueEnt 182).f ((trueEnt 182).args.map .lit) S0) = true := by kernel_rfl

set_option maxRecDepth 100000 in
theorem run09 (n0 : Nat) (w0 : World) (h) : allIs (trueEnt 169).res (runs [trueEnt 182] ⟨gl, n0, w0, h⟩ (trueEnt 169).f ((trueEnt 169).args.map .lit) S0) = true := by kernel_rfl

set_option maxRecDepth 100000 in
theorem run10 (n0 : Nat) (w0 : World) (h) : allIs (trueEnt 112).res (runs [trueEnt 169] ⟨gl, n0, w0, h⟩ (trueEnt 112).f ((trueEnt 112).args.map .lit) S0) = true := by kernel_rfl


end Go.Proofs.YtacbhdoeadpncaaGreatDoor
