/- The machine's runs, by the kernel, part B. Conditions: none. -/
import Derived.Test.YtkahldoobpdblaaGreatDoorKe
namespace Go.Proofs.YtkahldoobpdblaaGreatDoor
open Go.Eng Go.RowKit

set_option maxRecDepth 100000 in
theorem run07 (n0 : Nat) (w0 : World) (h) : allIs (trueEnt 224).res (runs [trueEnt 231] ⟨gl, n0, w0, h⟩ (trueEnt 224).f ((trueEnt 224).args.map .lit) S0) = true := by kernel_rfl

set_option maxRecDepth 100000 in
theorem run08 (n0 : Nat) (w0 : World) (h) : allIs (trueEnt 219).res (runs [trueEnt 224] ⟨gl, n0, w0, h⟩ (trueEnt 219).f ((trueEnt 219).args.map .lit) S0) = true := by kernel_rfl

set_option maxRecDepth 100000 in
theorem run09 (n0 : Nat) (w0 : World) (h) : allIs (trueEnt 209).res (runs [trueEnt 219] ⟨gl, n0, w0, h⟩ (trueEnt 209).f ((trueEnt 209).args.map .lit) S0) = true := by kernel_rfl

set_option maxRecDepth 100000 in
theorem run10 (n0 : Nat) (w0 : World) (h) : allIs (trueEnt 155).res (runs [trueEnt 209] ⟨gl, n0, w0, h⟩ (trueEnt 155).f ((trueEnt 155).args.map .lit) S0) = true := by kernel_rfl


end Go.Proofs.YtkahldoobpdblaaGreatDoor
