/- The machine's runs, by the kernel, part D. Conditions: none. -/
import Derived.Test.YtkahldoobpdblaaGreatDoorKe
namespace Go.Proofs.YtkahldoobpdblaaGreatDoor
open Go.Eng Go.RowKit

set_option maxRecDepth 100000 in
theorem run11 (n0 : Nat) (w0 : World) (h) : allIs (trueEnt 123).res (runs [trueEnt 155] ⟨gl, n0, w0, h⟩ (trueEnt 123).f ((trueEnt 123).args.map .lit) S0) = true := by kernel_rfl

set_option maxRecDepth 100000 in
theorem run12 (n0 : Nat) (w0 : World) (h) : allIs (trueEnt 99).res (runs [trueEnt 123] ⟨gl, n0, w0, h⟩ (trueEnt 99).f ((trueEnt 99).args.map .lit) S0) = true := by kernel_rfl

set_option maxRecDepth 100000 in
theorem run13 (n0 : Nat) (w0 : World) (h) : allIs (trueEnt 91).res (runs [eI4, eI1, eU100, eU1000, eU50, eU200, eT, trueEnt 99] ⟨gl, n0, w0, h⟩ (trueEnt 91).f ((trueEnt 91).args.map .lit) S0) = true := by kernel_rfl


end Go.Proofs.YtkahldoobpdblaaGreatDoor
