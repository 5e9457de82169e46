/- The machine's runs, by the kernel, part D. Conditions: none. -/
import Derived.Test.YtigdkcpipiimnaaGreatDoorKe
namespace Go.Proofs.YtigdkcpipiimnaaGreatDoor
open Go.Eng Go.RowKit

set_option maxRecDepth 100000 in
theorem run11 (n0 : Nat) (w0 : World) (h) (ob) (vs) : allIs (trueEnt 344).res (runs [trueEnt 365] ⟨gl, n0, w0, h, ob, vs⟩ (trueEnt 344).f ((trueEnt 344).args.map .lit) S0) = true := by kernel_rfl

set_option maxRecDepth 100000 in
theorem run12 (n0 : Nat) (w0 : World) (h) (ob) (vs) : allIs (trueEnt 328).res (runs [trueEnt 344] ⟨gl, n0, w0, h, ob, vs⟩ (trueEnt 328).f ((trueEnt 328).args.map .lit) S0) = true := by kernel_rfl

set_option maxRecDepth 100000 in
theorem run13 (n0 : Nat) (w0 : World) (h) (ob) (vs) : allIs (trueEnt 324).res (runs [eI4, eI1, eU100, eU1000, eU50, eU200, eT, trueEnt 328] ⟨gl, n0, w0, h, ob, vs⟩ (trueEnt 324).f ((trueEnt 324).args.map .lit) S0) = true := by kernel_rfl


end Go.Proofs.YtigdkcpipiimnaaGreatDoor
