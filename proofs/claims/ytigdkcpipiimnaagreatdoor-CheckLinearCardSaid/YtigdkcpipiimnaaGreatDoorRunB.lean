/- The machine's runs, by the kernel, part B. Conditions: none. -/
import Derived.Test.YtigdkcpipiimnaaGreatDoorKe
namespace Go.Proofs.YtigdkcpipiimnaaGreatDoor
open Go.Eng Go.RowKit

set_option maxRecDepth 100000 in
theorem run07 (n0 : Nat) (w0 : World) (h) (ob) (vs) : allIs (trueEnt 412).res (runs [trueEnt 418] ⟨gl, n0, w0, h, ob, vs⟩ (trueEnt 412).f ((trueEnt 412).args.map .lit) S0) = true := by kernel_rfl

set_option maxRecDepth 100000 in
theorem run08 (n0 : Nat) (w0 : World) (h) (ob) (vs) : allIs (trueEnt 407).res (runs [trueEnt 412] ⟨gl, n0, w0, h, ob, vs⟩ (trueEnt 407).f ((trueEnt 407).args.map .lit) S0) = true := by kernel_rfl

set_option maxRecDepth 100000 in
theorem run09 (n0 : Nat) (w0 : World) (h) (ob) (vs) : allIs (trueEnt 400).res (runs [trueEnt 407] ⟨gl, n0, w0, h, ob, vs⟩ (trueEnt 400).f ((trueEnt 400).args.map .lit) S0) = true := by kernel_rfl

set_option maxRecDepth 100000 in
theorem run10 (n0 : Nat) (w0 : World) (h) (ob) (vs) : allIs (trueEnt 365).res (runs [trueEnt 400] ⟨gl, n0, w0, h, ob, vs⟩ (trueEnt 365).f ((trueEnt 365).args.map .lit) S0) = true := by kernel_rfl


end Go.Proofs.YtigdkcpipiimnaaGreatDoor
