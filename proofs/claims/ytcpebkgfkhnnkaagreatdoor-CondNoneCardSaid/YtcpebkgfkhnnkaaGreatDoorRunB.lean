/- The machine's runs, by the kernel, part B. Conditions: none. -/
import Derived.Test.YtcpebkgfkhnnkaaGreatDoorKe
namespace Go.Proofs.YtcpebkgfkhnnkaaGreatDoor
open Go.Eng Go.RowKit

set_option maxRecDepth 100000 in
theorem run07 (n0 : Nat) (w0 : World) (h) (ob) (vs) : allIs (trueEnt 441).res (runs [trueEnt 445] ⟨gl, n0, w0, h, ob, vs⟩ (trueEnt 441).f ((trueEnt 441).args.map .lit) S0) = true := by kernel_rfl

set_option maxRecDepth 100000 in
theorem run08 (n0 : Nat) (w0 : World) (h) (ob) (vs) : allIs (trueEnt 437).res (runs [trueEnt 441] ⟨gl, n0, w0, h, ob, vs⟩ (trueEnt 437).f ((trueEnt 437).args.map .lit) S0) = true := by kernel_rfl

set_option maxRecDepth 100000 in
theorem run09 (n0 : Nat) (w0 : World) (h) (ob) (vs) : allIs (trueEnt 430).res (runs [trueEnt 437] ⟨gl, n0, w0, h, ob, vs⟩ (trueEnt 430).f ((trueEnt 430).args.map .lit) S0) = true := by kernel_rfl

set_option maxRecDepth 100000 in
theorem run10 (n0 : Nat) (w0 : World) (h) (ob) (vs) : allIs (trueEnt 395).res (runs [trueEnt 430] ⟨gl, n0, w0, h, ob, vs⟩ (trueEnt 395).f ((trueEnt 395).args.map .lit) S0) = true := by kernel_rfl


end Go.Proofs.YtcpebkgfkhnnkaaGreatDoor
