/- The machine's runs, by the kernel, part D. Conditions: none. -/
import Derived.Test.YtcpebkgfkhnnkaaGreatDoorKe
namespace Go.Proofs.YtcpebkgfkhnnkaaGreatDoor
open Go.Eng Go.RowKit

set_option maxRecDepth 100000 in
theorem run11 (n0 : Nat) (w0 : World) (h) (ob) (vs) : allIs (trueEnt 374).res (runs [trueEnt 395] ⟨gl, n0, w0, h, ob, vs⟩ (trueEnt 374).f ((trueEnt 374).args.map .lit) S0) = true := by kernel_rfl

set_option maxRecDepth 100000 in
theorem run12 (n0 : Nat) (w0 : World) (h) (ob) (vs) : allIs (trueEnt 358).res (runs [trueEnt 374] ⟨gl, n0, w0, h, ob, vs⟩ (trueEnt 358).f ((trueEnt 358).args.map .lit) S0) = true := by kernel_rfl

set_option maxRecDepth 100000 in
theorem run13 (n0 : Nat) (w0 : World) (h) (ob) (vs) : allIs (trueEnt 354).res (runs [eI4, eI1, eU100, eU1000, eU50, eU200, eT, trueEnt 358] ⟨gl, n0, w0, h, ob, vs⟩ (trueEnt 354).f ((trueEnt 354).args.map .lit) S0) = true := by kernel_rfl


end Go.Proofs.YtcpebkgfkhnnkaaGreatDoor
