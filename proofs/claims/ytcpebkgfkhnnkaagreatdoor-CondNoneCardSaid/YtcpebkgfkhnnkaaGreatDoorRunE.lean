/- The machine's runs, by the kernel, part E. Conditions: none. -/
import Derived.Test.YtcpebkgfkhnnkaaGreatDoorKe
namespace Go.Proofs.YtcpebkgfkhnnkaaGreatDoor
open Go.Eng Go.RowKit

set_option maxRecDepth 100000 in
theorem run14 (n0 : Nat) (w0 : World) (h) (ob) (vs) : allIs (trueEnt 352).res (runs [trueEnt 354] ⟨gl, n0, w0, h, ob, vs⟩ (trueEnt 352).f ((trueEnt 352).args.map .lit) S0) = true := by kernel_rfl

set_option maxRecDepth 100000 in
theorem run15 (n0 : Nat) (w0 : World) (h) (ob) (vs) : allIs (trueEnt 350).res (runs [trueEnt 352] ⟨gl, n0, w0, h, ob, vs⟩ (trueEnt 350).f ((trueEnt 350).args.map .lit) S0) = true := by kernel_rfl


end Go.Proofs.YtcpebkgfkhnnkaaGreatDoor
