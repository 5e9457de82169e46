/- The machine's runs, by the kernel, part E. Conditions: none. -/
import Derived.Test.YtbdnlaepeladbaaGreatDoorKe
namespace Go.Proofs.YtbdnlaepeladbaaGreatDoor
open Go.Eng Go.RowKit

set_option maxRecDepth 100000 in
theorem run14 (n0 : Nat) (w0 : World) (h) (ob) (vs) : allIs (trueEnt 91).res (runs [trueEnt 66] ⟨gl, n0, w0, h, ob, vs⟩ (trueEnt 91).f ((trueEnt 91).args.map .lit) S0) = true := by kernel_rfl

set_option maxRecDepth 100000 in
theorem run15 (n0 : Nat) (w0 : World) (h) (ob) (vs) : allIs (trueEnt 29).res (runs [trueEnt 91] ⟨gl, n0, w0, h, ob, vs⟩ (trueEnt 29).f ((trueEnt 29).args.map .lit) S0) = true := by kernel_rfl


end Go.Proofs.YtbdnlaepeladbaaGreatDoor
