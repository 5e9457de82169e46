/- The machine's runs, by the kernel, part D. Conditions: none. -/
import Derived.Test.YtbdnlaepeladbaaGreatDoorKe
namespace Go.Proofs.YtbdnlaepeladbaaGreatDoor
open Go.Eng Go.RowKit

set_option maxRecDepth 100000 in
theorem run11 (n0 : Nat) (w0 : World) (h) (ob) (vs) : allIs (trueEnt 243).res (runs [trueEnt 292] ⟨gl, n0, w0, h, ob, vs⟩ (trueEnt 243).f ((trueEnt 243).args.map .lit) S0) = true := by kernel_rfl

set_option maxRecDepth 100000 in
theorem run12 (n0 : Nat) (w0 : World) (h) (ob) (vs) : allIs (trueEnt 195).res (runs [trueEnt 243] ⟨gl, n0, w0, h, ob, vs⟩ (trueEnt 195).f ((trueEnt 195).args.map .lit) S0) = true := by kernel_rfl

set_option maxRecDepth 100000 in
theorem run13 (n0 : Nat) (w0 : World) (h) (ob) (vs) : allIs (trueEnt 66).res (runs [eI4, eI1, eU100, eU1000, eU50, eU200, eT, trueEnt 195] ⟨gl, n0, w0, h, ob, vs⟩ (trueEnt 66).f ((trueEnt 66).args.map .lit) S0) = true := by kernel_rfl


end Go.Proofs.YtbdnlaepeladbaaGreatDoor
