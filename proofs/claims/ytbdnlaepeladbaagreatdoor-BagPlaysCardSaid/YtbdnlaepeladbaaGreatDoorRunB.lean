/- The machine's runs, by the kernel, part B. Conditions: none. -/
import Derived.Test.YtbdnlaepeladbaaGreatDoorKe
namespace Go.Proofs.YtbdnlaepeladbaaGreatDoor
open Go.Eng Go.RowKit

set_option maxRecDepth 100000 in
theorem run07 (n0 : Nat) (w0 : World) (h) (ob) (vs) : allIs (trueEnt 348).res (runs [trueEnt 355] ⟨gl, n0, w0, h, ob, vs⟩ (trueEnt 348).f ((trueEnt 348).args.map .lit) S0) = true := by kernel_rfl

set_option maxRecDepth 100000 in
theorem run08 (n0 : Nat) (w0 : World) (h) (ob) (vs) : allIs (trueEnt 344).res (runs [trueEnt 348] ⟨gl, n0, w0, h, ob, vs⟩ (trueEnt 344).f ((trueEnt 344).args.map .lit) S0) = true := by kernel_rfl

set_option maxRecDepth 100000 in
theorem run09 (n0 : Nat) (w0 : World) (h) (ob) (vs) : allIs (trueEnt 337).res (runs [trueEnt 344] ⟨gl, n0, w0, h, ob, vs⟩ (trueEnt 337).f ((trueEnt 337).args.map .lit) S0) = true := by kernel_rfl

set_option maxRecDepth 100000 in
theorem run10 (n0 : Nat) (w0 : World) (h) (ob) (vs) : allIs (trueEnt 292).res (runs [trueEnt 337] ⟨gl, n0, w0, h, ob, vs⟩ (trueEnt 292).f ((trueEnt 292).args.map .lit) S0) = true := by kernel_rfl


end Go.Proofs.YtbdnlaepeladbaaGreatDoor
