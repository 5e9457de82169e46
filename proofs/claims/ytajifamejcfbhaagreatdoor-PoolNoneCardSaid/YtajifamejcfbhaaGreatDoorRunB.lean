/- The machine's runs, by the kernel, part B. Conditions: none. -/
import Derived.Test.YtajifamejcfbhaaGreatDoorKe
namespace Go.Proofs.YtajifamejcfbhaaGreatDoor
open Go.Eng Go.RowKit

set_option maxRecDepth 100000 in
theorem run07 (n0 : Nat) (w0 : World) (h) : allIs (trueEnt 384).res (runs [trueEnt 388] ⟨gl, n0, w0, h⟩ (trueEnt 384).f ((trueEnt 384).args.map .lit) S0) = true := by kernel_rfl

set_option maxRecDepth 100000 in
theorem run08 (n0 : Nat) (w0 : World) (h) : allIs (trueEnt 380).res (runs [trueEnt 384] ⟨gl, n0, w0, h⟩ (trueEnt 380).f ((trueEnt 380).args.map .lit) S0) = true := by kernel_rfl

set_option maxRecDepth 100000 in
theorem run09 (n0 : Nat) (w0 : World) (h) : allIs (trueEnt 373).res (runs [trueEnt 380] ⟨gl, n0, w0, h⟩ (trueEnt 373).f ((trueEnt 373).args.map .lit) S0) = true := by kernel_rfl

set_option maxRecDepth 100000 in
theorem run10 (n0 : Nat) (w0 : World) (h) : allIs (trueEnt 338).res (runs [trueEnt 373] ⟨gl, n0, w0, h⟩ (trueEnt 338).f ((trueEnt 338).args.map .lit) S0) = true := by kernel_rfl


end Go.Proofs.YtajifamejcfbhaaGreatDoor
