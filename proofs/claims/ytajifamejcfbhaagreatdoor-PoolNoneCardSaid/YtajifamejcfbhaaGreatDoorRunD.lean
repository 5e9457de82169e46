/- The machine's runs, by the kernel, part D. Conditions: none. -/
import Derived.Test.YtajifamejcfbhaaGreatDoorKe
namespace Go.Proofs.YtajifamejcfbhaaGreatDoor
open Go.Eng Go.RowKit

set_option maxRecDepth 100000 in
theorem run11 (n0 : Nat) (w0 : World) (h) : allIs (trueEnt 317).res (runs [trueEnt 338] ⟨gl, n0, w0, h⟩ (trueEnt 317).f ((trueEnt 317).args.map .lit) S0) = true := by kernel_rfl

set_option maxRecDepth 100000 in
theorem run12 (n0 : Nat) (w0 : World) (h) : allIs (trueEnt 301).res (runs [trueEnt 317] ⟨gl, n0, w0, h⟩ (trueEnt 301).f ((trueEnt 301).args.map .lit) S0) = true := by kernel_rfl

set_option maxRecDepth 100000 in
theorem run13 (n0 : Nat) (w0 : World) (h) : allIs (trueEnt 297).res (runs [eI4, eI1, eU100, eU1000, eU50, eU200, eT, trueEnt 301] ⟨gl, n0, w0, h⟩ (trueEnt 297).f ((trueEnt 297).args.map .lit) S0) = true := by kernel_rfl


end Go.Proofs.YtajifamejcfbhaaGreatDoor
