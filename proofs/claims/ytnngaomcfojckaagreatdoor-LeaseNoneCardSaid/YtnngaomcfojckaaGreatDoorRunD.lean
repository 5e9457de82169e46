/- The machine's runs, by the kernel, part D. Conditions: none. -/
import Derived.Test.YtnngaomcfojckaaGreatDoorKe
namespace Go.Proofs.YtnngaomcfojckaaGreatDoor
open Go.Eng Go.RowKit

set_option maxRecDepth 100000 in
theorem run11 (n0 : Nat) (w0 : World) (h) : allIs (trueEnt 81).res (runs [trueEnt 132] ⟨gl, n0, w0, h⟩ (trueEnt 81).f ((trueEnt 81).args.map .lit) S0) = true := by kernel_rfl

set_option maxRecDepth 100000 in
theorem run12 (n0 : Nat) (w0 : World) (h) : allIs (trueEnt 45).res (runs [trueEnt 81] ⟨gl, n0, w0, h⟩ (trueEnt 45).f ((trueEnt 45).args.map .lit) S0) = true := by kernel_rfl

set_option maxRecDepth 100000 in
theorem run13 (n0 : Nat) (w0 : World) (h) : allIs (trueEnt 20).res (runs [eI4, eI1, eU100, eU1000, eU50, eU200, eT, trueEnt 45] ⟨gl, n0, w0, h⟩ (trueEnt 20).f ((trueEnt 20).args.map .lit) S0) = true := by kernel_rfl


end Go.Proofs.YtnngaomcfojckaaGreatDoor
