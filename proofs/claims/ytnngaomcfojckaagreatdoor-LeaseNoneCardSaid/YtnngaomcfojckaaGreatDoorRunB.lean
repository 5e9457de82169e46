/- The machine's runs, by the kernel, part B. Conditions: none. -/
import Derived.Test.YtnngaomcfojckaaGreatDoorKe
namespace Go.Proofs.YtnngaomcfojckaaGreatDoor
open Go.Eng Go.RowKit

set_option maxRecDepth 100000 in
theorem run07 (n0 : Nat) (w0 : World) (h) : allIs (trueEnt 198).res (runs [trueEnt 205] ⟨gl, n0, w0, h⟩ (trueEnt 198).f ((trueEnt 198).args.map .lit) S0) = true := by kernel_rfl

set_option maxRecDepth 100000 in
theorem run08 (n0 : Nat) (w0 : World) (h) : allIs (trueEnt 192).res (runs [trueEnt 198] ⟨gl, n0, w0, h⟩ (trueEnt 192).f ((trueEnt 192).args.map .lit) S0) = true := by kernel_rfl

set_option maxRecDepth 100000 in
theorem run09 (n0 : Nat) (w0 : World) (h) : allIs (trueEnt 180).res (runs [trueEnt 192] ⟨gl, n0, w0, h⟩ (trueEnt 180).f ((trueEnt 180).args.map .lit) S0) = true := by kernel_rfl

set_option maxRecDepth 100000 in
theorem run10 (n0 : Nat) (w0 : World) (h) : allIs (trueEnt 132).res (runs [trueEnt 180] ⟨gl, n0, w0, h⟩ (trueEnt 132).f ((trueEnt 132).args.map .lit) S0) = true := by kernel_rfl


end Go.Proofs.YtnngaomcfojckaaGreatDoor
