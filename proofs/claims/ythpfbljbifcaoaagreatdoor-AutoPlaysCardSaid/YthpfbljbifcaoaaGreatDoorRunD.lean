/- The machine's runs, by the kernel, part D. Conditions: none. -/
import Derived.Test.YthpfbljbifcaoaaGreatDoorKe
namespace Go.Proofs.YthpfbljbifcaoaaGreatDoor
open Go.Eng Go.RowKit

set_option maxRecDepth 100000 in
theorem run11 (n0 : Nat) (w0 : World) (h) : allIs (trueEnt 305).res (runs [trueEnt 326] ⟨gl, n0, w0, h⟩ (trueEnt 305).f ((trueEnt 305).args.map .lit) S0) = true := by kernel_rfl

set_option maxRecDepth 100000 in
theorem run12 (n0 : Nat) (w0 : World) (h) : allIs (trueEnt 289).res (runs [trueEnt 305] ⟨gl, n0, w0, h⟩ (trueEnt 289).f ((trueEnt 289).args.map .lit) S0) = true := by kernel_rfl

set_option maxRecDepth 100000 in
theorem run13 (n0 : Nat) (w0 : World) (h) : allIs (trueEnt 285).res (runs [eI4, eI1, eU100, eU1000, eU50, eU200, eT, trueEnt 289] ⟨gl, n0, w0, h⟩ (trueEnt 285).f ((trueEnt 285).args.map .lit) S0) = true := by kernel_rfl


end Go.Proofs.YthpfbljbifcaoaaGreatDoor
