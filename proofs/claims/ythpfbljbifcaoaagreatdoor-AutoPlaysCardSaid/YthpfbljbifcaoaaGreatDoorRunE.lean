/- The machine's runs, by the kernel, part E. Conditions: none. -/
import Derived.Test.YthpfbljbifcaoaaGreatDoorKe
namespace Go.Proofs.YthpfbljbifcaoaaGreatDoor
open Go.Eng Go.RowKit

set_option maxRecDepth 100000 in
theorem run14 (n0 : Nat) (w0 : World) (h) : allIs (trueEnt 283).res (runs [trueEnt 285] ⟨gl, n0, w0, h⟩ (trueEnt 283).f ((trueEnt 283).args.map .lit) S0) = true := by kernel_rfl

set_option maxRecDepth 100000 in
theorem run15 (n0 : Nat) (w0 : World) (h) : allIs (trueEnt 281).res (runs [trueEnt 283] ⟨gl, n0, w0, h⟩ (trueEnt 281).f ((trueEnt 281).args.map .lit) S0) = true := by kernel_rfl


end Go.Proofs.YthpfbljbifcaoaaGreatDoor
