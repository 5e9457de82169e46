/- The machine's runs, by the kernel, part B. Conditions: none. -/
import Derived.Test.YthpfbljbifcaoaaGreatDoorKe
namespace Go.Proofs.YthpfbljbifcaoaaGreatDoor
open Go.Eng Go.RowKit

set_option maxRecDepth 100000 in
theorem run07 (n0 : Nat) (w0 : World) (h) : allIs (trueEnt 373).res (runs [trueEnt 380] ⟨gl, n0, w0, h⟩ (trueEnt 373).f ((trueEnt 373).args.map .lit) S0) = true := by kernel_rfl

set_option maxRecDepth 100000 in
theorem run08 (n0 : Nat) (w0 : World) (h) : allIs (trueEnt 368).res (runs [trueEnt 373] ⟨gl, n0, w0, h⟩ (trueEnt 368).f ((trueEnt 368).args.map .lit) S0) = true := by kernel_rfl

set_option maxRecDepth 100000 in
theorem run09 (n0 : Nat) (w0 : World) (h) : allIs (trueEnt 361).res (runs [trueEnt 368] ⟨gl, n0, w0, h⟩ (trueEnt 361).f ((trueEnt 361).args.map .lit) S0) = true := by kernel_rfl

set_option maxRecDepth 100000 in
theorem run10 (n0 : Nat) (w0 : World) (h) : allIs (trueEnt 326).res (runs [trueEnt 361] ⟨gl, n0, w0, h⟩ (trueEnt 326).f ((trueEnt 326).args.map .lit) S0) = true := by kernel_rfl


end Go.Proofs.YthpfbljbifcaoaaGreatDoor
