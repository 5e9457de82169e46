/- The machine's runs, by the kernel, part C. Conditions: none. -/
import Derived.Test.YthpfbljbifcaoaaGreatDoorKe
namespace Go.Proofs.YthpfbljbifcaoaaGreatDoor
open Go.Eng Go.RowKit

set_option maxRecDepth 100000 in
theorem run_eI4 (n0 : Nat) (w0 : World) (h) : allIs eI4.res (runs [] ⟨gl, n0, w0, h⟩ eI4.f (eI4.args.map .lit) S0) = true := by kernel_rfl

set_option maxRecDepth 100000 in
theorem run_eI1 (n0 : Nat) (w0 : World) (h) : allIs eI1.res (runs [] ⟨gl, n0, w0, h⟩ eI1.f (eI1.args.map .lit) S0) = true := by kernel_rfl

set_option maxRecDepth 100000 in
theorem run_eU100 (n0 : Nat) (w0 : World) (h) : allIs eU100.res (runs [] ⟨gl, n0, w0, h⟩ eU100.f (eU100.args.map .lit) S0) = true := by kernel_rfl

set_option maxRecDepth 100000 in
theorem run_eU1000 (n0 : Nat) (w0 : World) (h) : allIs eU1000.res (runs [] ⟨gl, n0, w0, h⟩ eU1000.f (eU1000.args.map .lit) S0) = true := by kernel_rfl

set_option maxRecDepth 100000 in
theorem run_eU50 (n0 : Nat) (w0 : World) (h) : allIs eU50.res (runs [] ⟨gl, n0, w0, h⟩ eU50.f (eU50.args.map .lit) S0) = true := by kernel_rfl

set_option maxRecDepth 100000 in
theorem run_eU200 (n0 : Nat) (w0 : World) (h) : allIs eU200.res (runs [] ⟨gl, n0, w0, h⟩ eU200.f (eU200.args.map .lit) S0) = true := by kernel_rfl

set_option maxRecDepth 100000 in
theorem run_eT (n0 : Nat) (w0 : World) (h) : allIs eT.res (runs [] ⟨gl, n0, w0, h⟩ eT.f (eT.args.map .lit) S0) = true := by kernel_rfl


end Go.Proofs.YthpfbljbifcaoaaGreatDoor
