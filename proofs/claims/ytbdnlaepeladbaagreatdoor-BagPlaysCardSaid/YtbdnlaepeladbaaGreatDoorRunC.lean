/- The machine's runs, by the kernel, part C. Conditions: none. -/
import Derived.Test.YtbdnlaepeladbaaGreatDoorKe
namespace Go.Proofs.YtbdnlaepeladbaaGreatDoor
open Go.Eng Go.RowKit

set_option maxRecDepth 100000 in
theorem run_eI4 (n0 : Nat) (w0 : World) (h) (ob) (vs) : allIs eI4.res (runs [] ⟨gl, n0, w0, h, ob, vs⟩ eI4.f (eI4.args.map .lit) S0) = true := by kernel_rfl

set_option maxRecDepth 100000 in
theorem run_eI1 (n0 : Nat) (w0 : World) (h) (ob) (vs) : allIs eI1.res (runs [] ⟨gl, n0, w0, h, ob, vs⟩ eI1.f (eI1.args.map .lit) S0) = true := by kernel_rfl

set_option maxRecDepth 100000 in
theorem run_eU100 (n0 : Nat) (w0 : World) (h) (ob) (vs) : allIs eU100.res (runs [] ⟨gl, n0, w0, h, ob, vs⟩ eU100.f (eU100.args.map .lit) S0) = true := by kernel_rfl

set_option maxRecDepth 100000 in
theorem run_eU1000 (n0 : Nat) (w0 : World) (h) (ob) (vs) : allIs eU1000.res (runs [] ⟨gl, n0, w0, h, ob, vs⟩ eU1000.f (eU1000.args.map .lit) S0) = true := by kernel_rfl

set_option maxRecDepth 100000 in
theorem run_eU50 (n0 : Nat) (w0 : World) (h) (ob) (vs) : allIs eU50.res (runs [] ⟨gl, n0, w0, h, ob, vs⟩ eU50.f (eU50.args.map .lit) S0) = true := by kernel_rfl

set_option maxRecDepth 100000 in
theorem run_eU200 (n0 : Nat) (w0 : World) (h) (ob) (vs) : allIs eU200.res (runs [] ⟨gl, n0, w0, h, ob, vs⟩ eU200.f (eU200.args.map .lit) S0) = true := by kernel_rfl

set_option maxRecDepth 100000 in
theorem run_eT (n0 : Nat) (w0 : World) (h) (ob) (vs) : allIs eT.res (runs [] ⟨gl, n0, w0, h, ob, vs⟩ eT.f (eT.args.map .lit) S0) = true := by kernel_rfl


end Go.Proofs.YtbdnlaepeladbaaGreatDoor
