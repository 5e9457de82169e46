/- The machine's runs, by the kernel, part I. Conditions: none. -/
import Derived.Test.YtcpebkgfkhnnkaaGreatDoorKe
import Derived.Test.YtcpebkgfkhnnkaaGreatDoorSt19a
import Derived.Test.YtcpebkgfkhnnkaaGreatDoorSt19b
import Derived.Test.YtcpebkgfkhnnkaaGreatDoorSt19c
namespace Go.Proofs.YtcpebkgfkhnnkaaGreatDoor
open Go.Eng Go.RowKit

abbrev es19 : List StEnt := [e19_0, e19_1, e19_2, e19_3, e19_4, e19_5, e19_6, e19_7, e19_8, e19_9]
set_option maxRecDepth 100000 in
theorem run19 (n0 : Nat) (w0 : World) (h) (ob) (vs) : allIs (trueEnt 311).res (runsS es19 [trueEnt 338] ⟨gl, n0, w0, h, ob, vs⟩ (trueEnt 311).f ((trueEnt 311).args.map .lit) S0) = true := by kernel_rfl


end Go.Proofs.YtcpebkgfkhnnkaaGreatDoor
