/- CheckLinear: a history that is in order is linear: its points, run one behind the other, may follow; each answered call has just one, between call and answer; each beginning of it is in order: the law returns true at whatever events and cut. Conditions: none but that the listed variables hold what the card ties them to. -/
import Derived.Test.YtigdkcpipiimnaaGreatDoorRows
import Derived.Test.YtigdkcpipiimnaaGreatDoorLa
import Derived.ProofKit
import Derived.OpenShut
import Derived.ShutString
import Derived.ChangeOld
import Derived.LaidMore
import Derived.Lay
import Derived.Test.YtigdkcpipiimnaaGreatDoorTie
import Derived.Test.YtigdkcpipiimnaaGreatDoorCards
import Derived.Test.YtigdkcpipiimnaaGreatDoorCh
import Derived.SevenTiedAt
import Derived.Stop.Joined
import Derived.Test.YtigdkcpipiimnaaGreatDoorPa
import Derived.Test.YtigdkcpipiimnaaGreatDoorPj
import Derived.Test.YtigdkcpipiimnaaGreatDoorPk
import Derived.Test.YtigdkcpipiimnaaGreatDoorPl
namespace Go.Proofs.YtigdkcpipiimnaaGreatDoor
open Go.ChangeShapes Go.WideShapes Go.ChangeAt Go.RowKit Go.Eng

theorem joined : joinedFacts Tryz.prog 3 Tryz.f3 Rows.checkLinearSpec Rows.checkLinearRow = true := by
  unfold joinedFacts
  rw [factLaid, factMaps, factInPlace, factUnfollowed, factRecurses, factNamed, factKeys, factEnter, factHeard]
  kernel_rfl

theorem over : Rows.checkLinearRow.holds Tryz.pinned (OpenSpec.ofChange Rows.checkLinearSpec) :=
  OpenClaim.holds_of_wide 3 Tryz.f3 rfl rfl rfl rfl rfl rfl rfl ⟨rfl, rfl, rfl, rfl, rfl⟩ rfl rfl rfl rfl rfl factFunc Tryz.func3 joined
    (of_decide_eq_true (by kernel_rfl)) (by unfold Func.isWrapper; first | (rw [if_pos (by decide +kernel)]; kernel_rfl) | (rw [if_neg (by decide +kernel)]; exact ⟨rfl, rfl⟩))
    (fun os started H enc _ => lifted os started H enc)

end Go.Proofs.YtigdkcpipiimnaaGreatDoor
