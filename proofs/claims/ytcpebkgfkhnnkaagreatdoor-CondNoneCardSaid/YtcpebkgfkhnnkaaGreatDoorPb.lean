/- CondNone: of a nil pool nothing is anywhere: the law returns true. Conditions: none but that the listed variables hold what the card ties them to. -/
import Derived.Test.YtcpebkgfkhnnkaaGreatDoorRows
import Derived.ProofKit
import Derived.OpenShut
import Derived.LaidMore
import Derived.Lay
import Derived.Test.YtcpebkgfkhnnkaaGreatDoorTie
import Derived.Test.YtcpebkgfkhnnkaaGreatDoorCards
import Derived.Test.YtcpebkgfkhnnkaaGreatDoorCh
import Derived.SevenTiedAt
import Derived.Stop.Joined
import Derived.Test.YtcpebkgfkhnnkaaGreatDoorPa
import Derived.Test.YtcpebkgfkhnnkaaGreatDoorPj
import Derived.Test.YtcpebkgfkhnnkaaGreatDoorPk
import Derived.Test.YtcpebkgfkhnnkaaGreatDoorPl
namespace Go.Proofs.YtcpebkgfkhnnkaaGreatDoor
open Go.ChangeShapes Go.WideShapes Go.ChangeAt Go.RowKit Go.Eng

theorem joined : joinedFacts Tryz.prog 3 Tryz.f3 Rows.condNoneSpec Rows.condNoneRow = true := by
  unfold joinedFacts
  rw [factLaid, factMaps, factInPlace, factUnfollowed, factRecurses, factNamed, factKeys, factEnter, factHeard]
  kernel_rfl

theorem over : Rows.condNoneRow.holds Tryz.pinned (OpenSpec.ofChange Rows.condNoneSpec) :=
  OpenClaim.holds_of_wide 3 Tryz.f3 rfl rfl rfl rfl rfl rfl rfl ⟨rfl, rfl, rfl, rfl, rfl⟩ rfl rfl rfl rfl rfl factFunc Tryz.func3 joined
    (of_decide_eq_true (by kernel_rfl)) (by unfold Func.isWrapper; first | (rw [if_pos (by decide +kernel)]; kernel_rfl) | (rw [if_neg (by decide +kernel)]; exact ⟨rfl, rfl⟩))
    (fun os started H enc _ => lifted os started H enc)

end Go.Proofs.YtcpebkgfkhnnkaaGreatDoor
