/- PoolNone: of a nil pool nothing is told: the law returns true. Conditions: none but that the listed variables hold what the card ties them to. -/
import Derived.Test.YtajifamejcfbhaaGreatDoorRows
import Derived.ProofKit
import Derived.OpenShut
import Derived.LaidMore
import Derived.Lay
import Derived.Test.YtajifamejcfbhaaGreatDoorTie
import Derived.Test.YtajifamejcfbhaaGreatDoorCards
import Derived.Test.YtajifamejcfbhaaGreatDoorCh
import Derived.SevenTiedAt
import Derived.Stop.Joined
import Derived.Test.YtajifamejcfbhaaGreatDoorPa
import Derived.Test.YtajifamejcfbhaaGreatDoorPj
import Derived.Test.YtajifamejcfbhaaGreatDoorPk
import Derived.Test.YtajifamejcfbhaaGreatDoorPl
namespace Go.Proofs.YtajifamejcfbhaaGreatDoor
open Go.ChangeShapes Go.WideShapes Go.ChangeAt Go.RowKit Go.Eng

theorem joined : joinedFacts Tryz.prog 3 Tryz.f3 Rows.poolNoneSpec Rows.poolNoneRow = true := by
  unfold joinedFacts
  rw [factLaid, factMaps, factInPlace, factUnfollowed, factRecurses, factNamed, factKeys, factEnter, factHeard]
  kernel_rfl

theorem over : Rows.poolNoneRow.holds Tryz.pinned (OpenSpec.ofChange Rows.poolNoneSpec) :=
  OpenClaim.holds_of_wide 3 Tryz.f3 rfl rfl rfl rfl rfl rfl rfl ⟨rfl, rfl, rfl, rfl, rfl⟩ rfl rfl rfl rfl rfl factFunc Tryz.func3 joined
    (of_decide_eq_true (by kernel_rfl)) (by unfold Func.isWrapper; first | (rw [if_pos (by decide +kernel)]; kernel_rfl) | (rw [if_neg (by decide +kernel)]; exact ⟨rfl, rfl⟩))
    (fun os started H enc _ => lifted os started H enc)

end Go.Proofs.YtajifamejcfbhaaGreatDoor
