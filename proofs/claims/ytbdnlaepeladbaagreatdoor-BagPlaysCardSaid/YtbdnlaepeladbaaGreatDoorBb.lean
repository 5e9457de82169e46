/- BagPlays: whatever comes, goes on, and is listed, each is answered, and all that there is is, what the document says: the law returns true at whatever acts. Conditions: none but that the listed variables hold what the card ties them to. -/
import Derived.Test.YtbdnlaepeladbaaGreatDoorRows
import Derived.Test.YtbdnlaepeladbaaGreatDoorBgI
import Derived.ProofKit
import Derived.OpenShut
import Derived.ShutString
import Derived.ChangeOld
import Derived.LaidMore
import Derived.Lay
import Derived.Test.YtbdnlaepeladbaaGreatDoorTie
import Derived.Test.YtbdnlaepeladbaaGreatDoorCards
import Derived.Test.YtbdnlaepeladbaaGreatDoorCh
import Derived.SevenTiedAt
import Derived.Stop.Joined
import Derived.Test.YtbdnlaepeladbaaGreatDoorBa
import Derived.Test.YtbdnlaepeladbaaGreatDoorBj
import Derived.Test.YtbdnlaepeladbaaGreatDoorBk
import Derived.Test.YtbdnlaepeladbaaGreatDoorBl
namespace Go.Proofs.YtbdnlaepeladbaaGreatDoor
open Go.ChangeShapes Go.WideShapes Go.ChangeAt Go.RowKit Go.Eng

theorem joined : joinedFacts Tryz.prog 5 Tryz.f5 Rows.bagPlaysSpec Rows.bagPlaysRow = true := by
  unfold joinedFacts
  rw [factLaid, factMaps, factInPlace, factUnfollowed, factRecurses, factNamed, factKeys, factEnter, factHeard]
  kernel_rfl

theorem over : Rows.bagPlaysRow.holds Tryz.pinned (OpenSpec.ofChange Rows.bagPlaysSpec) :=
  OpenClaim.holds_of_wide 5 Tryz.f5 rfl rfl rfl rfl rfl rfl rfl ⟨rfl, rfl, rfl, rfl, rfl⟩ rfl rfl rfl rfl rfl factFunc Tryz.func5 joined
    (of_decide_eq_true (by kernel_rfl)) (by unfold Func.isWrapper; first | (rw [if_pos (by decide +kernel)]; kernel_rfl) | (rw [if_neg (by decide +kernel)]; exact ⟨rfl, rfl⟩))
    (fun os started H enc _ => lifted os started H enc)

end Go.Proofs.YtbdnlaepeladbaaGreatDoor
