/- LeasePlays: whatever is leased and given back, marked and flagged, each is answered, and all that is told is, what the document says: the law returns true at whatever acts. Conditions: none but that the listed variables hold what the card ties them to. -/
import Derived.Test.YtbdnlaepeladbaaGreatDoorRows
import Derived.Test.YtbdnlaepeladbaaGreatDoorPlG
import Derived.ProofKit
import Derived.OpenShut
import Derived.ShutString
import Derived.ChangeOld
import Derived.LaidMore
import Derived.Lay
import Derived.Test.YtbdnlaepeladbaaGreatDoorTie
import Derived.Test.YtbdnlaepeladbaaGreatDoorCards
import Derived.Test.YtbdnlaepeladbaaGreatDoorChP
import Derived.SevenTiedAt
import Derived.Stop.Joined
import Derived.Test.YtbdnlaepeladbaaGreatDoorQa
import Derived.Test.YtbdnlaepeladbaaGreatDoorQj
import Derived.Test.YtbdnlaepeladbaaGreatDoorQk
import Derived.Test.YtbdnlaepeladbaaGreatDoorQl
namespace Go.Proofs.YtbdnlaepeladbaaGreatDoor
open Go.ChangeShapes Go.WideShapes Go.ChangeAt Go.RowKit Go.Eng

theorem joined : joinedFacts Tryz.prog 4 Tryz.f4 Rows.leasePlaysSpec Rows.leasePlaysRow = true := by
  unfold joinedFacts
  rw [factLaid, factMaps, factInPlace, factUnfollowed, factRecurses, factNamed, factKeys, factEnter, factHeard]
  kernel_rfl

theorem over : Rows.leasePlaysRow.holds Tryz.pinned (OpenSpec.ofChange Rows.leasePlaysSpec) :=
  OpenClaim.holds_of_wide 4 Tryz.f4 rfl rfl rfl rfl rfl rfl rfl ⟨rfl, rfl, rfl, rfl, rfl⟩ rfl rfl rfl rfl rfl factFunc Tryz.func4 joined
    (of_decide_eq_true (by kernel_rfl)) (by unfold Func.isWrapper; first | (rw [if_pos (by decide +kernel)]; kernel_rfl) | (rw [if_neg (by decide +kernel)]; exact ⟨rfl, rfl⟩))
    (fun os started H enc _ => lifted os started H enc)

end Go.Proofs.YtbdnlaepeladbaaGreatDoor
