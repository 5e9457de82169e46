/- AutoPlays: behind any points and retirements each is answered, and all that is told is, what the document says: the law returns true at whatever acts. Conditions: none but that the listed variables hold what the card ties them to. -/
import Derived.Test.YthpfbljbifcaoaaGreatDoorRows
import Derived.Test.YthpfbljbifcaoaaGreatDoorLp
import Derived.ProofKit
import Derived.OpenShut
import Derived.ShutString
import Derived.ChangeOld
import Derived.LaidMore
import Derived.Lay
import Derived.Test.YthpfbljbifcaoaaGreatDoorTie
import Derived.Test.YthpfbljbifcaoaaGreatDoorCards
import Derived.Test.YthpfbljbifcaoaaGreatDoorChP
import Derived.SevenTiedAt
import Derived.Stop.Joined
import Derived.Test.YthpfbljbifcaoaaGreatDoorQa
import Derived.Test.YthpfbljbifcaoaaGreatDoorQj
import Derived.Test.YthpfbljbifcaoaaGreatDoorQk
import Derived.Test.YthpfbljbifcaoaaGreatDoorQl
namespace Go.Proofs.YthpfbljbifcaoaaGreatDoor
open Go.ChangeShapes Go.WideShapes Go.ChangeAt Go.RowKit Go.Eng

theorem joined : joinedFacts Tryz.prog 4 Tryz.f4 Rows.autoPlaysSpec Rows.autoPlaysRow = true := by
  unfold joinedFacts
  rw [factLaid, factMaps, factInPlace, factUnfollowed, factRecurses, factNamed, factKeys, factEnter, factHeard]
  kernel_rfl

theorem over : Rows.autoPlaysRow.holds Tryz.pinned (OpenSpec.ofChange Rows.autoPlaysSpec) :=
  OpenClaim.holds_of_wide 4 Tryz.f4 rfl rfl rfl rfl rfl rfl rfl ⟨rfl, rfl, rfl, rfl, rfl⟩ rfl rfl rfl rfl rfl factFunc Tryz.func4 joined
    (of_decide_eq_true (by kernel_rfl)) (by unfold Func.isWrapper; first | (rw [if_pos (by decide +kernel)]; kernel_rfl) | (rw [if_neg (by decide +kernel)]; exact ⟨rfl, rfl⟩))
    (fun os started H enc _ => lifted os started H enc)

end Go.Proofs.YthpfbljbifcaoaaGreatDoor
