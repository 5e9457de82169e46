/- AutoHolds: no id is leased to two, nor one that is retired, whatever follows; a state that was taken stays as it was: the law returns true at whatever acts. Conditions: none but that the listed variables hold what the card ties them to. -/
import Derived.Test.YthpfbljbifcaoaaGreatDoorRows
import Derived.Test.YthpfbljbifcaoaaGreatDoorLa
import Derived.ProofKit
import Derived.OpenShut
import Derived.ShutString
import Derived.ChangeOld
import Derived.LaidMore
import Derived.Lay
import Derived.Test.YthpfbljbifcaoaaGreatDoorTie
import Derived.Test.YthpfbljbifcaoaaGreatDoorCards
import Derived.Test.YthpfbljbifcaoaaGreatDoorCh
import Derived.SevenTiedAt
import Derived.Stop.Joined
import Derived.Test.YthpfbljbifcaoaaGreatDoorPa
import Derived.Test.YthpfbljbifcaoaaGreatDoorPj
import Derived.Test.YthpfbljbifcaoaaGreatDoorPk
import Derived.Test.YthpfbljbifcaoaaGreatDoorPl
namespace Go.Proofs.YthpfbljbifcaoaaGreatDoor
open Go.ChangeShapes Go.WideShapes Go.ChangeAt Go.RowKit Go.Eng

theorem joined : joinedFacts Tryz.prog 3 Tryz.f3 Rows.autoHoldsSpec Rows.autoHoldsRow = true := by
  unfold joinedFacts
  rw [factLaid, factMaps, factInPlace, factUnfollowed, factRecurses, factNamed, factKeys, factEnter, factHeard]
  kernel_rfl

theorem over : Rows.autoHoldsRow.holds Tryz.pinned (OpenSpec.ofChange Rows.autoHoldsSpec) :=
  OpenClaim.holds_of_wide 3 Tryz.f3 rfl rfl rfl rfl rfl rfl rfl ⟨rfl, rfl, rfl, rfl, rfl⟩ rfl rfl rfl rfl rfl factFunc Tryz.func3 joined
    (of_decide_eq_true (by kernel_rfl)) (by unfold Func.isWrapper; first | (rw [if_pos (by decide +kernel)]; kernel_rfl) | (rw [if_neg (by decide +kernel)]; exact ⟨rfl, rfl⟩))
    (fun os started H enc _ => lifted os started H enc)

end Go.Proofs.YthpfbljbifcaoaaGreatDoor
