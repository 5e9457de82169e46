/- AutoPlays: what the row's cells say of the program is so. Conditions: none. -/
import Derived.Test.YthpfbljbifcaoaaGreatDoorRows
import Derived.JoinedOf
import Derived.SevenTiedAt
namespace Go.Proofs.YthpfbljbifcaoaaGreatDoor

theorem factInPlace : (Rows.autoPlaysRow.inPlace == Tryz.prog.inPlace 4) = true := by kernel_rfl
theorem factUnfollowed : (Rows.autoPlaysRow.unfollowed == Tryz.prog.unfollowed 4) = true := by kernel_rfl
end Go.Proofs.YthpfbljbifcaoaaGreatDoor
