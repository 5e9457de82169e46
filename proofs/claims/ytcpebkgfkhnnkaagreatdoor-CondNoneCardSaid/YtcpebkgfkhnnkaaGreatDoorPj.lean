/- CondNone: what the row's cells say of the program is so. Conditions: none. -/
import Derived.Test.YtcpebkgfkhnnkaaGreatDoorRows
import Derived.JoinedOf
import Derived.SevenTiedAt
namespace Go.Proofs.YtcpebkgfkhnnkaaGreatDoor

theorem factInPlace : (Rows.condNoneRow.inPlace == Tryz.prog.inPlace 3) = true := by kernel_rfl
theorem factUnfollowed : (Rows.condNoneRow.unfollowed == Tryz.prog.unfollowed 3) = true := by kernel_rfl
end Go.Proofs.YtcpebkgfkhnnkaaGreatDoor
