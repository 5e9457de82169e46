/- BagPlays: what the row's cells say of the program is so. Conditions: none. -/
import Derived.Test.YtbdnlaepeladbaaGreatDoorRows
import Derived.JoinedOf
import Derived.SevenTiedAt
namespace Go.Proofs.YtbdnlaepeladbaaGreatDoor

theorem factInPlace : (Rows.bagPlaysRow.inPlace == Tryz.prog.inPlace 5) = true := by kernel_rfl
theorem factUnfollowed : (Rows.bagPlaysRow.unfollowed == Tryz.prog.unfollowed 5) = true := by kernel_rfl
end Go.Proofs.YtbdnlaepeladbaaGreatDoor
