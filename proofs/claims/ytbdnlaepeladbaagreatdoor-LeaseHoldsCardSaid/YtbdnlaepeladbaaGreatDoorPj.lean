/- LeaseHolds: what the row's cells say of the program is so. Conditions: none. -/
import Derived.Test.YtbdnlaepeladbaaGreatDoorRows
import Derived.JoinedOf
import Derived.SevenTiedAt
namespace Go.Proofs.YtbdnlaepeladbaaGreatDoor

theorem factInPlace : (Rows.leaseHoldsRow.inPlace == Tryz.prog.inPlace 3) = true := by kernel_rfl
theorem factUnfollowed : (Rows.leaseHoldsRow.unfollowed == Tryz.prog.unfollowed 3) = true := by kernel_rfl
end Go.Proofs.YtbdnlaepeladbaaGreatDoor
