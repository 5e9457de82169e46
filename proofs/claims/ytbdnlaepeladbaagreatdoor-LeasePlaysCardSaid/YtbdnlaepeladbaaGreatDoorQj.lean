/- LeasePlays: what the row's cells say of the program is so. Conditions: none. -/
import Derived.Test.YtbdnlaepeladbaaGreatDoorRows
import Derived.JoinedOf
import Derived.SevenTiedAt
namespace Go.Proofs.YtbdnlaepeladbaaGreatDoor

theorem factInPlace : (Rows.leasePlaysRow.inPlace == Tryz.prog.inPlace 4) = true := by kernel_rfl
theorem factUnfollowed : (Rows.leasePlaysRow.unfollowed == Tryz.prog.unfollowed 4) = true := by kernel_rfl
end Go.Proofs.YtbdnlaepeladbaaGreatDoor
