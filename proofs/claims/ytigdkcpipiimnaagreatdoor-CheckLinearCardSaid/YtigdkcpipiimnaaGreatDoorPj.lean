/- CheckLinear: what the row's cells say of the program is so. Conditions: none. -/
import Derived.Test.YtigdkcpipiimnaaGreatDoorRows
import Derived.JoinedOf
import Derived.SevenTiedAt
namespace Go.Proofs.YtigdkcpipiimnaaGreatDoor

theorem factInPlace : (Rows.checkLinearRow.inPlace == Tryz.prog.inPlace 3) = true := by kernel_rfl
theorem factUnfollowed : (Rows.checkLinearRow.unfollowed == Tryz.prog.unfollowed 3) = true := by kernel_rfl
end Go.Proofs.YtigdkcpipiimnaaGreatDoor
