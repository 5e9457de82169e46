/- AutoHolds: what the row's cells say of the program is so. Conditions: none. -/
import Derived.Test.YthpfbljbifcaoaaGreatDoorRows
import Derived.JoinedOf
import Derived.SevenTiedAt
namespace Go.Proofs.YthpfbljbifcaoaaGreatDoor

theorem factInPlace : (Rows.autoHoldsRow.inPlace == Tryz.prog.inPlace 3) = true := by kernel_rfl
theorem factUnfollowed : (Rows.autoHoldsRow.unfollowed == Tryz.prog.unfollowed 3) = true := by kernel_rfl
end Go.Proofs.YthpfbljbifcaoaaGreatDoor
