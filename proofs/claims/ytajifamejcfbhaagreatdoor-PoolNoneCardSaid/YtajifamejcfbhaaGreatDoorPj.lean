/- PoolNone: what the row's cells say of the program is so. Conditions: none. -/
import Derived.Test.YtajifamejcfbhaaGreatDoorRows
import Derived.JoinedOf
import Derived.SevenTiedAt
namespace Go.Proofs.YtajifamejcfbhaaGreatDoor

theorem factInPlace : (Rows.poolNoneRow.inPlace == Tryz.prog.inPlace 3) = true := by kernel_rfl
theorem factUnfollowed : (Rows.poolNoneRow.unfollowed == Tryz.prog.unfollowed 3) = true := by kernel_rfl
end Go.Proofs.YtajifamejcfbhaaGreatDoor
