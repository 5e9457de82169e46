/- PoolNone: what the row's cells say of the program is so. Conditions: none. -/
import Derived.Test.YtajifamejcfbhaaGreatDoorRows
import Derived.JoinedOf
import Derived.SevenTiedAt
namespace Go.Proofs.YtajifamejcfbhaaGreatDoor

theorem factRecurses : (Rows.poolNoneRow.recurses == Tryz.prog.recurses 3) = true := by kernel_rfl
theorem factNamed : (Rows.poolNoneRow.named == Tryz.prog.varsNamed 3) = true := by kernel_rfl
end Go.Proofs.YtajifamejcfbhaaGreatDoor
