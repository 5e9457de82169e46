/- CondNone: what the row's cells say of the program is so. Conditions: none. -/
import Derived.Test.YtcpebkgfkhnnkaaGreatDoorRows
import Derived.JoinedOf
import Derived.SevenTiedAt
namespace Go.Proofs.YtcpebkgfkhnnkaaGreatDoor

theorem factRecurses : (Rows.condNoneRow.recurses == Tryz.prog.recurses 3) = true := by kernel_rfl
theorem factNamed : (Rows.condNoneRow.named == Tryz.prog.varsNamed 3) = true := by kernel_rfl
end Go.Proofs.YtcpebkgfkhnnkaaGreatDoor
