/- BagPlays: what the row's cells say of the program is so. Conditions: none. -/
import Derived.Test.YtbdnlaepeladbaaGreatDoorRows
import Derived.JoinedOf
import Derived.SevenTiedAt
namespace Go.Proofs.YtbdnlaepeladbaaGreatDoor

theorem factRecurses : (Rows.bagPlaysRow.recurses == Tryz.prog.recurses 5) = true := by kernel_rfl
theorem factNamed : (Rows.bagPlaysRow.named == Tryz.prog.varsNamed 5) = true := by kernel_rfl
end Go.Proofs.YtbdnlaepeladbaaGreatDoor
