/- LeasePlays: what the row's cells say of the program is so. Conditions: none. -/
import Derived.Test.YtbdnlaepeladbaaGreatDoorRows
import Derived.JoinedOf
import Derived.SevenTiedAt
namespace Go.Proofs.YtbdnlaepeladbaaGreatDoor

theorem factRecurses : (Rows.leasePlaysRow.recurses == Tryz.prog.recurses 4) = true := by kernel_rfl
theorem factNamed : (Rows.leasePlaysRow.named == Tryz.prog.varsNamed 4) = true := by kernel_rfl
end Go.Proofs.YtbdnlaepeladbaaGreatDoor
