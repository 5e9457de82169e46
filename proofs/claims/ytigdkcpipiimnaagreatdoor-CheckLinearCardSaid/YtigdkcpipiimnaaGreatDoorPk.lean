/- CheckLinear: what the row's cells say of the program is so. Conditions: none. -/
import Derived.Test.YtigdkcpipiimnaaGreatDoorRows
import Derived.JoinedOf
import Derived.SevenTiedAt
namespace Go.Proofs.YtigdkcpipiimnaaGreatDoor

theorem factRecurses : (Rows.checkLinearRow.recurses == Tryz.prog.recurses 3) = true := by kernel_rfl
theorem factNamed : (Rows.checkLinearRow.named == Tryz.prog.varsNamed 3) = true := by kernel_rfl
end Go.Proofs.YtigdkcpipiimnaaGreatDoor
