/- AutoHolds: what the row's cells say of the program is so. Conditions: none. -/
import Derived.Test.YthpfbljbifcaoaaGreatDoorRows
import Derived.JoinedOf
import Derived.SevenTiedAt
namespace Go.Proofs.YthpfbljbifcaoaaGreatDoor

theorem factRecurses : (Rows.autoHoldsRow.recurses == Tryz.prog.recurses 3) = true := by kernel_rfl
theorem factNamed : (Rows.autoHoldsRow.named == Tryz.prog.varsNamed 3) = true := by kernel_rfl
end Go.Proofs.YthpfbljbifcaoaaGreatDoor
