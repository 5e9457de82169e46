/- AutoPlays: what the row's cells say of the program is so. Conditions: none. -/
import Derived.Test.YthpfbljbifcaoaaGreatDoorRows
import Derived.JoinedOf
import Derived.SevenTiedAt
namespace Go.Proofs.YthpfbljbifcaoaaGreatDoor

theorem factRecurses : (Rows.autoPlaysRow.recurses == Tryz.prog.recurses 4) = true := by kernel_rfl
theorem factNamed : (Rows.autoPlaysRow.named == Tryz.prog.varsNamed 4) = true := by kernel_rfl
end Go.Proofs.YthpfbljbifcaoaaGreatDoor
