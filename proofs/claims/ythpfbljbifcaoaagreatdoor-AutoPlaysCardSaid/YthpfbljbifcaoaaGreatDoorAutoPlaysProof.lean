/- AutoPlays: behind any points and retirements each is answered, and all that is told is, what the document says: the law returns true at whatever acts; and its card, tied to the program's text. Conditions: none but that the listed variables hold what the card ties them to. -/
import Derived.Test.YthpfbljbifcaoaaGreatDoorRows
import Derived.Test.YthpfbljbifcaoaaGreatDoorLp
import Derived.ProofKit
import Derived.OpenShut
import Derived.ShutString
import Derived.ChangeOld
import Derived.LaidMore
import Derived.Lay
import Derived.Test.YthpfbljbifcaoaaGreatDoorTie
import Derived.Test.YthpfbljbifcaoaaGreatDoorCards
import Derived.Test.YthpfbljbifcaoaaGreatDoorChP
import Derived.SevenTiedAt
import Derived.Stop.Joined
import Derived.Test.YthpfbljbifcaoaaGreatDoorQb
namespace Go.Proofs.YthpfbljbifcaoaaGreatDoor
open Go.ChangeShapes Go.WideShapes Go.ChangeAt Go.RowKit Go.Eng

theorem proved : Rows.AutoPlaysCardSaid :=
  Claim7.holds_tied_plain_at .later [] [.data, .data, .data, .data, .pinned, .pinned] true (true, "0597ddc7317ddd6a50afc9bf4ef53ad9760a936298661fa817ed1746825497f4") true
    over (fun _ h => by cases h) (by kernel_rfl) (fun _ h => by cases h) autoPlays_row_tie rfl ⟨rfl, rfl⟩ (by kernel_rfl) rfl
    (fun f fn hf hfn => by
      obtain rfl : f = 4 := Option.some.inj (factFunc.symm.trans hf) |>.symm
      obtain rfl : fn = Tryz.f4 := (Option.some.inj (Tryz.func4.symm.trans hfn)).symm
      exact ⟨by kernel_rfl, fun j t ht => by
        rw [Tryz.params4] at ht
        have hm : t ∈ [22] := by simpa using Array.mem_of_getElem? ht
        have hall : ([22].all fun u => !Tryz.prog.wantsStandIn u) = true := by kernel_rfl
        exact (show Tryz.prog.wantsStandIn t = false by simpa using List.all_eq_true.1 hall t hm)⟩)
    (goes_free factGoes rfl)
end Go.Proofs.YthpfbljbifcaoaaGreatDoor
