/- AutoHolds: no id is leased to two, nor one that is retired, whatever follows; a state that was taken stays as it was: the law returns true at whatever acts; and its card, tied to the program's text. Conditions: none but that the listed variables hold what the card ties them to. -/
import Derived.Test.YthpfbljbifcaoaaGreatDoorRows
import Derived.Test.YthpfbljbifcaoaaGreatDoorLa
import Derived.ProofKit
import Derived.OpenShut
import Derived.ShutString
import Derived.ChangeOld
import Derived.LaidMore
import Derived.Lay
import Derived.Test.YthpfbljbifcaoaaGreatDoorTie
import Derived.Test.YthpfbljbifcaoaaGreatDoorCards
import Derived.Test.YthpfbljbifcaoaaGreatDoorCh
import Derived.SevenTiedAt
import Derived.Stop.Joined
import Derived.Test.YthpfbljbifcaoaaGreatDoorPb
namespace Go.Proofs.YthpfbljbifcaoaaGreatDoor
open Go.ChangeShapes Go.WideShapes Go.ChangeAt Go.RowKit Go.Eng

theorem proved : Rows.AutoHoldsCardSaid :=
  Claim7.holds_tied_plain_at .later [] [.data, .data, .data, .data, .pinned, .pinned] true (true, "0597ddc7317ddd6a50afc9bf4ef53ad9760a936298661fa817ed1746825497f4") true
    over (fun _ h => by cases h) (by kernel_rfl) (fun _ h => by cases h) autoHolds_row_tie rfl ⟨rfl, rfl⟩ (by kernel_rfl) rfl
    (fun f fn hf hfn => by
      obtain rfl : f = 3 := Option.some.inj (factFunc.symm.trans hf) |>.symm
      obtain rfl : fn = Tryz.f3 := (Option.some.inj (Tryz.func3.symm.trans hfn)).symm
      exact ⟨by kernel_rfl, fun j t ht => by
        rw [Tryz.params3] at ht
        have hm : t ∈ [22] := by simpa using Array.mem_of_getElem? ht
        have hall : ([22].all fun u => !Tryz.prog.wantsStandIn u) = true := by kernel_rfl
        exact (show Tryz.prog.wantsStandIn t = false by simpa using List.all_eq_true.1 hall t hm)⟩)
    (goes_free factGoes rfl)
end Go.Proofs.YthpfbljbifcaoaaGreatDoor
