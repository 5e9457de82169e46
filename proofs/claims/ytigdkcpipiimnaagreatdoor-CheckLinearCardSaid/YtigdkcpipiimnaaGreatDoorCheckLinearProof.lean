/- CheckLinear: a history that is in order is linear: its points, run one behind the other, may follow; each answered call has just one, between call and answer; each beginning of it is in order: the law returns true at whatever events and cut; and its card, tied to the program's text. Conditions: none but that the listed variables hold what the card ties them to. -/
import Derived.Test.YtigdkcpipiimnaaGreatDoorRows
import Derived.Test.YtigdkcpipiimnaaGreatDoorLa
import Derived.ProofKit
import Derived.OpenShut
import Derived.ShutString
import Derived.ChangeOld
import Derived.LaidMore
import Derived.Lay
import Derived.Test.YtigdkcpipiimnaaGreatDoorTie
import Derived.Test.YtigdkcpipiimnaaGreatDoorCards
import Derived.Test.YtigdkcpipiimnaaGreatDoorCh
import Derived.SevenTiedAt
import Derived.Stop.Joined
import Derived.Test.YtigdkcpipiimnaaGreatDoorPb
namespace Go.Proofs.YtigdkcpipiimnaaGreatDoor
open Go.ChangeShapes Go.WideShapes Go.ChangeAt Go.RowKit Go.Eng

theorem proved : Rows.CheckLinearCardSaid :=
  Claim7.holds_tied_plain_at .later [] [.data, .data, .data, .data, .pinned, .pinned] true (true, "b08ef462ad7c54f2f29d5e1a90d16ae6966cf9f3fb499b3458bf884778510c01") true
    over (fun _ h => by cases h) (by kernel_rfl) (fun _ h => by cases h) checkLinear_row_tie rfl ⟨rfl, rfl⟩ (by kernel_rfl) rfl
    (fun f fn hf hfn => by
      obtain rfl : f = 3 := Option.some.inj (factFunc.symm.trans hf) |>.symm
      obtain rfl : fn = Tryz.f3 := (Option.some.inj (Tryz.func3.symm.trans hfn)).symm
      exact ⟨by kernel_rfl, fun j t ht => by
        rw [Tryz.params3] at ht
        have hm : t ∈ [22, 5] := by simpa using Array.mem_of_getElem? ht
        have hall : ([22, 5].all fun u => !Tryz.prog.wantsStandIn u) = true := by kernel_rfl
        exact (show Tryz.prog.wantsStandIn t = false by simpa using List.all_eq_true.1 hall t hm)⟩)
    (goes_free factGoes rfl)
end Go.Proofs.YtigdkcpipiimnaaGreatDoor
