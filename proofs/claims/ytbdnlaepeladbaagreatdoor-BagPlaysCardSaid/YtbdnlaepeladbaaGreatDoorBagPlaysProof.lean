/- BagPlays: whatever comes, goes on, and is listed, each is answered, and all that there is is, what the document says: the law returns true at whatever acts; and its card, tied to the program's text. Conditions: none but that the listed variables hold what the card ties them to. -/
import Derived.Test.YtbdnlaepeladbaaGreatDoorRows
import Derived.Test.YtbdnlaepeladbaaGreatDoorBgI
import Derived.ProofKit
import Derived.OpenShut
import Derived.ShutString
import Derived.ChangeOld
import Derived.LaidMore
import Derived.Lay
import Derived.Test.YtbdnlaepeladbaaGreatDoorTie
import Derived.Test.YtbdnlaepeladbaaGreatDoorCards
import Derived.Test.YtbdnlaepeladbaaGreatDoorCh
import Derived.SevenTiedAt
import Derived.Stop.Joined
import Derived.Test.YtbdnlaepeladbaaGreatDoorBb
namespace Go.Proofs.YtbdnlaepeladbaaGreatDoor
open Go.ChangeShapes Go.WideShapes Go.ChangeAt Go.RowKit Go.Eng

theorem proved : Rows.BagPlaysCardSaid :=
  Claim7.holds_tied_plain_at .later [] [.data, .data, .data, .data, .pinned, .pinned] true (true, "a0f0f0f0bd1e98f9c9b7dbc8af6be97106c234d2c617a309dfbb756e9d89444b") true
    over (fun _ h => by cases h) (by kernel_rfl) (fun _ h => by cases h) bagPlays_row_tie rfl ⟨rfl, rfl⟩ (by kernel_rfl) rfl
    (fun f fn hf hfn => by
      obtain rfl : f = 5 := Option.some.inj (factFunc.symm.trans hf) |>.symm
      obtain rfl : fn = Tryz.f5 := (Option.some.inj (Tryz.func5.symm.trans hfn)).symm
      exact ⟨by kernel_rfl, fun j t ht => by
        rw [Tryz.params5] at ht
        have hm : t ∈ [56] := by simpa using Array.mem_of_getElem? ht
        have hall : ([56].all fun u => !Tryz.prog.wantsStandIn u) = true := by kernel_rfl
        exact (show Tryz.prog.wantsStandIn t = false by simpa using List.all_eq_true.1 hall t hm)⟩)
    (goes_free factGoes rfl)
end Go.Proofs.YtbdnlaepeladbaaGreatDoor
