/- LeasePlays: whatever is leased and given back, marked and flagged, each is answered, and all that is told is, what the document says: the law returns true at whatever acts; and its card, tied to the program's text. Conditions: none but that the listed variables hold what the card ties them to. -/
import Derived.Test.YtbdnlaepeladbaaGreatDoorRows
import Derived.Test.YtbdnlaepeladbaaGreatDoorPlG
import Derived.ProofKit
import Derived.OpenShut
import Derived.ShutString
import Derived.ChangeOld
import Derived.LaidMore
import Derived.Lay
import Derived.Test.YtbdnlaepeladbaaGreatDoorTie
import Derived.Test.YtbdnlaepeladbaaGreatDoorCards
import Derived.Test.YtbdnlaepeladbaaGreatDoorChP
import Derived.SevenTiedAt
import Derived.Stop.Joined
import Derived.Test.YtbdnlaepeladbaaGreatDoorQb
namespace Go.Proofs.YtbdnlaepeladbaaGreatDoor
open Go.ChangeShapes Go.WideShapes Go.ChangeAt Go.RowKit Go.Eng

theorem proved : Rows.LeasePlaysCardSaid :=
  Claim7.holds_tied_plain_at .later [] [.data, .data, .data, .data, .pinned, .pinned] true (true, "a0f0f0f0bd1e98f9c9b7dbc8af6be97106c234d2c617a309dfbb756e9d89444b") true
    over (fun _ h => by cases h) (by kernel_rfl) (fun _ h => by cases h) leasePlays_row_tie rfl ⟨rfl, rfl⟩ (by kernel_rfl) rfl
    (fun f fn hf hfn => by
      obtain rfl : f = 4 := Option.some.inj (factFunc.symm.trans hf) |>.symm
      obtain rfl : fn = Tryz.f4 := (Option.some.inj (Tryz.func4.symm.trans hfn)).symm
      exact ⟨by kernel_rfl, fun j t ht => by
        rw [Tryz.params4] at ht
        have hm : t ∈ [22, 23] := by simpa using Array.mem_of_getElem? ht
        have hall : ([22, 23].all fun u => !Tryz.prog.wantsStandIn u) = true := by kernel_rfl
        exact (show Tryz.prog.wantsStandIn t = false by simpa using List.all_eq_true.1 hall t hm)⟩)
    (goes_free factGoes rfl)
end Go.Proofs.YtbdnlaepeladbaaGreatDoor
