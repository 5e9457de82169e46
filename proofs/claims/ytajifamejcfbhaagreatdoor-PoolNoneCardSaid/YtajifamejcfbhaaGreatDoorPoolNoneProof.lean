/- PoolNone: of a nil pool nothing is told: the law returns true; and its card, tied to the program's text. Conditions: none but that the listed variables hold what the card ties them to. -/
import Derived.Test.YtajifamejcfbhaaGreatDoorRows
import Derived.ProofKit
import Derived.OpenShut
import Derived.LaidMore
import Derived.Lay
import Derived.Test.YtajifamejcfbhaaGreatDoorTie
import Derived.Test.YtajifamejcfbhaaGreatDoorCards
import Derived.Test.YtajifamejcfbhaaGreatDoorCh
import Derived.SevenTiedAt
import Derived.Stop.Joined
import Derived.Test.YtajifamejcfbhaaGreatDoorPb
namespace Go.Proofs.YtajifamejcfbhaaGreatDoor
open Go.ChangeShapes Go.WideShapes Go.ChangeAt Go.RowKit Go.Eng

theorem proved : Rows.PoolNoneCardSaid :=
  Claim7.holds_tied_plain_at .later [] [.data, .data, .data, .data, .pinned, .pinned] true (true, "75e7ce4ccc21a251f15dd5234c0d93f51755cbf1824fd8f326999a67294029be") true
    over (fun _ h => by cases h) (by kernel_rfl) (fun _ h => by cases h) poolNone_row_tie rfl ⟨rfl, rfl⟩ (by kernel_rfl) rfl
    (fun f fn hf hfn => by
      obtain rfl : f = 3 := Option.some.inj (factFunc.symm.trans hf) |>.symm
      obtain rfl : fn = Tryz.f3 := (Option.some.inj (Tryz.func3.symm.trans hfn)).symm
      exact ⟨by kernel_rfl, fun j t ht => by rw [Tryz.params3] at ht; simp at ht⟩)
    (goes_free factGoes rfl)
end Go.Proofs.YtajifamejcfbhaaGreatDoor
