/- CondNone: of a nil pool nothing is anywhere: the law returns true; and its card, tied to the program's text. Conditions: none but that the listed variables hold what the card ties them to. -/
import Derived.Test.YtcpebkgfkhnnkaaGreatDoorRows
import Derived.ProofKit
import Derived.OpenShut
import Derived.LaidMore
import Derived.Lay
import Derived.Test.YtcpebkgfkhnnkaaGreatDoorTie
import Derived.Test.YtcpebkgfkhnnkaaGreatDoorCards
import Derived.Test.YtcpebkgfkhnnkaaGreatDoorCh
import Derived.SevenTiedAt
import Derived.Stop.Joined
import Derived.Test.YtcpebkgfkhnnkaaGreatDoorPb
namespace Go.Proofs.YtcpebkgfkhnnkaaGreatDoor
open Go.ChangeShapes Go.WideShapes Go.ChangeAt Go.RowKit Go.Eng

theorem proved : Rows.CondNoneCardSaid :=
  Claim7.holds_tied_plain_at .later [] [.data, .data, .data, .data, .pinned, .pinned] true (true, "ec77a65365107fa8e0cc8aa9899e207347be74c6de9fa88dfc19c3da7b526809") true
    over (fun _ h => by cases h) (by kernel_rfl) (fun _ h => by cases h) condNone_row_tie rfl ⟨rfl, rfl⟩ (by kernel_rfl) rfl
    (fun f fn hf hfn => by
      obtain rfl : f = 3 := Option.some.inj (factFunc.symm.trans hf) |>.symm
      obtain rfl : fn = Tryz.f3 := (Option.some.inj (Tryz.func3.symm.trans hfn)).symm
      exact ⟨by kernel_rfl, fun j t ht => by rw [Tryz.params3] at ht; simp at ht⟩)
    (goes_free factGoes rfl)
end Go.Proofs.YtcpebkgfkhnnkaaGreatDoor
