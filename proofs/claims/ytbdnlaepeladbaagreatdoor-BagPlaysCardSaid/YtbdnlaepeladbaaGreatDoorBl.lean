/- BagPlays: what the row's cells say of the program is so. Conditions: none. -/
import Derived.Test.YtbdnlaepeladbaaGreatDoorRows
import Derived.JoinedOf
import Derived.SevenTiedAt
namespace Go.Proofs.YtbdnlaepeladbaaGreatDoor

/-- Where no body starts anything, no call does. -/
theorem goes_free {P : Program} {c : OpenClaim} (h : P.funcs.any Func.goes = false) (hs : c.start = .entering) : false = c.goesBy P := by
  have all : ∀ f, P.goes f = false := by
    intro f
    have h1 : ((P.closure f).any fun g => (P.funcs[g]?).any Func.goes) = false := by
      rw [List.any_eq_false]
      intro g _
      cases hg : P.funcs[g]? with
      | none => simp
      | some fn =>
        rw [Array.any_eq_false'] at h
        simpa using h fn (Array.mem_of_getElem? hg)
    unfold Program.goes
    rw [h1, h]
    simp
  unfold OpenClaim.goesBy Program.goesAt Program.goesFrom
  rw [hs]
  cases P.funcNamed c.func with
  | none => rfl
  | some f => simp [all f]

theorem factLaid : laidOutB Tryz.prog = true := by kernel_rfl
theorem factMaps : mapsRowed Tryz.prog = true := by kernel_rfl
theorem factKeys : (Rows.bagPlaysRow.plainKeys == Tryz.prog.plainKeys) = true := by kernel_rfl
theorem factGoes : Tryz.prog.funcs.any Func.goes = false := by kernel_rfl
theorem factFunc : Tryz.prog.funcNamed "hackney/hackneylaw15.BagPlays" = some 5 := by kernel_rfl
theorem factEnter : Tryz.prog.mayEnter = true := by kernel_rfl
theorem factHeard : Tryz.prog.stopsHeard = true := by kernel_rfl
end Go.Proofs.YtbdnlaepeladbaaGreatDoor
