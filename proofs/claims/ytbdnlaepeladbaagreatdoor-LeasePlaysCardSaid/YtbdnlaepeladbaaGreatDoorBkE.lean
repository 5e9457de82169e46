/- What the two sorts do with a slice of words of one's own. Conditions: how the slice lies in memory. -/
import Derived.Test.YtbdnlaepeladbaaGreatDoorBkD
import Derived.Test.YtbdnlaepeladbaaGreatDoorMq
import Derived.Test.YtbdnlaepeladbaaGreatDoorNu
import Derived.Test.YtbdnlaepeladbaaGreatDoorShelfP
import Derived.Test.YtbdnlaepeladbaaGreatDoorMo
import Derived.Test.YtbdnlaepeladbaaGreatDoorSuB
import Derived.Shelf.SlSortCmp.NoneTotal
namespace Go.Proofs.YtbdnlaepeladbaaGreatDoor
open Go.ChangeShapes Go.WideShapes Go.ChangeAt Go.RowKit Go.Eng



theorem appLs : AppLs := fun _ _ _ _ hc hm hk hw hl =>
  (appendSeq_map (P := Tryz.prog) (V := leV) (e := ⟨230, 203, .u64, 22⟩) ⟨rk203, ra, lk203, la, rfl, rfl, rfl⟩ hc hm hk hw hl).mono fun _ _ ⟨v, ss, h1, h2, h3, _, h5⟩ => ⟨v, ss, h1, h2, h3, h5⟩

theorem appTm : AppTm := fun _ _ _ _ hc hm hk hw hl =>
  (appendSeq_map (P := Tryz.prog) (V := uV) (e := ⟨230, 228, .u64, 22⟩) ⟨rk228, ra, lk228, la, rfl, rfl, rfl⟩ hc hm hk hw hl).mono fun _ _ ⟨v, ss, h1, h2, h3, _, h5⟩ => ⟨v, ss, h1, h2, h3, h5⟩

end Go.Proofs.YtbdnlaepeladbaaGreatDoor

namespace Go.Proofs.YtbdnlaepeladbaaGreatDoor
open Go.ChangeShapes Go.WideShapes Go.ChangeAt Go.RowKit Go.Eng Go.Sort

theorem sortU_calls (blk off cap : Nat) (zs : List Int) (w : World) (hH : Holds (Value.int .u64) w blk off zs.toArray) (hblk : blk < w.heap.size) (hsz : zs.length < 4611686018427387904) :
    Calls Tryz.prog 202 #[.slice (some ⟨blk, off, none⟩) zs.length cap] w fun e w' =>
      e = .returned (.tuple #[]) ∧ ∃ n os, w' = grow (putRow (Value.int .u64) (Sort.ahead w n) blk off (zs.mergeSort fun x y => decide (x ≤ y)).toArray) os :=
  calls_of_every_depth fun D => SuU.AnyU.slices_Sort_int_in Tryz.sortUL D blk off cap zs w hH hblk hsz

theorem sortOwn : SortOwn := by
  intro w base v zs hown hl
  rcases hown.2 with ⟨rfl, h0⟩ | ⟨g, cap, cur, rfl, hbase, hb, h1, h2, h3, h4⟩
  · obtain rfl : zs = [] := List.eq_nil_of_length_eq_zero h0
    refine (SuU.AnyG.slices_Sort_int_noneU Tryz.sortUL none 0 w).mono ?_
    rintro e w' ⟨rfl, rfl⟩
    exact ⟨rfl, [], .refl _, .nil, hown, Below.refl ..⟩
  · have hg : g < w.heap.size := (Array.getElem?_eq_some_iff.1 hb).1
    refine (sortU_calls g 0 cap zs w (holds_of_blockU hb (by simpa using h4)) hg (by omega)).mono ?_
    rintro e w' ⟨rfl, n, os, rfl⟩
    have hp := List.mergeSort_perm zs fun x y => decide (x ≤ y)
    refine ⟨rfl, _, hp, ?_, ?_, grown_ownU (by omega) hown (grownBy_sortedU _)⟩
    · exact (List.pairwise_mergeSort (fun a b c h1 h2 => by simp only [decide_eq_true_eq] at *; omega) (fun a b => by simp only [Bool.or_eq_true, decide_eq_true_eq]; omega) zs).imp (by simp)
    rw [hp.length_eq]
    exact ownsRow_sortedU hp.length_eq hbase hb h1 h2 h3

end Go.Proofs.YtbdnlaepeladbaaGreatDoor

namespace Go.Proofs.YtbdnlaepeladbaaGreatDoor
open Go.ChangeShapes Go.WideShapes Go.ChangeAt Go.RowKit Go.Eng Go.Sort

theorem key_swo (tm : List (Int × Int)) : SWO (ltOf (keyCmp tm)) where
  irrefl x := by simpa [ltOf] using key_irrefl tm x
  trans x y z h1 h2 := by
    simp only [ltOf, decide_eq_true_eq] at *
    exact key_trans tm x y z h1 h2
  ntrans x y z h1 h2 := by
    simp only [ltOf, decide_eq_false_iff_not] at *
    exact key_ntrans tm x y z h1 h2

theorem sorted_keys (tm : List (Int × Int)) (zs : List Int) : (zs.mergeSort fun x y => !(ltOf (keyCmp tm)) y x).Pairwise (KeyLe tm) := by
  refine (List.pairwise_mergeSort ?_ ?_ zs).imp ?_
  · intro a b c h1 h2
    simp only [ltOf, Bool.not_eq_true', decide_eq_false_iff_not] at *
    exact key_ntrans tm c b a h2 h1
  · intro a b
    simp only [ltOf, Bool.or_eq_true, Bool.not_eq_true', decide_eq_false_iff_not]
    by_cases h : keyCmp tm b a < 0
    · exact .inr fun h2 => key_irrefl tm b (key_trans tm b a b h h2)
    · exact .inl h
  · intro a b h
    simp only [ltOf, Bool.not_eq_true', decide_eq_false_iff_not] at h
    exact key_le tm a b h

theorem sortFuncOwn : SortFuncOwn := by
  intro w base c wl mt tm v zs hc hwh hcb hwb hmb hown hl _
  rcases hown.2 with ⟨rfl, h0⟩ | ⟨g, cap, cur, rfl, hbase, hb, h1, h2, h3, h4⟩
  · obtain rfl : zs = [] := List.eq_nil_of_length_eq_zero h0
    refine (AnyF.slices_SortFunc_none { Tryz.sortFL with } none 0 _ w).mono ?_
    rintro e w' ⟨rfl, rfl⟩
    exact ⟨rfl, [], .refl _, .nil, hown, Below.refl ..⟩
  · have hg : g < w.heap.size := (Array.getElem?_eq_some_iff.1 hb).1
    refine (Any.slices_SortFunc_total Tryz.sortFL (Value.int .u64) (fun _ => rfl) (keyCmp tm) (key_swo tm) 198 #[.pointer (some ⟨c, 0, none⟩)] g 0 cap zs.toArray w (enters_of Tryz.func198 (by kernel_rfl) rfl) ?_ (holds_of_blockU hb (by simpa using h4)) hg (by simp; omega) ?_).mono ?_
    · intro m os dk _ x y
      have bw : Below base w (sortWorld (Value.int .u64) w g 0 m dk os) := grown_ownU (by omega) hown (grownBy_sortedU _)
      have hc2 : (sortWorld (Value.int .u64) w g 0 m dk os).cell? ⟨c, 0, none⟩ = some (.pointer (some ⟨wl, 0, none⟩)) := by
        rw [← hc]
        simp only [World.cell?]
        rw [bw.block c hcb]
      exact keys1_calls hc2 (hwh.belowB bw hwb hmb) x y
    · intro x y hx hy
      simp only [ltOf, decide_eq_false_iff_not] at hx hy
      exact key_total tm x y hx hy
    rintro e w' ⟨rfl, n, os, rfl⟩
    have hp := List.mergeSort_perm zs fun x y => !(ltOf (keyCmp tm)) y x
    refine ⟨rfl, _, hp, sorted_keys tm zs, ?_, grown_ownU (by omega) hown (grownBy_sortedU _)⟩
    rw [hp.length_eq]
    exact ownsRow_sortedU hp.length_eq hbase hb h1 h2 h3

end Go.Proofs.YtbdnlaepeladbaaGreatDoor
