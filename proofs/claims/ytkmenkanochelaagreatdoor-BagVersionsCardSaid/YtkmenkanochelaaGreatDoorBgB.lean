/- What a bag's Entry, Swap and Enter hand back, and what they turn. Conditions: how the bag lies in memory. -/
import Derived.Test.YtkmenkanochelaaGreatDoorBgA
import Derived.RegionTactic
import Derived.StillTailTactics
import Derived.ChangeAlike
import Derived.BigRegion
import Derived.BigQuiet
import Derived.Deep.QuietTactic
import Derived.Deep.RegionWith
import Derived.Deep.RegionLaw
import Derived.Deep.RegionHeld3
import Derived.WalkSpells
import Derived.Laws.Pointers
namespace Go.Proofs.YtkmenkanochelaaGreatDoor
open Go.ChangeShapes Go.WideShapes Go.ChangeAt Go.RowKit Go.Eng

set_option maxHeartbeats 1000000 in
set_option maxRecDepth 1000000 in
theorem entry_some {w : World} {b m : Nat} {L : Value} {es : List (Int × Pl)} (h : BagAt w b m L es) (id : Int) {p : Pl} {n : Nat} (hid : aget id es = some p) (hn : WordAt w p.c n) :
    Calls Tryz.prog 9 #[.pointer (some ⟨b, 0, none⟩), .int .u64 id] w fun e w' => e = .returned (.tuple #[.agg #[.int .u64 id, .int .u64 n, .int .u64 p.born, .int .u64 p.since, .int .u64 p.proved], .bool true]) ∧ Below w.heap.size w w' := by
  obtain ⟨w1, hw1⟩ : ∃ w1, w1 = w.alloc (.cells #[.int .u64 0, .int .u64 0, .int .u64 0, .int .u64 0, .int .u64 0] 36) := ⟨_, rfl⟩
  have b1 : Below w.heap.size w w1 := by rw [hw1]; exact (Below.refl _ w).alloc (Nat.le_refl _) _
  have hg := get_calls (h.below b1 h.lt.1 h.lt.2) id
  have hn1 := hn.below b1 hn.lt
  rw [hid] at hg
  change Calls Tryz.prog 12 _ w1 fun e w' => e = .returned (.tuple #[.agg #[.pointer (some ⟨p.c, 0, none⟩), .int .u64 p.born, .int .u64 p.since, .int .u64 p.proved], .bool true]) ∧ Below w1.heap.size w1 w' at hg
  rw [hw1] at hg
  clear h hid
  go_enter Tryz.func9, Tryz.ntmps9
  go_wp2_with (go_at_call 12; with_reducible refine hg.mono ?_; rintro e w2 ⟨rfl, b2⟩)
  have hA : w.heap.size < w1.heap.size := by rw [hw1]; simp
  obtain ⟨w3, hw3⟩ : ∃ w3, w3 = w2.alloc (.cells #[.pointer (some ⟨p.c, 0, none⟩), .int .u64 p.born, .int .u64 p.since, .int .u64 p.proved] 49) := ⟨_, rfl⟩
  rw [← hw1] at b2
  have b3 : Below w1.heap.size w1 w3 := by rw [hw3]; exact b2.alloc b2.size _
  have hblk : w3.heap[w.heap.size]? = some (.cells #[.int .u64 0, .int .u64 0, .int .u64 0, .int .u64 0, .int .u64 0] 36) := by
    have e := (Go.MapKept.heap_alloc w (.cells #[.int .u64 0, .int .u64 0, .int .u64 0, .int .u64 0, .int .u64 0] 36)).1
    rw [← hw1] at e
    rw [b3.block _ hA, e]
  have hn3 := hn1.below b3 hn1.lt
  have hne : w.heap.size ≠ w2.heap.size := by have := b2.size; omega
  have p0 : w3.cell? ⟨w2.heap.size, 0, none⟩ = some (.pointer (some ⟨p.c, 0, none⟩)) := by rw [hw3]; simp
  have p1 : w3.cell? ⟨w2.heap.size, 1, none⟩ = some (.int .u64 p.born) := by rw [hw3]; simp
  have p2 : w3.cell? ⟨w2.heap.size, 2, none⟩ = some (.int .u64 p.since) := by rw [hw3]; simp
  have p3 : w3.cell? ⟨w2.heap.size, 3, none⟩ = some (.int .u64 p.proved) := by rw [hw3]; simp
  have k0 : w3.cell? ⟨w.heap.size, 0, none⟩ = some (.int .u64 0) := by simp [World.cell?, hblk]
  have k1 : w3.cell? ⟨w.heap.size, 1, none⟩ = some (.int .u64 0) := by simp [World.cell?, hblk]
  have k2 : w3.cell? ⟨w.heap.size, 2, none⟩ = some (.int .u64 0) := by simp [World.cell?, hblk]
  have k3 : w3.cell? ⟨w.heap.size, 3, none⟩ = some (.int .u64 0) := by simp [World.cell?, hblk]
  have k4 : w3.cell? ⟨w.heap.size, 4, none⟩ = some (.int .u64 0) := by simp [World.cell?, hblk]
  have f0 : w3.frozen? ⟨w.heap.size, 0, none⟩ = false := by simp [World.frozen?, hblk]
  have f1 : w3.frozen? ⟨w.heap.size, 1, none⟩ = false := by simp [World.frozen?, hblk]
  have f2 : w3.frozen? ⟨w.heap.size, 2, none⟩ = false := by simp [World.frozen?, hblk]
  have f3 : w3.frozen? ⟨w.heap.size, 3, none⟩ = false := by simp [World.frozen?, hblk]
  have f4 : w3.frozen? ⟨w.heap.size, 4, none⟩ = false := by simp [World.frozen?, hblk]
  have hcell := hn3.cell
  have b4 : Below w.heap.size w w3 := b1.trans (b3.mono b1.size)
  have b5 : w.heap.size ≤ w3.heap.size := b4.size
  rw [← hw3]
  clear hw3 hn3 hblk b3 b2 hA hn1 hg hn b1 hw1
  generalize hz : w2.heap.size = Z at hne p0 p1 p2 p3 ⊢
  generalize hy : w.heap.size = A at hne k0 k1 k2 k3 k4 f0 f1 f2 f3 f4 ⊢
  refine wp_region_still_tail 11 (by kernel_rfl) (by kernel_rfl) ?_
  simp only [List.take_succ_cons, List.take_zero, List.drop_succ_cons, List.drop_zero]
  still_step
  still_step
  still_step
  still_call (cell_load p.c n w3.drew hcell)
  still_step
  still_step
  still_step
  still_step
  still_step
  still_step
  still_step
  refine wpStill_nil ?_
  change wpList _ _ _ _ _ w3.drew
  go_wp2
  refine bodyPost_ret (v := .tuple #[.agg #[.int .u64 id, .int .u64 n, .int .u64 p.born, .int .u64 p.since, .int .u64 p.proved], .bool true]) (by simp [results, Tryz.results9, go_sem, k0, k1, k2, k3, k4]) rfl ⟨rfl, ?_⟩
  have hA' := Nat.le_of_eq hy
  exact (((((b4.setCell (p := ⟨A, 0, none⟩) hA' _).setCell (p := ⟨A, 1, none⟩) hA' _).setCell (p := ⟨A, 2, none⟩) hA' _).setCell (p := ⟨A, 3, none⟩) hA' _).setCell (p := ⟨A, 4, none⟩) hA' _).drew

end Go.Proofs.YtkmenkanochelaaGreatDoor

namespace Go.Proofs.YtkmenkanochelaaGreatDoor
open Go.ChangeShapes Go.WideShapes Go.ChangeAt Go.RowKit Go.Eng

/-- All that was there is as it was, but for the blocks that S names. -/
structure Upto (S : Nat → Prop) (w w' : World) : Prop where
  os : w'.os = w.os
  tape : w'.tape = w.tape
  output : w'.output = w.output
  size : w.heap.size ≤ w'.heap.size
  block : ∀ k, k < w.heap.size → ¬ S k → w'.heap[k]? = w.heap[k]?

theorem Upto.of_below {S : Nat → Prop} {w w' : World} (h : Below w.heap.size w w') : Upto S w w' := ⟨h.os, h.tape, h.output, h.size, fun k hk _ => h.block k hk⟩
theorem Upto.below {S : Nat → Prop} {w w' : World} {B : Nat} (h : Upto S w w') (hB : B ≤ w.heap.size) (hS : ∀ k, S k → B ≤ k) : Below B w w' :=
  ⟨h.os, h.tape, h.output, h.size, fun k hk => h.block k (by omega) (fun s => by have := hS k s; omega)⟩
theorem Upto.trans {S : Nat → Prop} {a b c : World} (h : Upto S a b) (k : Upto S b c) : Upto S a c :=
  ⟨k.os.trans h.os, k.tape.trans h.tape, k.output.trans h.output, Nat.le_trans h.size k.size, fun j hj hs => (k.block j (Nat.lt_of_lt_of_le hj h.size) hs).trans (h.block j hj hs)⟩
theorem Upto.mono {S T : Nat → Prop} {a b : World} (h : Upto S a b) (hs : ∀ k, S k → T k) : Upto T a b := ⟨h.os, h.tape, h.output, h.size, fun j hj ht => h.block j hj fun s => ht (hs j s)⟩
theorem Upto.alloc {S : Nat → Prop} {a b : World} (h : Upto S a b) (o : Obj) : Upto S a (b.alloc o) := h.trans (.of_below ((Below.refl _ _).alloc (Nat.le_refl _) o))
theorem Upto.drew {S : Nat → Prop} {a b : World} (h : Upto S a b) : Upto S a b.drew := ⟨h.os, h.tape, h.output, h.size, h.block⟩
theorem Upto.setCell {S : Nat → Prop} {a b : World} (h : Upto S a b) {p : Addr} (hp : S p.block ∨ a.heap.size ≤ p.block) (v : Value) : Upto S a (b.setCell p v) :=
  ⟨h.os, h.tape, h.output, by simpa using h.size, fun j hj hs => by
    rw [Below.heap_setCell b p v j (by rintro rfl; rcases hp with g | g; exact hs g; omega)]
    exact h.block j hj hs⟩
theorem Upto.put {S : Nat → Prop} {a b : World} (h : Upto S a b) {m : Nat} (hm : S m) (o : Obj) : Upto S a { b with heap := b.heap.setIfInBounds m o } :=
  ⟨h.os, h.tape, h.output, by simpa using h.size, fun j hj hs => by
    have hne : m ≠ j := by rintro rfl; exact hs hm
    simp only [Array.getElem?_setIfInBounds, if_neg hne]
    exact h.block j hj hs⟩

theorem BagAt.upto {S : Nat → Prop} {w w' : World} {b m : Nat} {L : Value} {es : List (Int × Pl)} (h : BagAt w b m L es) (u : Upto S w w') (h1 : ¬ S b) (h2 : ¬ S m) : BagAt w' b m L es :=
  ⟨(u.block b h.lt.1 h1).trans h.1, h.2.same (u.block m h.lt.2 h2)⟩
theorem WordAt.upto {S : Nat → Prop} {w w' : World} {c n : Nat} (h : WordAt w c n) (u : Upto S w w') (h1 : ¬ S c) : WordAt w' c n := (u.block c h.lt h1).trans h
theorem WordAt.set {w : World} {c n r : Nat} (h : WordAt w c n) : WordAt (w.setCell ⟨c, 0, none⟩ (.int .u64 r)) c r := by
  unfold WordAt at *
  rw [setCell_cells h]
  have := (Array.getElem?_eq_some_iff.1 h).1
  simp [this]

theorem new_calls (w : World) : Calls Tryz.prog 5 #[] w fun e w' => ∃ b m, e = .returned (.pointer (some ⟨b, 0, none⟩)) ∧ w.heap.size ≤ b ∧ w.heap.size ≤ m ∧ b ≠ m ∧ BagAt w' b m (.slice none 0 0) [] ∧ Below w.heap.size w w' := by
  have hmm := @run_makeMap Tryz.prog
  go_enter Tryz.func5, Tryz.ntmps5
  go_wp2
  go_ret
  refine ⟨w.heap.size + 1, w.heap.size, by simp, by omega, Nat.le_refl _, by omega, ⟨?_, #[], 0, ?_, trivial⟩, ((Below.refl _ _).alloc (Nat.le_refl _) _).alloc (by simp) _⟩
  · have e := (Go.MapKept.heap_alloc (w.alloc (.map #[] 0)) (.cells #[.map (some w.heap.size), .slice none 0 0] 46)).1
    have hs : (w.alloc (.map #[] 0)).heap.size = w.heap.size + 1 := by simp
    rw [hs] at e
    exact e
  · rw [Below.heap_alloc _ _ _ (by simp)]
    exact (Go.MapKept.heap_alloc w (.map #[] 0)).1

theorem bag_swap_none {w : World} {b m : Nat} {L : Value} {es : List (Int × Pl)} (h : BagAt w b m L es) (id : Int) (hid : aget id es = none) (n : Nat) (hn : n < 18446744073709551616) (st now : Int) :
    Calls Tryz.prog 8 #[.pointer (some ⟨b, 0, none⟩), .int .u64 id, .int .u64 n, .int .i64 st, .int .u64 now] w fun e w' => e = .returned (.tuple #[.int .u64 0, .bool false]) ∧ Below w.heap.size w w' := by
  have hg := get_calls h id
  rw [hid] at hg
  change Calls Tryz.prog 12 _ w fun e w' => e = .returned (.tuple #[.agg #[.pointer none, .int .u64 0, .int .u64 0, .int .u64 0], .bool false]) ∧ Below w.heap.size w w' at hg
  have hs := fun w => swap_nil n hn st w
  clear h hid hn
  go_enter Tryz.func8, Tryz.ntmps8
  go_wp2_with (first | (go_at_call 12; with_reducible refine hg.mono ?_; rintro e w1 ⟨rfl, b1⟩) | (go_at_call 16; with_reducible refine (hs _).mono ?_; rintro e w2 ⟨rfl, rfl⟩))
  go_ret2
  exact ⟨rfl, b1.alloc b1.size _⟩

theorem bag_swap_no {w : World} {b m : Nat} {L : Value} {es : List (Int × Pl)} (h : BagAt w b m L es) (id : Int) {p : Pl} (hid : aget id es = some p) {x : Nat} (hx : WordAt w p.c x) (n : Nat) (hn : n < 18446744073709551616) (st now : Int) (hN : swapN x n st = none) :
    Calls Tryz.prog 8 #[.pointer (some ⟨b, 0, none⟩), .int .u64 id, .int .u64 n, .int .i64 st, .int .u64 now] w fun e w' => e = .returned (.tuple #[.int .u64 x, .bool false]) ∧ Below w.heap.size w w' := by
  have hg := get_calls h id
  rw [hid] at hg
  change Calls Tryz.prog 12 _ w fun e w' => e = .returned (.tuple #[.agg #[.pointer (some ⟨p.c, 0, none⟩), .int .u64 p.born, .int .u64 p.since, .int .u64 p.proved], .bool true]) ∧ Below w.heap.size w w' at hg
  have hs : ∀ {w1 : World} (_ : Below w.heap.size w w1) (o : Obj), Calls Tryz.prog 16 #[.pointer (some ⟨p.c, 0, none⟩), .int .u64 n, .int .i64 st] (w1.alloc o) fun e w' => e = .returned (.tuple #[.int .u64 x, .bool false]) ∧ w' = w1.alloc o := by
    intro w1 hb o
    have hw := (hx.below hb hx.lt).below ((Below.refl _ w1).alloc (Nat.le_refl _) o) (hx.below hb hx.lt).lt
    have := cell_swap p.c n x hn st _ hw.cell hw.free
    rw [hN] at this
    exact this
  clear h hid hn hN hx
  go_enter Tryz.func8, Tryz.ntmps8
  go_wp2_with (first | (go_at_call 12; with_reducible refine hg.mono ?_; rintro e w1 ⟨rfl, b1⟩) | (go_at_call 16; have h5 := hs b1 (.cells #[.pointer (some ⟨p.c, 0, none⟩), .int .u64 p.born, .int .u64 p.since, .int .u64 p.proved] 49); with_reducible refine h5.mono ?_; clear h5; rintro e w2 ⟨rfl, rfl⟩))
  go_ret2
  exact ⟨rfl, b1.alloc b1.size _⟩

theorem bag_swap_on {w : World} {b m : Nat} {L : Value} {es : List (Int × Pl)} (h : BagAt w b m L es) (id : Int) {p : Pl} (hid : aget id es = some p) {x r : Nat} (hx : WordAt w p.c x) (n : Nat) (hn : n < 18446744073709551616) (st now : Int) (hN : swapN x n st = some r) (h0 : (st == 0) = false) :
    Calls Tryz.prog 8 #[.pointer (some ⟨b, 0, none⟩), .int .u64 id, .int .u64 n, .int .i64 st, .int .u64 now] w fun e w' => e = .returned (.tuple #[.int .u64 r, .bool true]) ∧ Upto (· = p.c) w w' ∧ WordAt w' p.c r := by
  have hg := get_calls h id
  rw [hid] at hg
  change Calls Tryz.prog 12 _ w fun e w' => e = .returned (.tuple #[.agg #[.pointer (some ⟨p.c, 0, none⟩), .int .u64 p.born, .int .u64 p.since, .int .u64 p.proved], .bool true]) ∧ Below w.heap.size w w' at hg
  have hs : ∀ {w1 : World} (_ : Below w.heap.size w w1) (o : Obj), Calls Tryz.prog 16 #[.pointer (some ⟨p.c, 0, none⟩), .int .u64 n, .int .i64 st] (w1.alloc o) fun e w' => e = .returned (.tuple #[.int .u64 r, .bool true]) ∧ Upto (· = p.c) w w' ∧ WordAt w' p.c r := by
    intro w1 hb o
    have hw := (hx.below hb hx.lt).below ((Below.refl _ w1).alloc (Nat.le_refl _) o) (hx.below hb hx.lt).lt
    have := cell_swap p.c n x hn st _ hw.cell hw.free
    rw [hN] at this
    refine this.mono ?_
    rintro e w' ⟨rfl, rfl⟩
    exact ⟨rfl, ((Upto.of_below (S := (· = p.c)) hb).alloc o).setCell (p := ⟨p.c, 0, none⟩) (.inl rfl) _, hw.set⟩
  clear h hid hn hN hx
  go_enter Tryz.func8, Tryz.ntmps8
  go_wp2_with (first | (go_at_call 12; with_reducible refine hg.mono ?_; rintro e w1 ⟨rfl, b1⟩) | (go_at_call 16; have h5 := hs b1 (.cells #[.pointer (some ⟨p.c, 0, none⟩), .int .u64 p.born, .int .u64 p.since, .int .u64 p.proved] 49); with_reducible refine h5.mono ?_; clear h5; rintro e w2 ⟨rfl, u2, hw2⟩))
  go_ret2
  exact ⟨rfl, u2, hw2⟩

end Go.Proofs.YtkmenkanochelaaGreatDoor

namespace Go.Proofs.YtkmenkanochelaaGreatDoor
open Go.ChangeShapes Go.WideShapes Go.ChangeAt Go.RowKit Go.Eng

def fourC (p : Pl) : Array Value := #[.pointer (some ⟨p.c, 0, none⟩), .int .u64 p.born, .int .u64 p.since, .int .u64 p.proved]

/-- What the road to the free state needs of the world behind the cell's swap. -/
structure Mid (w w2 : World) (b m Z r : Nat) (L : Value) (es : List (Int × Pl)) (p : Pl) : Prop where
  up : Upto (· = p.c) w w2
  word : WordAt w2 p.c r
  row : w2.heap[Z]? = some (.cells #[.pointer (some ⟨p.c, 0, none⟩), .int .u64 p.born, .int .u64 p.since, .int .u64 p.proved] 49 (0, 0))
  bag : BagAt w2 b m L es
  old : w.heap.size ≤ Z

set_option maxHeartbeats 1000000 in
set_option maxRecDepth 1000000 in
theorem bag_swap_free {w : World} {b m : Nat} {L : Value} {es : List (Int × Pl)} (h : BagAt w b m L es) (id : Int) {p : Pl} (hid : aget id es = some p) {x r : Nat} (hx : WordAt w p.c x) (hb : b ≠ p.c) (hm : m ≠ p.c) (hbm : b ≠ m) (n : Nat) (hn : n < 18446744073709551616) (now : Nat) (hN : swapN x n 0 = some r) :
    Calls Tryz.prog 8 #[.pointer (some ⟨b, 0, none⟩), .int .u64 id, .int .u64 n, .int .i64 0, .int .u64 now] w fun e w' => e = .returned (.tuple #[.int .u64 r, .bool true]) ∧ Upto (fun k => k = p.c ∨ k = m) w w' ∧ WordAt w' p.c r ∧ BagAt w' b m L (aput id { p with since := now } es) := by
  have hg := get_calls h id
  rw [hid] at hg
  change Calls Tryz.prog 12 _ w fun e w' => e = .returned (.tuple #[.agg #[.pointer (some ⟨p.c, 0, none⟩), .int .u64 p.born, .int .u64 p.since, .int .u64 p.proved], .bool true]) ∧ Below w.heap.size w w' at hg
  have hs : ∀ {w1 : World} (_ : Below w.heap.size w w1), Calls Tryz.prog 16 #[.pointer (some ⟨p.c, 0, none⟩), .int .u64 n, .int .i64 0] (w1.alloc (.cells #[.pointer (some ⟨p.c, 0, none⟩), .int .u64 p.born, .int .u64 p.since, .int .u64 p.proved] 49)) fun e w' => e = .returned (.tuple #[.int .u64 r, .bool true]) ∧ Mid w w' b m w1.heap.size r L es p := by
    intro w1 hbl
    have hw := (hx.below hbl hx.lt).below ((Below.refl _ w1).alloc (Nat.le_refl _) (.cells #[.pointer (some ⟨p.c, 0, none⟩), .int .u64 p.born, .int .u64 p.since, .int .u64 p.proved] 49)) (hx.below hbl hx.lt).lt
    have hc := cell_swap p.c n x hn 0 _ hw.cell hw.free
    rw [hN] at hc
    refine hc.mono ?_
    rintro e w' ⟨rfl, rfl⟩
    have u := ((Upto.of_below (S := (· = p.c)) hbl).alloc (.cells #[.pointer (some ⟨p.c, 0, none⟩), .int .u64 p.born, .int .u64 p.since, .int .u64 p.proved] 49)).setCell (p := ⟨p.c, 0, none⟩) (.inl rfl) (.int .u64 r)
    refine ⟨rfl, u, hw.set, ?_, h.upto u hb hm, hbl.size⟩
    have hlt := (hx.below hbl hx.lt).lt
    rw [Below.heap_setCell _ _ _ _ (by show w1.heap.size ≠ p.c; omega)]
    exact (Go.MapKept.heap_alloc w1 _).1
  have hbl := h.lt.1
  have hml := h.lt.2
  clear h hid hn hN hx
  go_enter Tryz.func8, Tryz.ntmps8
  go_wp2_with (first | (go_at_call 12; with_reducible refine hg.mono ?_; rintro e w1 ⟨rfl, b1⟩) | (go_at_call 16; have h5 := hs b1; with_reducible refine h5.mono ?_; clear h5; rintro e w2 ⟨rfl, M⟩; have q2 : w2.cell? ⟨w1.heap.size, 2, none⟩ = some (.int .u64 p.since) := (by simp [World.cell?, M.row]); have f2 : w2.frozen? ⟨w1.heap.size, 2, none⟩ = false := (by simp [World.frozen?, M.row])))
  clear hs hg q2 f2
  obtain ⟨w3, hw3⟩ : ∃ w3, w3 = w2.setCell ⟨w1.heap.size, 2, none⟩ (.int .u64 now) := ⟨_, rfl⟩
  have row3 : w3.heap[w1.heap.size]? = some (.cells #[.pointer (some ⟨p.c, 0, none⟩), .int .u64 p.born, .int .u64 now, .int .u64 p.proved] 49 (0, 0)) := by
    rw [hw3, setCell_cells M.row]
    have := (Array.getElem?_eq_some_iff.1 M.row).1
    simp [this]
  have u3 : Upto (· = p.c) w w3 := by rw [hw3]; exact M.up.setCell (.inr M.old) _
  have hpl : p.c < w.heap.size ∨ w.heap.size ≤ p.c := by omega
  have hZ : w1.heap.size ≠ p.c := by
    rintro e
    have h1 := M.row
    have h2 := M.word
    unfold WordAt at h2
    rw [e, h2] at h1
    simp at h1
  have word3 : WordAt w3 p.c r := by
    have h2 := M.word
    unfold WordAt at h2 ⊢
    rw [hw3, Below.heap_setCell _ _ _ _ (by exact fun e => hZ e.symm)]; exact h2
  have old3 := M.old
  have bag3 : BagAt w3 b m L es := by
    refine ⟨?_, M.bag.2.same ?_⟩
    · rw [hw3, Below.heap_setCell _ _ _ _ (by show b ≠ w1.heap.size; omega)]; exact M.bag.1
    · rw [hw3, Below.heap_setCell _ _ _ _ (by show m ≠ w1.heap.size; omega)]
  rw [← hw3]
  clear hw3 M b1
  generalize w1.heap.size = Z at row3 old3 hZ ⊢
  have c0 : w3.cell? ⟨Z, 0, none⟩ = some (.pointer (some ⟨p.c, 0, none⟩)) := by simp [World.cell?, row3]
  have c1 : w3.cell? ⟨Z, 1, none⟩ = some (.int .u64 p.born) := by simp [World.cell?, row3]
  have c2 : w3.cell? ⟨Z, 2, none⟩ = some (.int .u64 now) := by simp [World.cell?, row3]
  have c3 : w3.cell? ⟨Z, 3, none⟩ = some (.int .u64 p.proved) := by simp [World.cell?, row3]
  have cb := bag3.cell
  have bag3d : MapIs .u64 plV w3.drew m es := bag3.2
  obtain ⟨ms, ck, hmu, hents⟩ := run_mapUpdate_ents (P := Tryz.prog) Tryz.underlying41 Tryz.underlying23 bag3d id { p with since := now }
  change Sem.run Tryz.prog (Instr.mapUpdate 41 (.map (some m)) (.int .u64 id) (.agg #[.pointer (some ⟨p.c, 0, none⟩), .int .u64 p.born, .int .u64 now, .int .u64 p.proved])) w3.drew = _ at hmu
  obtain ⟨w5, hw5⟩ : ∃ w5, w5 = { w3.drew with heap := w3.drew.heap.setIfInBounds m (.map ms ck) } := ⟨_, rfl⟩
  rw [← hw5] at hmu
  have fin : Upto (fun k => k = p.c ∨ k = m) w w5 ∧ WordAt w5 p.c r ∧ BagAt w5 b m L (aput id { p with since := now } es) := by
    have hm3 : m < w3.heap.size := bag3.lt.2
    rw [hw5]
    refine ⟨(u3.drew.mono fun k hk => .inl hk).put (.inr rfl) _, ?_, ?_, MapIs.put hm3 hents⟩
    · show (w3.heap.setIfInBounds m _)[p.c]? = _
      rw [Array.getElem?_setIfInBounds, if_neg hm]; exact word3
    · show (w3.heap.setIfInBounds m _)[b]? = _
      rw [Array.getElem?_setIfInBounds, if_neg (fun e => hbm e.symm)]; exact bag3.1
  clear hw5 hents bag3d bag3 word3 u3 row3
  refine wp_region_still_tail 6 (by kernel_rfl) (by kernel_rfl) ?_
  simp only [List.take_succ_cons, List.take_zero, List.drop_succ_cons, List.drop_zero]
  still_step
  still_step
  still_step
  still_step
  still_step
  still_step
  refine wpStill_nil ?_
  change wpList _ _ _ _ _ w3.drew
  go_wp2
  go_ret2
  exact ⟨rfl, fin⟩

end Go.Proofs.YtkmenkanochelaaGreatDoor

namespace Go.Proofs.YtkmenkanochelaaGreatDoor
open Go.ChangeShapes Go.WideShapes Go.ChangeAt Go.RowKit Go.Eng

set_option maxHeartbeats 1000000 in
set_option maxRecDepth 1000000 in
theorem enter_new {w : World} {b m : Nat} {L : Value} {es : List (Int × Pl)} (h : BagAt w b m L es) (hbm : b ≠ m) (id : Int) (hid : aget id es = none) (hi0 : (id == 0) = false) (s : Nat) (hs : s < 4) (now : Nat) :
    Calls Tryz.prog 6 #[.pointer (some ⟨b, 0, none⟩), .int .u64 id, .int .i64 s, .int .u64 now] w fun e w' => e = .returned (.int .i64 0) ∧ ∃ c, w.heap.size ≤ c ∧ c ≠ m ∧ c ≠ b ∧ Upto (· = m) w w' ∧ WordAt w' c s ∧ BagAt w' b m L (aput id ⟨c, now, now, now⟩ es) := by
  have hg := get_calls h id
  rw [hid] at hg
  change Calls Tryz.prog 12 _ w fun e w' => e = .returned (.tuple #[.agg #[.pointer none, .int .u64 0, .int .u64 0, .int .u64 0], .bool false]) ∧ Below w.heap.size w w' at hg
  have e0 : (ofN s 0 : Nat) = s := by unfold ofN; simp
  have hof : ∀ w, Calls Tryz.prog 14 #[.int .i64 s, .int .u64 0] w fun e w' => e = .returned (.int .u64 s) ∧ w' = w := by
    intro w
    have := of_calls s 0 hs w
    rw [e0] at this
    exact this
  have hcn := fun w => cell_made (s : Int) w
  have s1 : ¬ ((s : Int) < 0) := by omega
  have s2 : ¬ ((3 : Int) < (s : Int)) := by omega
  clear hs
  go_enter Tryz.func6, Tryz.ntmps6
  go_wp2_with (go_at_call 12; with_reducible refine hg.mono ?_; rintro e w1 ⟨rfl, b1⟩)
  have bag1 := h.below b1 h.lt.1 h.lt.2
  obtain ⟨w3, hw3⟩ : ∃ w3, w3 = w1.alloc (.cells #[.pointer none, .int .u64 0, .int .u64 0, .int .u64 0] 49) := ⟨_, rfl⟩
  have b3 : Below w.heap.size w w3 := by rw [hw3]; exact b1.alloc b1.size _
  have bag3 : BagAt w3 b m L es := h.below b3 h.lt.1 h.lt.2
  have lb := bag3.lt.1
  have lm := bag3.lt.2
  have cb := bag3.cell
  have hsz := b3.size
  rw [← hw3]
  clear hw3 bag1 b1 hg h hid e0
  obtain ⟨w4, hw4⟩ : ∃ w4, w4 = (w3.alloc (.cells #[.int .u64 s] 63)).drew := ⟨_, rfl⟩
  have b4 : Below w3.heap.size w3 w4 := by rw [hw4]; exact ((Below.refl _ w3).alloc (Nat.le_refl _) _).drew
  have bag4 := bag3.below b4 lb lm
  have word4 : WordAt w4 w3.heap.size s := by rw [hw4]; exact (Go.MapKept.heap_alloc w3 _).1
  obtain ⟨ms, ck, hmu, hents⟩ := run_mapUpdate_ents (P := Tryz.prog) Tryz.underlying41 Tryz.underlying23 bag4.2 id (⟨w3.heap.size, now, now, now⟩ : Pl)
  change Sem.run Tryz.prog (Instr.mapUpdate 41 (.map (some m)) (.int .u64 id) (.agg #[.pointer (some ⟨w3.heap.size, 0, none⟩), .int .u64 now, .int .u64 now, .int .u64 now])) w4 = _ at hmu
  obtain ⟨w5, hw5⟩ : ∃ w5, w5 = { w4 with heap := w4.heap.setIfInBounds m (.map ms ck) } := ⟨_, rfl⟩
  rw [← hw5] at hmu
  have fin : ∃ c, w.heap.size ≤ c ∧ c ≠ m ∧ c ≠ b ∧ Upto (· = m) w w5 ∧ WordAt w5 c s ∧ BagAt w5 b m L (aput id ⟨c, now, now, now⟩ es) := by
    have hm4 : m < w4.heap.size := Nat.lt_of_lt_of_le lm b4.size
    refine ⟨w3.heap.size, hsz, by omega, by omega, ?_, ?_, ?_, ?_⟩
    · rw [hw5]; exact (Upto.of_below (S := (· = m)) (b3.trans (b4.mono hsz))).put (m := m) rfl _
    · rw [hw5]
      show (w4.heap.setIfInBounds m _)[w3.heap.size]? = _
      rw [Array.getElem?_setIfInBounds, if_neg (by omega)]; exact word4
    · rw [hw5]
      show (w4.heap.setIfInBounds m _)[b]? = _
      rw [Array.getElem?_setIfInBounds, if_neg (fun e => hbm e.symm)]; exact bag4.1
    · rw [hw5]; exact MapIs.put hm4 hents
  have cb5 : w5.cell? ⟨b, 0, none⟩ = some (.map (some m)) := by obtain ⟨c, _, _, _, _, _, h5⟩ := fin; exact h5.cell
  rw [hw4] at hmu
  clear hents hw5 word4 bag4 b4 hw4 bag3 b3 lm hsz
  have nb := World.new_ne w3 _ cb
  go_region_held3 (fun w' => w'.cell? ⟨b, 0, none⟩ = some (.map (some m))) (first | go_keep | exact cb5)
    (first
      | (go_at_call 14; with_reducible refine (hof _).mono ?_; rintro e w8 ⟨rfl, rfl⟩)
      | (go_at_call 13; with_reducible refine (hcn _).mono ?_; rintro e w9 ⟨rfl, rfl⟩))
  go_wp2
  go_ret
  exact ⟨rfl, fin⟩

end Go.Proofs.YtkmenkanochelaaGreatDoor

namespace Go.Proofs.YtkmenkanochelaaGreatDoor
open Go.ChangeShapes Go.WideShapes Go.ChangeAt Go.RowKit Go.Eng

/-- A bag of one entry, over the world W's first B blocks. -/
structure In (W : World) (B b m c : Nat) (L : Value) (id : Int) (x sn : Nat) (v : World) : Prop where
  bag : BagAt v b m L [(id, ⟨c, 0, sn, 0⟩)]
  word : WordAt v c x
  low : Below B W v
  hb : B ≤ b
  hm : B ≤ m
  hc : B ≤ c
  bm : b ≠ m
  bc : b ≠ c
  mc : m ≠ c

variable {W v : World} {B b m c : Nat} {L : Value} {id : Int} {x sn : Nat}

theorem In.grow {v' : World} (h : In W B b m c L id x sn v) (hB : Below v.heap.size v v') : In W B b m c L id x sn v' :=
  ⟨h.bag.below hB h.bag.lt.1 h.bag.lt.2, h.word.below hB h.word.lt, h.low.trans (hB.mono (Nat.le_of_lt (Nat.lt_of_le_of_lt h.hb h.bag.lt.1))), h.hb, h.hm, h.hc, h.bm, h.bc, h.mc⟩

theorem aget_one (p : Pl) : aget id [(id, p)] = some p := by simp [aget]
theorem aput_one (p q : Pl) : aput id q [(id, p)] = [(id, q)] := by simp [aput]

theorem in_load (h : In W B b m c L id x sn v) :
    Calls Tryz.prog 7 #[.pointer (some ⟨b, 0, none⟩), .int .u64 id] v fun e w' => e = .returned (.tuple #[.int .u64 x, .bool true]) ∧ In W B b m c L id x sn w' :=
  (load_some h.bag id (aget_one _) h.word).mono fun _ _ ⟨he, hb⟩ => ⟨he, h.grow hb⟩

theorem in_entry (h : In W B b m c L id x sn v) :
    Calls Tryz.prog 9 #[.pointer (some ⟨b, 0, none⟩), .int .u64 id] v fun e w' => e = .returned (.tuple #[.agg #[.int .u64 id, .int .u64 x, .int .u64 0, .int .u64 sn, .int .u64 0], .bool true]) ∧ In W B b m c L id x sn w' :=
  (entry_some h.bag id (aget_one _) h.word).mono fun _ _ ⟨he, hb⟩ => ⟨he, h.grow hb⟩

theorem in_swap_no (h : In W B b m c L id x sn v) {n : Nat} (hn : n < 18446744073709551616) {st : Int} (now : Nat) (hN : swapN x n st = none) :
    Calls Tryz.prog 8 #[.pointer (some ⟨b, 0, none⟩), .int .u64 id, .int .u64 n, .int .i64 st, .int .u64 now] v fun e w' => e = .returned (.tuple #[.int .u64 x, .bool false]) ∧ In W B b m c L id x sn w' :=
  (bag_swap_no h.bag id (aget_one _) h.word n hn st now hN).mono fun _ _ ⟨he, hb⟩ => ⟨he, h.grow hb⟩

theorem in_swap_on (h : In W B b m c L id x sn v) {n r : Nat} (hn : n < 18446744073709551616) {st : Int} (now : Nat) (hN : swapN x n st = some r) (h0 : (st == 0) = false) :
    Calls Tryz.prog 8 #[.pointer (some ⟨b, 0, none⟩), .int .u64 id, .int .u64 n, .int .i64 st, .int .u64 now] v fun e w' => e = .returned (.tuple #[.int .u64 r, .bool true]) ∧ In W B b m c L id r sn w' :=
  (bag_swap_on h.bag id (aget_one _) h.word n hn st now hN h0).mono fun _ w' ⟨he, hu, hw⟩ =>
    ⟨he, h.bag.upto hu h.bc h.mc, hw, h.low.trans (hu.below (Nat.le_of_lt (Nat.lt_of_le_of_lt h.hb h.bag.lt.1)) (fun k hk => by rw [hk]; exact h.hc)), h.hb, h.hm, h.hc, h.bm, h.bc, h.mc⟩

theorem in_swap_free (h : In W B b m c L id x sn v) {n r : Nat} (hn : n < 18446744073709551616) (now : Nat) (hN : swapN x n 0 = some r) :
    Calls Tryz.prog 8 #[.pointer (some ⟨b, 0, none⟩), .int .u64 id, .int .u64 n, .int .i64 0, .int .u64 now] v fun e w' => e = .returned (.tuple #[.int .u64 r, .bool true]) ∧ In W B b m c L id r now w' :=
  (bag_swap_free h.bag id (aget_one _) h.word h.bc h.mc h.bm n hn now hN).mono fun _ w' ⟨he, hu, hw, hb⟩ => by
    rw [aput_one] at hb
    exact ⟨he, hb, hw, h.low.trans (hu.below (Nat.le_of_lt (Nat.lt_of_le_of_lt h.hb h.bag.lt.1)) (fun k hk => by rcases hk with rfl | rfl; exact h.hc; exact h.hm)), h.hb, h.hm, h.hc, h.bm, h.bc, h.mc⟩

/-- How a word goes on: its version, one more. -/
theorem swap_next {n r : Nat} {st : Int} (hN : swapN x n st = some r) (hx : x / 4 < 1000) : r / 4 = x / 4 + 1 ∧ x = n := by
  unfold swapN at hN
  split at hN
  · rename_i hc
    obtain ⟨hm, rfl⟩ := hc
    have := may_range hm
    simp only [Option.some.injEq] at hN
    subst hN
    refine ⟨?_, rfl⟩
    unfold toN ofN
    omega
  · cases hN

end Go.Proofs.YtkmenkanochelaaGreatDoor
