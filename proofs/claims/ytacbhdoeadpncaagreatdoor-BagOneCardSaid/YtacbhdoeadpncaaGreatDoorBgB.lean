/- What a bag's Swap, Enter and Publish hand back, and what they turn; lists of numbers in memory. Conditions: how the bag lies in memory. -/
import Derived.Test.YtacbhdoeadpncaaGreatDoorBgA
import Derived.Deep.RegionHeld3
import Derived.WalkSpells
import Derived.Laws.Pointers
import Derived.Deep.LoopGhost
import Derived.LoopTactic
import Derived.OwnWalk
import Derived.ArgAppend
import Derived.Test.YtacbhdoeadpncaaGreatDoorMo
namespace Go.Proofs.YtacbhdoeadpncaaGreatDoor
open Go.ChangeShapes Go.WideShapes Go.ChangeAt Go.RowKit Go.Eng

/-- All that was there is as it was, but for the blocks that S names. -/
structure Upto (S : Nat → Prop) (w w' : World) : Prop where
  os : w'.os = w.os
  tape : w'.tape = w.tape
  output : w'.output = w.output
  size : w.heap.size ≤ w'.heap.size
  block : ∀ k, k < w.heap.size → ¬ S k → w'.heap[k]? = w.heap[k]?

theorem Upto.of_below {S : Nat → Prop} {w w' : World} (h : Below w.heap.size w w') : Upto S w w' := ⟨h.os, h.tape, h.output, h.size, fun k hk _ => h.block k hk⟩
theorem Upto.below {S : Nat → Prop} {w w' : World} {B : Nat} (h : Upto S w w') (hB : B ≤ w.heap.size) (hS : ∀ k, S k → B ≤ k) : Below B w w' :=
  ⟨h.os, h.tape, h.output, h.size, fun k hk => h.block k (by omega) (fun s => by have := hS k s; omega)⟩
theorem Upto.trans {S : Nat → Prop} {a b c : World} (h : Upto S a b) (k : Upto S b c) : Upto S a c :=
  ⟨k.os.trans h.os, k.tape.trans h.tape, k.output.trans h.output, Nat.le_trans h.size k.size, fun j hj hs => (k.block j (Nat.lt_of_lt_of_le hj h.size) hs).trans (h.block j hj hs)⟩
theorem Upto.mono {S T : Nat → Prop} {a b : World} (h : Upto S a b) (hs : ∀ k, S k → T k) : Upto T a b := ⟨h.os, h.tape, h.output, h.size, fun j hj ht => h.block j hj fun s => ht (hs j s)⟩
theorem Upto.alloc {S : Nat → Prop} {a b : World} (h : Upto S a b) (o : Obj) : Upto S a (b.alloc o) := h.trans (.of_below ((Below.refl _ _).alloc (Nat.le_refl _) o))
theorem Upto.drew {S : Nat → Prop} {a b : World} (h : Upto S a b) : Upto S a b.drew := ⟨h.os, h.tape, h.output, h.size, h.block⟩
theorem Upto.setCell {S : Nat → Prop} {a b : World} (h : Upto S a b) {p : Addr} (hp : S p.block ∨ a.heap.size ≤ p.block) (v : Value) : Upto S a (b.setCell p v) :=
  ⟨h.os, h.tape, h.output, by simpa using h.size, fun j hj hs => by
    rw [Below.heap_setCell b p v j (by rintro rfl; rcases hp with g | g; exact hs g; omega)]
    exact h.block j hj hs⟩
theorem Upto.put {S : Nat → Prop} {a b : World} (h : Upto S a b) {m : Nat} (hm : S m) (o : Obj) : Upto S a { b with heap := b.heap.setIfInBounds m o } :=
  ⟨h.os, h.tape, h.output, by simpa using h.size, fun j hj hs => by
    have hne : m ≠ j := by rintro rfl; exact hs hm
    simp only [Array.getElem?_setIfInBounds, if_neg hne]
    exact h.block j hj hs⟩

theorem BagAt.upto {S : Nat → Prop} {w w' : World} {b m : Nat} {L : Value} {es : List (Int × Pl)} (h : BagAt w b m L es) (u : Upto S w w') (h1 : ¬ S b) (h2 : ¬ S m) : BagAt w' b m L es :=
  ⟨(u.block b h.lt.1 h1).trans h.1, h.2.same (u.block m h.lt.2 h2)⟩
theorem WordAt.upto {S : Nat → Prop} {w w' : World} {c n : Nat} (h : WordAt w c n) (u : Upto S w w') (h1 : ¬ S c) : WordAt w' c n := (u.block c h.lt h1).trans h
theorem WordAt.set {w : World} {c n r : Nat} (h : WordAt w c n) : WordAt (w.setCell ⟨c, 0, none⟩ (.int .u64 r)) c r := by
  unfold WordAt at *
  rw [setCell_cells h]
  have := (Array.getElem?_eq_some_iff.1 h).1
  simp [this]

theorem new_calls (w : World) : Calls Tryz.prog 5 #[] w fun e w' => ∃ b m, e = .returned (.pointer (some ⟨b, 0, none⟩)) ∧ w.heap.size ≤ b ∧ w.heap.size ≤ m ∧ b ≠ m ∧ BagAt w' b m (.slice none 0 0) [] ∧ Below w.heap.size w w' := by
  have hmm := @run_makeMap Tryz.prog
  go_enter Tryz.func5, Tryz.ntmps5
  go_wp2
  go_ret
  refine ⟨w.heap.size + 1, w.heap.size, by simp, by omega, Nat.le_refl _, by omega, ⟨?_, #[], 0, ?_, trivial⟩, ((Below.refl _ _).alloc (Nat.le_refl _) _).alloc (by simp) _⟩
  · have e := (Go.MapKept.heap_alloc (w.alloc (.map #[] 0)) (.cells #[.map (some w.heap.size), .slice none 0 0] 48)).1
    have hs : (w.alloc (.map #[] 0)).heap.size = w.heap.size + 1 := by simp
    rw [hs] at e
    exact e
  · rw [Below.heap_alloc _ _ _ (by simp)]
    exact (Go.MapKept.heap_alloc w (.map #[] 0)).1

theorem bag_swap_none {w : World} {b m : Nat} {L : Value} {es : List (Int × Pl)} (h : BagAt w b m L es) (id : Int) (hid : aget id es = none) (n : Nat) (hn : n < 18446744073709551616) (st now : Int) :
    Calls Tryz.prog 13 #[.pointer (some ⟨b, 0, none⟩), .int .u64 id, .int .u64 n, .int .i64 st, .int .u64 now] w fun e w' => e = .returned (.tuple #[.int .u64 0, .bool false]) ∧ Below w.heap.size w w' := by
  have hg := get_calls h id
  rw [hid] at hg
  change Calls Tryz.prog 17 _ w fun e w' => e = .returned (.tuple #[.agg #[.pointer none, .int .u64 0, .int .u64 0, .int .u64 0], .bool false]) ∧ Below w.heap.size w w' at hg
  have hs := fun w => swap_nil n hn st w
  clear h hid hn
  go_enter Tryz.func13, Tryz.ntmps13
  go_wp2_with (first | (go_at_call 17; with_reducible refine hg.mono ?_; rintro e w1 ⟨rfl, b1⟩) | (go_at_call 25; with_reducible refine (hs _).mono ?_; rintro e w2 ⟨rfl, rfl⟩))
  go_ret2
  exact ⟨rfl, b1.alloc b1.size _⟩

theorem bag_swap_no {w : World} {b m : Nat} {L : Value} {es : List (Int × Pl)} (h : BagAt w b m L es) (id : Int) {p : Pl} (hid : aget id es = some p) {x : Nat} (hx : WordAt w p.c x) (n : Nat) (hn : n < 18446744073709551616) (st now : Int) (hN : swapN x n st = none) :
    Calls Tryz.prog 13 #[.pointer (some ⟨b, 0, none⟩), .int .u64 id, .int .u64 n, .int .i64 st, .int .u64 now] w fun e w' => e = .returned (.tuple #[.int .u64 x, .bool false]) ∧ Below w.heap.size w w' := by
  have hg := get_calls h id
  rw [hid] at hg
  change Calls Tryz.prog 17 _ w fun e w' => e = .returned (.tuple #[.agg #[.pointer (some ⟨p.c, 0, none⟩), .int .u64 p.born, .int .u64 p.since, .int .u64 p.proved], .bool true]) ∧ Below w.heap.size w w' at hg
  have hs : ∀ {w1 : World} (_ : Below w.heap.size w w1) (o : Obj), Calls Tryz.prog 25 #[.pointer (some ⟨p.c, 0, none⟩), .int .u64 n, .int .i64 st] (w1.alloc o) fun e w' => e = .returned (.tuple #[.int .u64 x, .bool false]) ∧ w' = w1.alloc o := by
    intro w1 hb o
    have hw := (hx.below hb hx.lt).below ((Below.refl _ w1).alloc (Nat.le_refl _) o) (hx.below hb hx.lt).lt
    have := cell_swap p.c n x hn st _ hw.cell hw.free
    rw [hN] at this
    exact this
  clear h hid hn hN hx
  go_enter Tryz.func13, Tryz.ntmps13
  go_wp2_with (first | (go_at_call 17; with_reducible refine hg.mono ?_; rintro e w1 ⟨rfl, b1⟩) | (go_at_call 25; have h5 := hs b1 (.cells #[.pointer (some ⟨p.c, 0, none⟩), .int .u64 p.born, .int .u64 p.since, .int .u64 p.proved] 51); with_reducible refine h5.mono ?_; clear h5; rintro e w2 ⟨rfl, rfl⟩))
  go_ret2
  exact ⟨rfl, b1.alloc b1.size _⟩

theorem bag_swap_on {w : World} {b m : Nat} {L : Value} {es : List (Int × Pl)} (h : BagAt w b m L es) (id : Int) {p : Pl} (hid : aget id es = some p) {x r : Nat} (hx : WordAt w p.c x) (n : Nat) (hn : n < 18446744073709551616) (st now : Int) (hN : swapN x n st = some r) (h0 : (st == 0) = false) :
    Calls Tryz.prog 13 #[.pointer (some ⟨b, 0, none⟩), .int .u64 id, .int .u64 n, .int .i64 st, .int .u64 now] w fun e w' => e = .returned (.tuple #[.int .u64 r, .bool true]) ∧ Upto (· = p.c) w w' ∧ WordAt w' p.c r := by
  have hg := get_calls h id
  rw [hid] at hg
  change Calls Tryz.prog 17 _ w fun e w' => e = .returned (.tuple #[.agg #[.pointer (some ⟨p.c, 0, none⟩), .int .u64 p.born, .int .u64 p.since, .int .u64 p.proved], .bool true]) ∧ Below w.heap.size w w' at hg
  have hs : ∀ {w1 : World} (_ : Below w.heap.size w w1) (o : Obj), Calls Tryz.prog 25 #[.pointer (some ⟨p.c, 0, none⟩), .int .u64 n, .int .i64 st] (w1.alloc o) fun e w' => e = .returned (.tuple #[.int .u64 r, .bool true]) ∧ Upto (· = p.c) w w' ∧ WordAt w' p.c r := by
    intro w1 hb o
    have hw := (hx.below hb hx.lt).below ((Below.refl _ w1).alloc (Nat.le_refl _) o) (hx.below hb hx.lt).lt
    have := cell_swap p.c n x hn st _ hw.cell hw.free
    rw [hN] at this
    refine this.mono ?_
    rintro e w' ⟨rfl, rfl⟩
    exact ⟨rfl, ((Upto.of_below (S := (· = p.c)) hb).alloc o).setCell (p := ⟨p.c, 0, none⟩) (.inl rfl) _, hw.set⟩
  clear h hid hn hN hx
  go_enter Tryz.func13, Tryz.ntmps13
  go_wp2_with (first | (go_at_call 17; with_reducible refine hg.mono ?_; rintro e w1 ⟨rfl, b1⟩) | (go_at_call 25; have h5 := hs b1 (.cells #[.pointer (some ⟨p.c, 0, none⟩), .int .u64 p.born, .int .u64 p.since, .int .u64 p.proved] 51); with_reducible refine h5.mono ?_; clear h5; rintro e w2 ⟨rfl, u2, hw2⟩))
  go_ret2
  exact ⟨rfl, u2, hw2⟩

end Go.Proofs.YtacbhdoeadpncaaGreatDoor

namespace Go.Proofs.YtacbhdoeadpncaaGreatDoor
open Go.ChangeShapes Go.WideShapes Go.ChangeAt Go.RowKit Go.Eng

def fourC (p : Pl) : Array Value := #[.pointer (some ⟨p.c, 0, none⟩), .int .u64 p.born, .int .u64 p.since, .int .u64 p.proved]

/-- What the road to the free state needs of the world behind the cell's swap. -/
structure Mid (w w2 : World) (b m Z r : Nat) (L : Value) (es : List (Int × Pl)) (p : Pl) : Prop where
  up : Upto (· = p.c) w w2
  word : WordAt w2 p.c r
  row : w2.heap[Z]? = some (.cells #[.pointer (some ⟨p.c, 0, none⟩), .int .u64 p.born, .int .u64 p.since, .int .u64 p.proved] 51 (0, 0))
  bag : BagAt w2 b m L es
  old : w.heap.size ≤ Z

set_option maxHeartbeats 1000000 in
set_option maxRecDepth 1000000 in
theorem bag_swap_free {w : World} {b m : Nat} {L : Value} {es : List (Int × Pl)} (h : BagAt w b m L es) (id : Int) {p : Pl} (hid : aget id es = some p) {x r : Nat} (hx : WordAt w p.c x) (hb : b ≠ p.c) (hm : m ≠ p.c) (hbm : b ≠ m) (n : Nat) (hn : n < 18446744073709551616) (now : Nat) (hN : swapN x n 0 = some r) :
    Calls Tryz.prog 13 #[.pointer (some ⟨b, 0, none⟩), .int .u64 id, .int .u64 n, .int .i64 0, .int .u64 now] w fun e w' => e = .returned (.tuple #[.int .u64 r, .bool true]) ∧ Upto (fun k => k = p.c ∨ k = m) w w' ∧ WordAt w' p.c r ∧ BagAt w' b m L (aput id { p with since := now } es) := by
  have hg := get_calls h id
  rw [hid] at hg
  change Calls Tryz.prog 17 _ w fun e w' => e = .returned (.tuple #[.agg #[.pointer (some ⟨p.c, 0, none⟩), .int .u64 p.born, .int .u64 p.since, .int .u64 p.proved], .bool true]) ∧ Below w.heap.size w w' at hg
  have hs : ∀ {w1 : World} (_ : Below w.heap.size w w1), Calls Tryz.prog 25 #[.pointer (some ⟨p.c, 0, none⟩), .int .u64 n, .int .i64 0] (w1.alloc (.cells #[.pointer (some ⟨p.c, 0, none⟩), .int .u64 p.born, .int .u64 p.since, .int .u64 p.proved] 51)) fun e w' => e = .returned (.tuple #[.int .u64 r, .bool true]) ∧ Mid w w' b m w1.heap.size r L es p := by
    intro w1 hbl
    have hw := (hx.below hbl hx.lt).below ((Below.refl _ w1).alloc (Nat.le_refl _) (.cells #[.pointer (some ⟨p.c, 0, none⟩), .int .u64 p.born, .int .u64 p.since, .int .u64 p.proved] 51)) (hx.below hbl hx.lt).lt
    have hc := cell_swap p.c n x hn 0 _ hw.cell hw.free
    rw [hN] at hc
    refine hc.mono ?_
    rintro e w' ⟨rfl, rfl⟩
    have u := ((Upto.of_below (S := (· = p.c)) hbl).alloc (.cells #[.pointer (some ⟨p.c, 0, none⟩), .int .u64 p.born, .int .u64 p.since, .int .u64 p.proved] 51)).setCell (p := ⟨p.c, 0, none⟩) (.inl rfl) (.int .u64 r)
    refine ⟨rfl, u, hw.set, ?_, h.upto u hb hm, hbl.size⟩
    have hlt := (hx.below hbl hx.lt).lt
    rw [Below.heap_setCell _ _ _ _ (by show w1.heap.size ≠ p.c; omega)]
    exact (Go.MapKept.heap_alloc w1 _).1
  have hbl := h.lt.1
  have hml := h.lt.2
  clear h hid hn hN hx
  go_enter Tryz.func13, Tryz.ntmps13
  go_wp2_with (first | (go_at_call 17; with_reducible refine hg.mono ?_; rintro e w1 ⟨rfl, b1⟩) | (go_at_call 25; have h5 := hs b1; with_reducible refine h5.mono ?_; clear h5; rintro e w2 ⟨rfl, M⟩; have q2 : w2.cell? ⟨w1.heap.size, 2, none⟩ = some (.int .u64 p.since) := (by simp [World.cell?, M.row]); have f2 : w2.frozen? ⟨w1.heap.size, 2, none⟩ = false := (by simp [World.frozen?, M.row])))
  clear hs hg q2 f2
  obtain ⟨w3, hw3⟩ : ∃ w3, w3 = w2.setCell ⟨w1.heap.size, 2, none⟩ (.int .u64 now) := ⟨_, rfl⟩
  have row3 : w3.heap[w1.heap.size]? = some (.cells #[.pointer (some ⟨p.c, 0, none⟩), .int .u64 p.born, .int .u64 now, .int .u64 p.proved] 51 (0, 0)) := by
    rw [hw3, setCell_cells M.row]
    have := (Array.getElem?_eq_some_iff.1 M.row).1
    simp [this]
  have u3 : Upto (· = p.c) w w3 := by rw [hw3]; exact M.up.setCell (.inr M.old) _
  have hpl : p.c < w.heap.size ∨ w.heap.size ≤ p.c := by omega
  have hZ : w1.heap.size ≠ p.c := by
    rintro e
    have h1 := M.row
    have h2 := M.word
    unfold WordAt at h2
    rw [e, h2] at h1
    simp at h1
  have word3 : WordAt w3 p.c r := by
    have h2 := M.word
    unfold WordAt at h2 ⊢
    rw [hw3, Below.heap_setCell _ _ _ _ (by exact fun e => hZ e.symm)]; exact h2
  have old3 := M.old
  have bag3 : BagAt w3 b m L es := by
    refine ⟨?_, M.bag.2.same ?_⟩
    · rw [hw3, Below.heap_setCell _ _ _ _ (by show b ≠ w1.heap.size; omega)]; exact M.bag.1
    · rw [hw3, Below.heap_setCell _ _ _ _ (by show m ≠ w1.heap.size; omega)]
  rw [← hw3]
  clear hw3 M b1
  generalize w1.heap.size = Z at row3 old3 hZ ⊢
  have c0 : w3.cell? ⟨Z, 0, none⟩ = some (.pointer (some ⟨p.c, 0, none⟩)) := by simp [World.cell?, row3]
  have c1 : w3.cell? ⟨Z, 1, none⟩ = some (.int .u64 p.born) := by simp [World.cell?, row3]
  have c2 : w3.cell? ⟨Z, 2, none⟩ = some (.int .u64 now) := by simp [World.cell?, row3]
  have c3 : w3.cell? ⟨Z, 3, none⟩ = some (.int .u64 p.proved) := by simp [World.cell?, row3]
  have cb := bag3.cell
  have bag3d : MapIs .u64 plV w3.drew m es := bag3.2
  obtain ⟨ms, ck, hmu, hents⟩ := run_mapUpdate_ents (P := Tryz.prog) Tryz.underlying46 Tryz.underlying27 bag3d id { p with since := now }
  change Sem.run Tryz.prog (Instr.mapUpdate 46 (.map (some m)) (.int .u64 id) (.agg #[.pointer (some ⟨p.c, 0, none⟩), .int .u64 p.born, .int .u64 now, .int .u64 p.proved])) w3.drew = _ at hmu
  obtain ⟨w5, hw5⟩ : ∃ w5, w5 = { w3.drew with heap := w3.drew.heap.setIfInBounds m (.map ms ck) } := ⟨_, rfl⟩
  rw [← hw5] at hmu
  have fin : Upto (fun k => k = p.c ∨ k = m) w w5 ∧ WordAt w5 p.c r ∧ BagAt w5 b m L (aput id { p with since := now } es) := by
    have hm3 : m < w3.heap.size := bag3.lt.2
    rw [hw5]
    refine ⟨(u3.drew.mono fun k hk => .inl hk).put (.inr rfl) _, ?_, ?_, MapIs.put hm3 hents⟩
    · show (w3.heap.setIfInBounds m _)[p.c]? = _
      rw [Array.getElem?_setIfInBounds, if_neg hm]; exact word3
    · show (w3.heap.setIfInBounds m _)[b]? = _
      rw [Array.getElem?_setIfInBounds, if_neg (fun e => hbm e.symm)]; exact bag3.1
  clear hw5 hents bag3d bag3 word3 u3 row3
  refine wp_region_still_tail 6 (by kernel_rfl) (by kernel_rfl) ?_
  simp only [List.take_succ_cons, List.take_zero, List.drop_succ_cons, List.drop_zero]
  still_step
  still_step
  still_step
  still_step
  still_step
  still_step
  refine wpStill_nil ?_
  change wpList _ _ _ _ _ w3.drew
  go_wp2
  go_ret2
  exact ⟨rfl, fin⟩

end Go.Proofs.YtacbhdoeadpncaaGreatDoor

namespace Go.Proofs.YtacbhdoeadpncaaGreatDoor
open Go.ChangeShapes Go.WideShapes Go.ChangeAt Go.RowKit Go.Eng

set_option maxHeartbeats 1000000 in
set_option maxRecDepth 1000000 in
theorem enter_new {w : World} {b m : Nat} {L : Value} {es : List (Int × Pl)} (h : BagAt w b m L es) (hbm : b ≠ m) (id : Int) (hid : aget id es = none) (hi0 : (id == 0) = false) (s : Nat) (hs : s < 4) (now : Nat) :
    Calls Tryz.prog 6 #[.pointer (some ⟨b, 0, none⟩), .int .u64 id, .int .i64 s, .int .u64 now] w fun e w' => e = .returned (.int .i64 0) ∧ ∃ c, w.heap.size ≤ c ∧ c ≠ m ∧ c ≠ b ∧ Upto (· = m) w w' ∧ WordAt w' c s ∧ BagAt w' b m L (aput id ⟨c, now, now, now⟩ es) := by
  have hg := get_calls h id
  rw [hid] at hg
  change Calls Tryz.prog 17 _ w fun e w' => e = .returned (.tuple #[.agg #[.pointer none, .int .u64 0, .int .u64 0, .int .u64 0], .bool false]) ∧ Below w.heap.size w w' at hg
  have e0 : (ofN s 0 : Nat) = s := by unfold ofN; simp
  have hof : ∀ w, Calls Tryz.prog 19 #[.int .i64 s, .int .u64 0] w fun e w' => e = .returned (.int .u64 s) ∧ w' = w := by
    intro w
    have := of_calls s 0 hs w
    rw [e0] at this
    exact this
  have hcn := fun w => cell_made (s : Int) w
  have s1 : ¬ ((s : Int) < 0) := by omega
  have s2 : ¬ ((3 : Int) < (s : Int)) := by omega
  clear hs
  go_enter Tryz.func6, Tryz.ntmps6
  go_wp2_with (go_at_call 17; with_reducible refine hg.mono ?_; rintro e w1 ⟨rfl, b1⟩)
  have bag1 := h.below b1 h.lt.1 h.lt.2
  obtain ⟨w3, hw3⟩ : ∃ w3, w3 = w1.alloc (.cells #[.pointer none, .int .u64 0, .int .u64 0, .int .u64 0] 51) := ⟨_, rfl⟩
  have b3 : Below w.heap.size w w3 := by rw [hw3]; exact b1.alloc b1.size _
  have bag3 : BagAt w3 b m L es := h.below b3 h.lt.1 h.lt.2
  have lb := bag3.lt.1
  have lm := bag3.lt.2
  have cb := bag3.cell
  have hsz := b3.size
  rw [← hw3]
  clear hw3 bag1 b1 hg h hid e0
  obtain ⟨w4, hw4⟩ : ∃ w4, w4 = (w3.alloc (.cells #[.int .u64 s] 66)).drew := ⟨_, rfl⟩
  have b4 : Below w3.heap.size w3 w4 := by rw [hw4]; exact ((Below.refl _ w3).alloc (Nat.le_refl _) _).drew
  have bag4 := bag3.below b4 lb lm
  have word4 : WordAt w4 w3.heap.size s := by rw [hw4]; exact (Go.MapKept.heap_alloc w3 _).1
  obtain ⟨ms, ck, hmu, hents⟩ := run_mapUpdate_ents (P := Tryz.prog) Tryz.underlying46 Tryz.underlying27 bag4.2 id (⟨w3.heap.size, now, now, now⟩ : Pl)
  change Sem.run Tryz.prog (Instr.mapUpdate 46 (.map (some m)) (.int .u64 id) (.agg #[.pointer (some ⟨w3.heap.size, 0, none⟩), .int .u64 now, .int .u64 now, .int .u64 now])) w4 = _ at hmu
  obtain ⟨w5, hw5⟩ : ∃ w5, w5 = { w4 with heap := w4.heap.setIfInBounds m (.map ms ck) } := ⟨_, rfl⟩
  rw [← hw5] at hmu
  have fin : ∃ c, w.heap.size ≤ c ∧ c ≠ m ∧ c ≠ b ∧ Upto (· = m) w w5 ∧ WordAt w5 c s ∧ BagAt w5 b m L (aput id ⟨c, now, now, now⟩ es) := by
    have hm4 : m < w4.heap.size := Nat.lt_of_lt_of_le lm b4.size
    refine ⟨w3.heap.size, hsz, by omega, by omega, ?_, ?_, ?_, ?_⟩
    · rw [hw5]; exact (Upto.of_below (S := (· = m)) (b3.trans (b4.mono hsz))).put (m := m) rfl _
    · rw [hw5]
      show (w4.heap.setIfInBounds m _)[w3.heap.size]? = _
      rw [Array.getElem?_setIfInBounds, if_neg (by omega)]; exact word4
    · rw [hw5]
      show (w4.heap.setIfInBounds m _)[b]? = _
      rw [Array.getElem?_setIfInBounds, if_neg (fun e => hbm e.symm)]; exact bag4.1
    · rw [hw5]; exact MapIs.put hm4 hents
  have cb5 : w5.cell? ⟨b, 0, none⟩ = some (.map (some m)) := by obtain ⟨c, _, _, _, _, _, h5⟩ := fin; exact h5.cell
  rw [hw4] at hmu
  clear hents hw5 word4 bag4 b4 hw4 bag3 b3 lm hsz
  have nb := World.new_ne w3 _ cb
  go_region_held3 (fun w' => w'.cell? ⟨b, 0, none⟩ = some (.map (some m))) (first | go_keep | exact cb5)
    (first
      | (go_at_call 19; with_reducible refine (hof _).mono ?_; rintro e w8 ⟨rfl, rfl⟩)
      | (go_at_call 18; with_reducible refine (hcn _).mono ?_; rintro e w9 ⟨rfl, rfl⟩))
  go_wp2
  go_ret
  exact ⟨rfl, fin⟩

end Go.Proofs.YtacbhdoeadpncaaGreatDoor

namespace Go.Proofs.YtacbhdoeadpncaaGreatDoor
open Go.ChangeShapes Go.WideShapes Go.ChangeAt Go.RowKit Go.Eng

/-! ### lists of numbers in memory -/

/-- The slice value L leads to the numbers ns. -/
def ListAt (w : World) (L : Value) (ns : List Int) : Prop :=
  (L = .slice none 0 0 ∧ ns = []) ∨
  ∃ (g cap : Nat) (cs : Array Value), L = .slice (some ⟨g, 0, none⟩) ns.length cap ∧ w.heap[g]? = some (.cells cs 27 (0, 0)) ∧ ns.length ≤ cap ∧ cap ≤ maxLen ∧ ∀ (j : Nat) (x : Int), ns[j]? = some x → cs[j]? = some (.int .u64 x)

theorem ListAt.of_own {w : World} {base n : Nat} {v : Value} {ns : List Int} (h : w.ownsRow base 27 1 v n (ns.map (Value.int .u64))) : ListAt w v ns := by
  have hl : ns.length = n := by have := h.1; simpa using this
  rcases h.2 with ⟨rfl, rfl⟩ | ⟨g, cap, cur, rfl, _, hg, hc, hm, hs, ht⟩
  · exact .inl ⟨rfl, List.length_eq_zero_iff.1 hl⟩
  · refine .inr ⟨g, cap, cur, by rw [hl], hg, by omega, hm, fun j x hj => ?_⟩
    have hjl : j < ns.length := (List.getElem?_eq_some_iff.1 hj).1
    have e : (cur.toList.take (n * 1))[j]? = (ns.map (Value.int .u64))[j]? := by rw [ht]
    rw [List.getElem?_take, if_pos (by omega), List.getElem?_map, hj] at e
    rw [← Array.getElem?_toList, e]; rfl

/-- What is kept of a list: no block of numbers is turned. -/
theorem ListAt.kept {w w' : World} {L : Value} {ns : List Int} (h : ListAt w L ns) (hk : ∀ (g : Nat) (cs : Array Value), w.heap[g]? = some (.cells cs 27 (0, 0)) → w'.heap[g]? = some (.cells cs 27 (0, 0))) : ListAt w' L ns := by
  rcases h with h | ⟨g, cap, cs, h1, h2, h3, h4, h5⟩
  · exact .inl h
  · exact .inr ⟨g, cap, cs, h1, hk g cs h2, h3, h4, h5⟩

theorem ListAt.below {w w' : World} {L : Value} {ns : List Int} (h : ListAt w L ns) (hb : Below w.heap.size w w') : ListAt w' L ns :=
  h.kept fun g _ hg => (hb.block g (Array.getElem?_eq_some_iff.1 hg).1).trans hg

theorem ListAt.cell {w : World} {g cap : Nat} {ns : List Int} {n : Nat} (h : ListAt w (.slice (some ⟨g, 0, none⟩) n cap) ns) : n = ns.length ∧ n ≤ cap ∧ cap ≤ maxLen ∧ ∀ (j : Nat) (x : Int), ns[j]? = some x → w.cell? ⟨g, j, none⟩ = some (.int .u64 x) := by
  rcases h with ⟨h, _⟩ | ⟨g', cap', cs, h1, h2, h3, h4, h5⟩
  · cases h
  · simp only [Value.slice.injEq, Option.some.injEq, Addr.mk.injEq, and_true] at h1
    obtain ⟨rfl, rfl, rfl⟩ := h1
    exact ⟨rfl, h3, h4, fun j x hj => by simp only [World.cell?, h2]; exact h5 j x hj⟩

set_option maxHeartbeats 1000000 in
theorem index_some (g n cap : Nat) (ns : List Int) (y : Int) (w : World) (hn : n ≤ maxLen) (hl : n = ns.length) (hc : ∀ (j : Nat) (x : Int), ns[j]? = some x → w.cell? ⟨g, j, none⟩ = some (.int .u64 x)) :
    Calls Tryz.prog 39 #[.slice (some ⟨g, 0, none⟩) n cap, .int .u64 y] w fun e w' => (∃ i : Int, e = .returned (.int .i64 i) ∧ (i = -1 ∨ (0 ≤ i ∧ i < n))) ∧ w' = w := by
  have hC : Aside (∀ (j : Nat) (x : Int), ns[j]? = some x → w.cell? ⟨g, j, none⟩ = some (.int .u64 x)) := hc
  clear hc
  unfold maxLen at hn
  go_enter Tryz.func39, Tryz.ntmps39
  go_wp2
  go_loop [8] (fun i => ∃ k : Nat, k ≤ n ∧ i = .int .i64 k) (fun i => n - (intOf i).toNat)
  case atStart => exact ⟨0, Nat.zero_le _, rfl⟩
  case round =>
    obtain ⟨k, hk, rfl⟩ := hrel
    by_cases hlt : k < n
    · have hx : ns[k]? = some ns[k] := List.getElem?_eq_getElem (by omega)
      have ha := hC.out k _ hx
      generalize ns[k] = x at ha
      by_cases hxy : y = x
      · subst hxy
        go_wp2
        go_ret
        exact ⟨⟨k, rfl, .inr ⟨by omega, by omega⟩⟩, rfl⟩
      · have hne : (y == x) = false := by simpa using hxy
        go_wp2
        go_round
        case rel => exact ⟨k + 1, by omega, by go_num⟩
        case measure => simp [intOf]; omega
    · go_wp2
      go_ret
      exact ⟨⟨-1, rfl, .inl rfl⟩, rfl⟩

theorem index_none (y : Int) (w : World) :
    Calls Tryz.prog 39 #[.slice none 0 0, .int .u64 y] w fun e w' => e = .returned (.int .i64 (-1)) ∧ w' = w := by
  go_enter Tryz.func39, Tryz.ntmps39
  go_wp2
  refine wp_loop_rounds 1 ?_
  rw [rounds_succ]
  go_wp2
  go_ret
  exact ⟨rfl, rfl⟩

/-- slices.Index over a list. -/
theorem index_list {w : World} {L : Value} {ns : List Int} (h : ListAt w L ns) (y : Int) :
    Calls Tryz.prog 39 #[L, .int .u64 y] w fun e w' => (∃ i : Int, e = .returned (.int .i64 i) ∧ (i = -1 ∨ (0 ≤ i ∧ i < ns.length))) ∧ w' = w := by
  rcases h with ⟨rfl, rfl⟩ | ⟨g, cap, cs, rfl, h2, h3, h4, h5⟩
  · exact (index_none y w).mono fun _ _ ⟨he, hw⟩ => ⟨⟨-1, he, .inl rfl⟩, hw⟩
  · exact index_some g ns.length cap ns y w (by omega) rfl (fun j x hj => by simp only [World.cell?, h2]; exact h5 j x hj)

end Go.Proofs.YtacbhdoeadpncaaGreatDoor

namespace Go.Proofs.YtacbhdoeadpncaaGreatDoor
open Go.ChangeShapes Go.WideShapes Go.ChangeAt Go.RowKit Go.Eng

theorem snap_index {w : World} {L : Value} {ns : List Int} (h : ListAt w L ns) (y : Int) :
    Calls Tryz.prog 28 #[.agg #[L], .int .u64 y] w fun e w' => (∃ i : Int, e = .returned (.int .i64 i) ∧ (i = -1 ∨ (0 ≤ i ∧ i < ns.length))) ∧ Below w.heap.size w w' := by
  have b1 : Below w.heap.size w (w.alloc (.cells #[L] 34)) := (Below.refl _ w).alloc (Nat.le_refl _) _
  have hi := index_list (h.below b1) y
  have hone : L.oneCell' = true := by rcases h with ⟨rfl, _⟩ | ⟨g, cap, cs, rfl, _⟩ <;> rfl
  have hcs : L.cells = #[L] := by rcases h with ⟨rfl, _⟩ | ⟨g, cap, cs, rfl, _⟩ <;> rfl
  clear h
  go_enter Tryz.func28, Tryz.ntmps28
  go_wp2_with (go_at_call 39; with_reducible refine hi.mono ?_; rintro e w1 ⟨⟨i, rfl, hi2⟩, rfl⟩)
  go_ret
  exact ⟨⟨i, rfl, hi2⟩, b1⟩

theorem clip_none (w : World) : Calls Tryz.prog 29 #[.slice none 0 0] w fun e w' => e = .returned (.slice none 0 0) ∧ w' = w := by
  go_enter Tryz.func29, Tryz.ntmps29
  go_wp2
  go_ret
  exact ⟨rfl, rfl⟩

theorem clip_some (g n cap : Nat) (hn : n ≤ cap) (hc : cap ≤ maxLen) (w : World) : Calls Tryz.prog 29 #[.slice (some ⟨g, 0, none⟩) n cap] w fun e w' => e = .returned (.slice (some ⟨g, 0, none⟩) n n) ∧ w' = w := by
  have hcm := hc
  unfold maxLen at hcm
  go_enter Tryz.func29, Tryz.ntmps29
  go_wp2
  go_ret
  exact ⟨by simp, rfl⟩

end Go.Proofs.YtacbhdoeadpncaaGreatDoor

namespace Go.Proofs.YtacbhdoeadpncaaGreatDoor
open Go.ChangeShapes Go.WideShapes Go.ChangeAt Go.RowKit Go.Eng

theorem info24 : (Tryz.prog.info? 27).map (fun i => (i.zero, i.size, i.bytes)) = some (some (.int .u64 0), 1, 8) := by kernel_rfl

theorem own_shape {w : World} {base e size n : Nat} {v : Value} {xs : List Value} (h : w.ownsRow base e size v n xs) (hn : 0 < n) : ∃ g cap, v = .slice (some ⟨g, 0, none⟩) n cap := by
  rcases h.2 with ⟨_, h0⟩ | ⟨g, cap, cur, rfl, _⟩
  · omega
  · exact ⟨g, cap, rfl⟩

set_option maxHeartbeats 2000000 in
set_option maxRecDepth 1000000 in
theorem with_some {w : World} {g n cap : Nat} {ns : List Int} (h : ListAt w (.slice (some ⟨g, 0, none⟩) n cap) ns) (y : Int) (hl : ns.length ≤ 100000) :
    Calls Tryz.prog 22 #[.agg #[.slice (some ⟨g, 0, none⟩) n cap], .int .u64 y] w fun e w' => ∃ L' ns', e = .returned (.agg #[L']) ∧ ListAt w' L' ns' ∧ ns'.length ≤ ns.length + 1 ∧ Below w.heap.size w w' := by
  obtain ⟨i0, hi, hz0, hz1, hz2⟩ := info_parts info24
  obtain ⟨hn, hnc, hcm, hcell⟩ := h.cell
  obtain ⟨w1, hw1⟩ : ∃ w1, w1 = (w.alloc (.cells #[.slice (some ⟨g, 0, none⟩) n cap] 34)).alloc (.cells #[.slice none 0 0] 34) := ⟨_, rfl⟩
  have b1 : Below w.heap.size w w1 := by rw [hw1]; exact ((Below.refl _ w).alloc (Nat.le_refl _) _).alloc (by simp) _
  have h1 := h.below b1
  have hix := snap_index h1 y
  rw [hw1] at hix
  have lw1 : w1.heap.size = w.heap.size + 2 := by rw [hw1]; simp
  have r0 : w1.heap[w.heap.size]? = some (.cells #[.slice (some ⟨g, 0, none⟩) n cap] 34 (0, 0)) := by
    rw [hw1, Below.heap_alloc _ _ _ (by simp)]; exact (Go.MapKept.heap_alloc w _).1
  have r1 : w1.heap[w.heap.size + 1]? = some (.cells #[.slice none 0 0] 34 (0, 0)) := by
    have e := (Go.MapKept.heap_alloc (w.alloc (.cells #[.slice (some ⟨g, 0, none⟩) n cap] 34)) (.cells #[.slice none 0 0] 34)).1
    have hs : (w.alloc (.cells #[.slice (some ⟨g, 0, none⟩) n cap] 34)).heap.size = w.heap.size + 1 := by simp
    rw [hs, ← hw1] at e
    exact e
  have K : Aside (∀ {v : World}, Below w1.heap.size w1 v → v.cell? ⟨w.heap.size, 0, none⟩ = some (.slice (some ⟨g, 0, none⟩) n cap) ∧ v.cell? ⟨w.heap.size + 1, 0, none⟩ = some (.slice none 0 0) ∧ v.frozen? ⟨w.heap.size + 1, 0, none⟩ = false ∧ Aside (v.heap[w.heap.size + 1]? = some (.cells #[.slice none 0 0] 34 (0, 0)) ∧ ListAt v (.slice (some ⟨g, 0, none⟩) n cap) ns ∧ Below w.heap.size w v ∧ ∀ (o : Obj) (b : Addr), some (⟨g, 0, none⟩ : Addr) = some b → ∀ (j : Nat) (u : Value), (ns.map (Value.int .u64))[j]? = some u → (v.alloc o).cell? (b.add j) = some u)) := by
    intro v hv
    have e0 := (hv.block w.heap.size (by omega)).trans r0
    have e1 := (hv.block (w.heap.size + 1) (by omega)).trans r1
    refine ⟨by simp [World.cell?, e0], by simp [World.cell?, e1], by simp [World.frozen?, e1], e1, h1.below hv, b1.trans (hv.mono b1.size), ?_⟩
    rintro o b hb j u hu
    obtain rfl := Option.some.inj hb
    rw [List.getElem?_map] at hu
    obtain ⟨x, hx, rfl⟩ := Option.map_eq_some_iff.1 hu
    rw [Eng.add_plain, Nat.zero_add]
    have hv2 := (h1.below hv).below ((Below.refl _ v).alloc (Nat.le_refl _) o)
    exact hv2.cell.2.2.2 j x hx
  have clip := fun w => clip_some g n cap hnc hcm w
  have hol : Aside ((ns.map (Value.int .u64)).length = n * 1) := by show (ns.map (Value.int .u64)).length = n * 1; simp [hn]
  have hn9 : n ≤ 100000 := by omega
  clear h h1 hcell r0 r1 b1 hn
  rw [hw1] at K lw1
  clear hw1
  go_enter Tryz.func22, Tryz.ntmps22
  go_wp2_with (first
    | (go_at_call 28; with_reducible refine hix.mono ?_; rintro e w2 ⟨⟨i, rfl, hi2⟩, b2⟩; obtain ⟨q0, q1, q2, q3⟩ := K.out b2)
    | (go_at_call 29; with_reducible refine (clip _).mono ?_; rintro e w3 ⟨rfl, rfl⟩)
    | (at_builtin; refine wpList_append_grows _ rfl (.tmp 12) (.tmp 14) 32 rfl 27 i0 (.int .u64 0) 1 8 Tryz.underlying32 hi hz0 hz1 hz2 rfl (by decide) (some ⟨g, 0, none⟩) n n (ns.map (Value.int .u64)) rfl (fun h => by cases h) hol.out (q3.out.2.2.2 _) ⟨w3.heap.size, 0, none⟩ 1 1 [.int .u64 y] rfl rfl (fun j u hj => by cases j with | zero => (simp at hj; subst hj; simp [Addr.add]) | succ j => simp at hj) (by simp [Value.oneCell']) (by omega) (by unfold maxLen; omega) (by omega) ?_; intro v' w4 hown hgrow; obtain ⟨g4, cap4, rfl⟩ := own_shape hown (Nat.succ_pos n); have b4 := b2.trans ((((Below.refl w3.heap.size w3).alloc (Nat.le_refl _) (.cells #[.int .u64 y] 27)).grown hgrow (by simp) (by intro k hk; cases hk)).mono b2.size); obtain ⟨t0, t1, t2, t3⟩ := K.out b4))
  · obtain ⟨q4, q5, q6, _⟩ := q3.out
    refine bodyPost_ret (v := .agg #[.slice (some ⟨g, 0, none⟩) n cap]) (by simp [results, Tryz.results22, go_sem, World.cell?_setCell_same _ _ _ q1]) rfl ⟨_, ns, rfl, ?_, by omega, ?_⟩
    · refine q5.kept fun k cs hk => ?_
      rw [Below.heap_setCell _ _ _ _ (by rintro rfl; rw [q4] at hk; simp at hk)]
      exact hk
    · exact q6.setCell (by simp) _
  · obtain ⟨t4, t5, t6, _⟩ := t3.out
    refine bodyPost_ret (v := .agg #[.slice (some ⟨g4, 0, none⟩) (n + 1) cap4]) (by simp [results, Tryz.results22, go_sem, World.cell?_setCell_same _ _ _ t1]) rfl ⟨_, ns ++ [y], rfl, ?_, by simp, ?_⟩
    · have hl4 : ListAt w4 (.slice (some ⟨g4, 0, none⟩) (n + 1) cap4) (ns ++ [y]) := ListAt.of_own (n := n + 1) (by rw [List.map_append]; exact hown)
      refine hl4.kept fun k cs hk => ?_
      rw [Below.heap_setCell _ _ _ _ (by rintro rfl; rw [t4] at hk; simp at hk)]
      exact hk
    · exact t6.setCell (by simp) _

end Go.Proofs.YtacbhdoeadpncaaGreatDoor

namespace Go.Proofs.YtacbhdoeadpncaaGreatDoor
open Go.ChangeShapes Go.WideShapes Go.ChangeAt Go.RowKit Go.Eng

set_option maxHeartbeats 2000000 in
set_option maxRecDepth 1000000 in
theorem with_none {w : World} (y : Int) :
    Calls Tryz.prog 22 #[.agg #[.slice none 0 0], .int .u64 y] w fun e w' => ∃ L' ns', e = .returned (.agg #[L']) ∧ ListAt w' L' ns' ∧ ns'.length ≤ 1 ∧ Below w.heap.size w w' := by
  obtain ⟨i0, hi, hz0, hz1, hz2⟩ := info_parts info24
  have h : ListAt w (.slice none 0 0) [] := .inl ⟨rfl, rfl⟩
  obtain ⟨w1, hw1⟩ : ∃ w1, w1 = (w.alloc (.cells #[.slice none 0 0] 34)).alloc (.cells #[.slice none 0 0] 34) := ⟨_, rfl⟩
  have b1 : Below w.heap.size w w1 := by rw [hw1]; exact ((Below.refl _ w).alloc (Nat.le_refl _) _).alloc (by simp) _
  have h1 := h.below b1
  have hix := snap_index h1 y
  rw [hw1] at hix
  have lw1 : w1.heap.size = w.heap.size + 2 := by rw [hw1]; simp
  have r0 : w1.heap[w.heap.size]? = some (.cells #[.slice none 0 0] 34 (0, 0)) := by
    rw [hw1, Below.heap_alloc _ _ _ (by simp)]; exact (Go.MapKept.heap_alloc w _).1
  have r1 : w1.heap[w.heap.size + 1]? = some (.cells #[.slice none 0 0] 34 (0, 0)) := by
    have e := (Go.MapKept.heap_alloc (w.alloc (.cells #[.slice none 0 0] 34)) (.cells #[.slice none 0 0] 34)).1
    have hs : (w.alloc (.cells #[.slice none 0 0] 34)).heap.size = w.heap.size + 1 := by simp
    rw [hs, ← hw1] at e
    exact e
  have K : Aside (∀ {v : World}, Below w1.heap.size w1 v → v.cell? ⟨w.heap.size, 0, none⟩ = some (.slice none 0 0) ∧ v.cell? ⟨w.heap.size + 1, 0, none⟩ = some (.slice none 0 0) ∧ v.frozen? ⟨w.heap.size + 1, 0, none⟩ = false ∧ Aside (v.heap[w.heap.size + 1]? = some (.cells #[.slice none 0 0] 34 (0, 0)) ∧ ListAt v (.slice none 0 0) [] ∧ Below w.heap.size w v)) := by
    intro v hv
    have e0 := (hv.block w.heap.size (by omega)).trans r0
    have e1 := (hv.block (w.heap.size + 1) (by omega)).trans r1
    exact ⟨by simp [World.cell?, e0], by simp [World.cell?, e1], by simp [World.frozen?, e1], e1, h1.below hv, b1.trans (hv.mono b1.size)⟩
  have clip := fun w => clip_none w
  clear h h1 r0 r1 b1
  rw [hw1] at K lw1
  clear hw1
  go_enter Tryz.func22, Tryz.ntmps22
  go_wp2_with (first
    | (go_at_call 28; with_reducible refine hix.mono ?_; rintro e w2 ⟨⟨i, rfl, hi2⟩, b2⟩; obtain ⟨q0, q1, q2, q3⟩ := K.out b2)
    | (go_at_call 29; with_reducible refine (clip _).mono ?_; rintro e w3 ⟨rfl, rfl⟩)
    | (at_builtin; refine wpList_append_grows _ rfl (.tmp 12) (.tmp 14) 32 rfl 27 i0 (.int .u64 0) 1 8 Tryz.underlying32 hi hz0 hz1 hz2 rfl (by decide) none 0 0 [] rfl (fun _ => ⟨rfl, rfl⟩) rfl (by intro _ h; cases h) ⟨w3.heap.size, 0, none⟩ 1 1 [.int .u64 y] rfl rfl (fun j u hj => by cases j with | zero => (simp at hj; subst hj; simp [Addr.add]) | succ j => simp at hj) (by simp [Value.oneCell']) (by omega) (by unfold maxLen; omega) (by omega) ?_; intro v' w4 hown hgrow; obtain ⟨g4, cap4, rfl⟩ := own_shape hown (by decide); have b4 := b2.trans ((((Below.refl w3.heap.size w3).alloc (Nat.le_refl _) (.cells #[.int .u64 y] 27)).grown hgrow (by simp) (by intro k hk; cases hk)).mono b2.size); obtain ⟨t0, t1, t2, t3⟩ := K.out b4))
  · obtain ⟨q4, q5, q6⟩ := q3.out
    refine bodyPost_ret (v := .agg #[.slice none 0 0]) (by simp [results, Tryz.results22, go_sem, World.cell?_setCell_same _ _ _ q1]) rfl ⟨_, [], rfl, ?_, by simp, ?_⟩
    · refine q5.kept fun k cs hk => ?_
      rw [Below.heap_setCell _ _ _ _ (by rintro rfl; rw [q4] at hk; simp at hk)]
      exact hk
    · exact q6.setCell (by simp) _
  · obtain ⟨t4, t5, t6⟩ := t3.out
    refine bodyPost_ret (v := .agg #[.slice (some ⟨g4, 0, none⟩) 1 cap4]) (by simp [results, Tryz.results22, go_sem, World.cell?_setCell_same _ _ _ t1]) rfl ⟨_, [y], rfl, ?_, by simp, ?_⟩
    · have hl4 : ListAt w4 (.slice (some ⟨g4, 0, none⟩) 1 cap4) [y] := ListAt.of_own (n := 1) hown
      refine hl4.kept fun k cs hk => ?_
      rw [Below.heap_setCell _ _ _ _ (by rintro rfl; rw [t4] at hk; simp at hk)]
      exact hk
    · exact t6.setCell (by simp) _

/-- snap.With, over a list. -/
theorem snap_with {w : World} {L : Value} {ns : List Int} (h : ListAt w L ns) (y : Int) (hl : ns.length ≤ 100000) :
    Calls Tryz.prog 22 #[.agg #[L], .int .u64 y] w fun e w' => ∃ L' ns', e = .returned (.agg #[L']) ∧ ListAt w' L' ns' ∧ ns'.length ≤ ns.length + 1 ∧ Below w.heap.size w w' := by
  have h0 := h
  rcases h with ⟨rfl, rfl⟩ | ⟨g, cap, cs, rfl, _⟩
  · exact with_none y
  · exact with_some h0 y hl

end Go.Proofs.YtacbhdoeadpncaaGreatDoor

namespace Go.Proofs.YtacbhdoeadpncaaGreatDoor
open Go.ChangeShapes Go.WideShapes Go.ChangeAt Go.RowKit Go.Eng

theorem known_calls {w : World} {b m : Nat} {L : Value} {es : List (Int × Pl)} (h : BagAt w b m L es) (id : Int) :
    Calls Tryz.prog 21 #[.pointer (some ⟨b, 0, none⟩), .int .u64 id] w fun e w' => e = .returned (.int .i64 (if (aget id es).isSome then 0 else 9)) ∧ Below w.heap.size w w' := by
  have hg := get_calls h id
  obtain ⟨p, x, y, z, hs⟩ := got_shape (aget id es)
  rw [hs] at hg
  cases hk : (aget id es).isSome with
  | true =>
    rw [hk] at hg
    clear h hs hk
    go_enter Tryz.func21, Tryz.ntmps21
    go_wp2_with (go_at_call 17; with_reducible refine hg.mono ?_; rintro e w1 ⟨rfl, b1⟩)
    go_ret
    exact ⟨rfl, b1.alloc b1.size _⟩
  | false =>
    rw [hk] at hg
    clear h hs hk
    go_enter Tryz.func21, Tryz.ntmps21
    go_wp2_with (go_at_call 17; with_reducible refine hg.mono ?_; rintro e w1 ⟨rfl, b1⟩)
    go_ret
    exact ⟨rfl, b1.alloc b1.size _⟩

theorem BagAt.cell1 {w : World} {b m : Nat} {L : Value} {es : List (Int × Pl)} (h : BagAt w b m L es) : w.cell? ⟨b, 1, none⟩ = some L := by simp [World.cell?, h.1]
theorem BagAt.free1 {w : World} {b m : Nat} {L : Value} {es : List (Int × Pl)} (h : BagAt w b m L es) : w.frozen? ⟨b, 1, none⟩ = false := by simp [World.frozen?, h.1]

theorem BagAt.setList {w : World} {b m : Nat} {L L' : Value} {es : List (Int × Pl)} (h : BagAt w b m L es) (hbm : b ≠ m) : BagAt (w.setCell ⟨b, 1, none⟩ L') b m L' es := by
  refine ⟨?_, h.2.same (Below.heap_setCell _ _ _ _ (fun e => hbm e.symm))⟩
  rw [setCell_cells h.1]
  have := h.lt.1
  simp [this]

theorem ListAt.setBag {w : World} {b m : Nat} {L L' v : Value} {es : List (Int × Pl)} {ns : List Int} (h : ListAt w L' ns) (hb : BagAt w b m L es) : ListAt (w.setCell ⟨b, 1, none⟩ v) L' ns :=
  h.kept fun k cs hk => by
    rw [Below.heap_setCell _ _ _ _ (by show k ≠ b; rintro rfl; rw [hb.1] at hk; simp at hk)]
    exact hk

theorem ListAt.shape {w : World} {L : Value} {ns : List Int} (h : ListAt w L ns) : ∃ a n c, L = .slice a n c := by
  rcases h with ⟨rfl, _⟩ | ⟨g, cap, cs, rfl, _⟩
  · exact ⟨_, _, _, rfl⟩
  · exact ⟨_, _, _, rfl⟩

/-- What a call that lists, or unlists, leaves. -/
def Listed (w : World) (b m : Nat) (es : List (Int × Pl)) (k : Nat) (w' : World) : Prop :=
  ∃ L' ns', Upto (· = b) w w' ∧ BagAt w' b m L' es ∧ ListAt w' L' ns' ∧ ns'.length ≤ k

set_option maxHeartbeats 1000000 in
theorem publish_calls {w : World} {b m : Nat} {L : Value} {es : List (Int × Pl)} {ns : List Int} (h : BagAt w b m L es) (hbm : b ≠ m) (hl : ListAt w L ns) (hn : ns.length ≤ 100000) (id : Int) :
    Calls Tryz.prog 9 #[.pointer (some ⟨b, 0, none⟩), .int .u64 id] w fun e w' => (∃ r, e = .returned (.int .i64 r)) ∧ Listed w b m es (ns.length + 1) w' := by
  have hk := known_calls h id
  have W1 : Aside (∀ {v : World}, Below w.heap.size w v → BagAt v b m L es ∧ ListAt v L ns) := fun hv => ⟨h.below hv h.lt.1 h.lt.2, hl.below hv⟩
  cases hs : (aget id es).isSome with
  | false =>
    rw [hs] at hk
    clear h hs
    go_enter Tryz.func9, Tryz.ntmps9
    go_wp2_with (go_at_call 21; with_reducible refine hk.mono ?_; rintro e w1 ⟨rfl, b1⟩)
    go_ret
    obtain ⟨k1, k2⟩ := W1.out b1
    exact ⟨⟨_, rfl⟩, L, ns, .of_below b1, k1, k2, by omega⟩
  | true =>
    rw [hs] at hk
    obtain ⟨a, n, c, rfl⟩ := hl.shape
    have hw : Aside (∀ {v : World}, ListAt v (.slice a n c) ns → Calls Tryz.prog 22 #[.agg #[.slice a n c], .int .u64 id] v fun e w' => ∃ L' ns', e = .returned (.agg #[L']) ∧ ListAt w' L' ns' ∧ ns'.length ≤ ns.length + 1 ∧ Below v.heap.size v w') := fun hv => snap_with hv id hn
    clear h hs hl
    go_enter Tryz.func9, Tryz.ntmps9
    go_wp2_with (first
      | (go_at_call 21; with_reducible refine hk.mono ?_; rintro e w1 ⟨rfl, b1⟩; obtain ⟨k1, k2⟩ := W1.out b1; have c1 := k1.cell1)
      | (go_at_call 22; have h5 := hw.out k2; with_reducible refine h5.mono ?_; clear h5 c1; rintro e w2 ⟨L', ns', rfl, l2, ln, b2⟩; have k3 := k1.below b2 k1.lt.1 k1.lt.2; have c2 := k3.cell1; have f2 := k3.free1; obtain ⟨a', n', c', rfl⟩ := l2.shape))
    go_ret
    exact ⟨⟨_, rfl⟩, _, ns', (Upto.of_below (S := (· = b)) (b1.trans (b2.mono b1.size))).setCell (p := ⟨b, 1, none⟩) (.inl rfl) _, k3.setList hbm, l2.setBag k3, ln⟩

end Go.Proofs.YtacbhdoeadpncaaGreatDoor

namespace Go.Proofs.YtacbhdoeadpncaaGreatDoor
open Go.ChangeShapes Go.WideShapes Go.ChangeAt Go.RowKit Go.Eng

theorem enter_range {w : World} {b m : Nat} {L : Value} {es : List (Int × Pl)} (h : BagAt w b m L es) (id st : Int) (now : Nat) (hbad : id = 0 ∨ st < 0 ∨ 3 < st) :
    Calls Tryz.prog 6 #[.pointer (some ⟨b, 0, none⟩), .int .u64 id, .int .i64 st, .int .u64 now] w fun e w' => e = .returned (.int .i64 2) ∧ Below w.heap.size w w' := by
  have hg := get_calls h id
  obtain ⟨p, x, y, z, hs⟩ := got_shape (aget id es)
  rw [hs] at hg
  generalize (aget id es).isSome = ok at hg
  clear h hs
  by_cases hi : id = 0
  · subst hi
    go_enter Tryz.func6, Tryz.ntmps6
    go_wp2_with (go_at_call 17; with_reducible refine hg.mono ?_; rintro e w1 ⟨rfl, b1⟩)
    go_ret
    exact ⟨rfl, b1.alloc b1.size _⟩
  · have hi' : (id == 0) = false := by simpa using hi
    by_cases hl : st < 0
    · go_enter Tryz.func6, Tryz.ntmps6
      go_wp2_with (go_at_call 17; with_reducible refine hg.mono ?_; rintro e w1 ⟨rfl, b1⟩)
      go_ret
      exact ⟨rfl, b1.alloc b1.size _⟩
    · have hh : 3 < st := by omega
      go_enter Tryz.func6, Tryz.ntmps6
      go_wp2_with (go_at_call 17; with_reducible refine hg.mono ?_; rintro e w1 ⟨rfl, b1⟩)
      go_ret
      exact ⟨rfl, b1.alloc b1.size _⟩

theorem enter_twice {w : World} {b m : Nat} {L : Value} {es : List (Int × Pl)} (h : BagAt w b m L es) (id st : Int) (now : Nat) {p : Pl} (hid : aget id es = some p) (hi : (id == 0) = false) (h0 : ¬ st < 0) (h3 : ¬ 3 < st) :
    Calls Tryz.prog 6 #[.pointer (some ⟨b, 0, none⟩), .int .u64 id, .int .i64 st, .int .u64 now] w fun e w' => e = .returned (.int .i64 10) ∧ Below w.heap.size w w' := by
  have hg := get_calls h id
  rw [hid] at hg
  change Calls Tryz.prog 17 _ w fun e w' => e = .returned (.tuple #[.agg #[.pointer (some ⟨p.c, 0, none⟩), .int .u64 p.born, .int .u64 p.since, .int .u64 p.proved], .bool true]) ∧ Below w.heap.size w w' at hg
  clear h hid
  go_enter Tryz.func6, Tryz.ntmps6
  go_wp2_with (go_at_call 17; with_reducible refine hg.mono ?_; rintro e w1 ⟨rfl, b1⟩)
  go_ret
  exact ⟨rfl, b1.alloc b1.size _⟩

/-- What Enter does: nothing; or one entry more, in a cell of its own. -/
theorem enter_any {w : World} {b m : Nat} {L : Value} {es : List (Int × Pl)} (h : BagAt w b m L es) (hbm : b ≠ m) (id st : Int) (now : Nat) :
    Calls Tryz.prog 6 #[.pointer (some ⟨b, 0, none⟩), .int .u64 id, .int .i64 st, .int .u64 now] w fun e w' => (∃ r, e = .returned (.int .i64 r)) ∧
      (Below w.heap.size w w' ∨ (aget id es = none ∧ ∃ c s, w.heap.size ≤ c ∧ c ≠ m ∧ c ≠ b ∧ s < 4 ∧ Upto (· = m) w w' ∧ WordAt w' c s ∧ BagAt w' b m L (aput id ⟨c, now, now, now⟩ es))) := by
  by_cases hbad : id = 0 ∨ st < 0 ∨ 3 < st
  · exact (enter_range h id st now hbad).mono fun _ _ ⟨he, hb⟩ => ⟨⟨_, he⟩, .inl hb⟩
  · have hi : (id == 0) = false := by
      have : ¬ id = 0 := fun e => hbad (.inl e)
      simpa using this
    have h0 : ¬ st < 0 := fun e => hbad (.inr (.inl e))
    have h3 : ¬ 3 < st := fun e => hbad (.inr (.inr e))
    cases hid : aget id es with
    | some p => exact (enter_twice h id st now hid hi h0 h3).mono fun _ _ ⟨he, hb⟩ => ⟨⟨_, he⟩, .inl hb⟩
    | none =>
      obtain ⟨s, rfl⟩ : ∃ s : Nat, st = s := ⟨st.toNat, by omega⟩
      refine (enter_new h hbm id hid hi s (by omega) now).mono ?_
      rintro e w' ⟨he, c, k1, k2, k3, k4, k5, k6⟩
      exact ⟨⟨_, he⟩, .inr ⟨rfl, c, s, k1, k2, k3, by omega, k4, k5, k6⟩⟩

end Go.Proofs.YtacbhdoeadpncaaGreatDoor
