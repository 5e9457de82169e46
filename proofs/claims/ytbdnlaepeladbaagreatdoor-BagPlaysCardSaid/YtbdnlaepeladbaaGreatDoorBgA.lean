/- What a bag's functions do with words, cells, places and the list. Conditions: how the bag lies in memory. -/
import Derived.Test.YtbdnlaepeladbaaGreatDoorProg
import Derived.WalkKit
import Derived.ProofKit
import Derived.OpenShut
import Derived.LoopN
import Derived.KernelRfl
import Derived.WalkSmall
import Derived.Laws.LoneSync
import Derived.Test.YtbdnlaepeladbaaGreatDoorEngD
import Derived.Test.YtbdnlaepeladbaaGreatDoorEngB
import Derived.RegionTactic
import Derived.StillTailTactics
import Derived.ChangeAlike
import Derived.BigRegion
import Derived.BigQuiet
import Derived.Deep.QuietTactic
import Derived.Deep.RegionWith
import Derived.Deep.RegionLaw
import Derived.Deep.RegionHeld3
import Derived.WalkSpells
import Derived.Laws.Pointers
import Derived.Deep.LoopGhost
import Derived.LoopTactic
import Derived.OwnWalk
import Derived.ArgAppend
import Derived.Test.YtbdnlaepeladbaaGreatDoorMo
import Derived.Test.YtbdnlaepeladbaaGreatDoorShelfB
import Derived.Ground.SlgnProg
import Derived.Shelf.SlicesE.Clone
import Derived.Shelf.SlicesE.Delete
set_option linter.unusedSimpArgs false
set_option linter.unusedVariables false
namespace Go.Proofs.YtbdnlaepeladbaaGreatDoor
open Go.ChangeShapes Go.WideShapes Go.ChangeAt Go.RowKit

theorem and3 {n : Nat} (h : n < 18446744073709551616) : bits BinOp.and IntKind.u64 (n : Int) 3 = ((n % 4 : Nat) : Int) := by
  have := bits_and_u64_nat n 3 (by omega) (by omega)
  rw [show (3 : Nat) = 2 ^ 2 - 1 from rfl, Nat.and_two_pow_sub_one_eq_mod] at this
  exact this

theorem or4 {x s : Nat} (hx : x < 18446744073709551616) (h4 : x % 4 = 0) (hs : s < 4) : bits BinOp.or IntKind.u64 (x : Int) (s : Int) = ((x + s : Nat) : Int) := by
  have := bits_or_u64_nat x s (by omega) (by omega)
  rw [this]
  congr 1
  have h : x = 2 ^ 2 * (x / 4) := by omega
  rw [h, ← Nat.two_pow_add_eq_or_of_lt (by omega)]

theorem state_calls (n : Nat) (h : n < 18446744073709551616) (w : World) : Calls Tryz.prog 134 #[.int .u64 n] w fun e w' => e = .returned (.int .i64 ((n % 4 : Nat) : Int)) ∧ w' = w := by
  have h3 := and3 h
  have hw : wrap64 ((n % 4 : Nat) : Int) = ((n % 4 : Nat) : Int) := by unfold wrap64; omega
  go_enter Tryz.func134, Tryz.ntmps134
  go_wp2
  go_ret
  exact ⟨by first | rfl | simp [h3] | simp [h3, hw], rfl⟩

theorem version_calls (n : Nat) (w : World) : Calls Tryz.prog 206 #[.int .u64 n] w fun e w' => e = .returned (.int .u64 ((n / 4 : Nat) : Int)) ∧ w' = w := by
  go_enter Tryz.func206, Tryz.ntmps206
  go_wp2
  go_ret
  exact ⟨rfl, rfl⟩

/-- A word of a state and a version. -/
def ofN (s v : Nat) : Nat := v * 4 % 18446744073709551616 + s

theorem of_calls (s v : Nat) (hs : s < 4) (w : World) : Calls Tryz.prog 106 #[.int .i64 s, .int .u64 v] w fun e w' => e = .returned (.int .u64 (ofN s v : Nat)) ∧ w' = w := by
  have h1 : IntKind.u64.wrap ((v : Int) * 4) = ((v * 4 % 18446744073709551616 : Nat) : Int) := by simp [IntKind.wrap, IntKind.bits, IntKind.signed]
  have h2 : IntKind.u64.wrap (s : Int) = (s : Int) := by simp [IntKind.wrap, IntKind.bits, IntKind.signed]; omega
  have h3 := and3 (n := s) (by omega)
  rw [Nat.mod_eq_of_lt hs] at h3
  have h4 := or4 (x := v * 4 % 18446744073709551616) (s := s) (Nat.mod_lt _ (by decide)) (by omega) hs
  have h5 : ((v * 4 % 18446744073709551616 : Nat) : Int) = (v : Int) * 4 % 18446744073709551616 := by omega
  rw [h5] at h4
  clear hs h5
  unfold ofN
  go_enter Tryz.func106, Tryz.ntmps106
  go_wp2
  go_ret
  exact ⟨congrArg (fun x => Ending.returned (Value.int .u64 x)) (by omega), rfl⟩

def mayB (f t : Int) : Bool := (f == 0 && (t == 1 || t == 2)) || (f == 1 && (t == 0 || t == 3)) || (f == 2 && (t == 0 || t == 1 || t == 3))

theorem may_calls (f t : Int) (w : World) : Calls Tryz.prog 205 #[.int .i64 f, .int .i64 t] w fun e w' => e = .returned (.bool (mayB f t)) ∧ w' = w := by
  unfold mayB
  by_cases f0 : f = 0
  · subst f0
    go_enter Tryz.func205, Tryz.ntmps205
    go_wp2
    all_goals go_ret
    all_goals exact ⟨by simp [*], rfl⟩
  · by_cases f1 : f = 1
    · subst f1
      go_enter Tryz.func205, Tryz.ntmps205
      go_wp2
      all_goals go_ret
      all_goals exact ⟨by simp [*], rfl⟩
    · by_cases f2 : f = 2
      · subst f2
        go_enter Tryz.func205, Tryz.ntmps205
        go_wp2
        all_goals go_ret
        all_goals exact ⟨by simp [*], rfl⟩
      · go_enter Tryz.func205, Tryz.ntmps205
        go_wp2
        all_goals go_ret
        all_goals exact ⟨by simp [*], rfl⟩
end Go.Proofs.YtbdnlaepeladbaaGreatDoor

namespace Go.Proofs.YtbdnlaepeladbaaGreatDoor
open Go.ChangeShapes Go.WideShapes Go.ChangeAt Go.RowKit

/-- The word that goes on. -/
def toN (n : Nat) (st : Int) : Nat := ofN st.toNat (n / 4 + 1)

theorem ofN_lt {s v : Nat} (hs : s < 4) : ofN s v < 18446744073709551616 := by unfold ofN; omega
theorem may_range {f t : Int} (h : mayB f t = true) : 0 ≤ t ∧ t < 4 := by
  unfold mayB at h
  simp only [Bool.or_eq_true, Bool.and_eq_true, beq_iff_eq] at h
  omega

theorem to_no (n : Nat) (hn : n < 18446744073709551616) (st : Int) (h : mayB ((n % 4 : Nat) : Int) st = false) (w : World) :
    Calls Tryz.prog 167 #[.int .u64 n, .int .i64 st] w fun e w' => e = .returned (.tuple #[.int .u64 n, .bool false]) ∧ w' = w := by
  have c1 := fun w => state_calls n hn w
  have c2 := fun w => may_calls ((n % 4 : Nat) : Int) st w
  rw [h] at c2
  clear h hn
  generalize ((n % 4 : Nat) : Int) = f at c1 c2
  go_enter Tryz.func167, Tryz.ntmps167
  go_wp2_with (first | (go_at_call 134; with_reducible refine (c1 _).mono ?_; rintro e w' ⟨rfl, rfl⟩) | (go_at_call 205; with_reducible refine (c2 _).mono ?_; rintro e w' ⟨rfl, rfl⟩))
  go_ret2
  exact ⟨rfl, rfl⟩

theorem to_yes (n : Nat) (hn : n < 18446744073709551616) (s : Nat) (hs : s < 4) (h : mayB ((n % 4 : Nat) : Int) s = true) (w : World) :
    Calls Tryz.prog 167 #[.int .u64 n, .int .i64 s] w fun e w' => e = .returned (.tuple #[.int .u64 (ofN s (n / 4 + 1) : Nat), .bool true]) ∧ w' = w := by
  have c1 := fun w => state_calls n hn w
  have c2 := fun w => may_calls ((n % 4 : Nat) : Int) s w
  have c3 := fun w => version_calls n w
  have c4 := fun w => of_calls s (n / 4 + 1) hs w
  rw [h] at c2
  have hw : IntKind.u64.wrap (((n / 4 : Nat) : Int) + 1) = ((n / 4 + 1 : Nat) : Int) := by simp [IntKind.wrap, IntKind.bits, IntKind.signed]; omega
  clear h hn hs
  generalize ((n % 4 : Nat) : Int) = f at c1 c2
  generalize ((n / 4 + 1 : Nat) : Int) = v1 at hw c4
  generalize ((n / 4 : Nat) : Int) = v at hw c3
  generalize ((ofN s (n / 4 + 1) : Nat) : Int) = r at c4 ⊢
  go_enter Tryz.func167, Tryz.ntmps167
  go_wp2_with (first | (go_at_call 134; with_reducible refine (c1 _).mono ?_; rintro e w' ⟨rfl, rfl⟩) | (go_at_call 205; with_reducible refine (c2 _).mono ?_; rintro e w' ⟨rfl, rfl⟩) | (go_at_call 206; with_reducible refine (c3 _).mono ?_; rintro e w' ⟨rfl, rfl⟩) | (go_at_call 106; with_reducible refine (c4 _).mono ?_; rintro e w' ⟨rfl, rfl⟩))
  go_ret2
  exact ⟨rfl, rfl⟩

/-! ### cells -/

theorem st_calls (a : Addr) (y : Int) (u : Value) (w : World) (hc : w.cell? a = some u) (hz : w.frozen? a = false) :
    Calls Tryz.prog 175 #[.pointer (some a), .int .u64 y] w fun e w' => e = .returned (.tuple #[]) ∧ w' = w.setCell a (.int .u64 y) := by
  obtain ⟨b, off, spot⟩ := a
  have hspot : spot = none := World.cell?_spot hc
  subst hspot
  have hs := fun a w hc hz => run_call_store (P := Tryz.prog) Tryz.func210 (by kernel_rfl) (by kernel_rfl) (by kernel_rfl) (by kernel_rfl) (a := a) (k := .u64) (y := y) (u := u) (w := w) hc hz
  have h1 := hs ⟨b, off, none⟩ w hc hz
  clear hs
  go_enter Tryz.func175, Tryz.ntmps175
  go_wp2
  go_end0
  exact ⟨rfl, rfl⟩

theorem ld_calls (b off : Nat) (x : Int) (w : World) (hc : w.cell? ⟨b, off, none⟩ = some (.int .u64 x)) :
    Calls Tryz.prog 166 #[.pointer (some ⟨b, off, none⟩)] w fun e w' => e = .returned (.int .u64 x) ∧ w' = w := by
  have h1 := run_call_load (P := Tryz.prog) Tryz.func204 (by kernel_rfl) (by kernel_rfl) (by kernel_rfl) .u64 (by kernel_rfl) hc
  go_enter Tryz.func166, Tryz.ntmps166
  go_wp2
  go_ret
  exact ⟨rfl, rfl⟩

theorem cas_hit (b off : Nat) (x y : Int) (w : World) (hc : w.cell? ⟨b, off, none⟩ = some (.int .u64 x)) (hz : w.frozen? ⟨b, off, none⟩ = false) :
    Calls Tryz.prog 168 #[.pointer (some ⟨b, off, none⟩), .int .u64 x, .int .u64 y] w fun e w' => e = .returned (.bool true) ∧ w' = w.setCell ⟨b, off, none⟩ (.int .u64 y) := by
  have h1 := run_call_cas_hit (P := Tryz.prog) Tryz.func207 (by kernel_rfl) (by kernel_rfl) (by kernel_rfl) .u64 (by kernel_rfl) (y := y) hc hz
  go_enter Tryz.func168, Tryz.ntmps168
  go_wp2
  go_ret
  exact ⟨rfl, rfl⟩

theorem cas_miss (b off : Nat) (x o y : Int) (w : World) (hc : w.cell? ⟨b, off, none⟩ = some (.int .u64 x)) (hz : w.frozen? ⟨b, off, none⟩ = false) (hne : ¬ x = o) :
    Calls Tryz.prog 168 #[.pointer (some ⟨b, off, none⟩), .int .u64 o, .int .u64 y] w fun e w' => e = .returned (.bool false) ∧ w' = w := by
  have h1 := run_call_cas_miss (P := Tryz.prog) Tryz.func207 (by kernel_rfl) (by kernel_rfl) (by kernel_rfl) .u64 (by kernel_rfl) (y := y) hc hz hne
  go_enter Tryz.func168, Tryz.ntmps168
  go_wp2
  go_ret
  exact ⟨rfl, rfl⟩

theorem cell_load (b : Nat) (x : Int) (w : World) (hc : w.cell? ⟨b, 0, none⟩ = some (.int .u64 x)) :
    Calls Tryz.prog 95 #[.pointer (some ⟨b, 0, none⟩)] w fun e w' => e = .returned (.int .u64 x) ∧ w' = w := by
  have c := ld_calls b 0 x w hc
  go_enter Tryz.func95, Tryz.ntmps95
  go_wp2_with (go_at_call 166; with_reducible refine c.mono ?_; rintro e w' ⟨rfl, rfl⟩)
  go_ret
  exact ⟨rfl, rfl⟩

theorem cell_load_nil (w : World) : Calls Tryz.prog 95 #[.pointer none] w fun e w' => e = .returned (.int .u64 0) ∧ w' = w := by
  go_enter Tryz.func95, Tryz.ntmps95
  go_wp2
  go_ret
  exact ⟨rfl, rfl⟩

end Go.Proofs.YtbdnlaepeladbaaGreatDoor

namespace Go.Proofs.YtbdnlaepeladbaaGreatDoor
open Go.ChangeShapes Go.WideShapes Go.ChangeAt Go.RowKit

theorem alloc_set (w : World) (u v : Value) (t : TypeId) : (w.alloc (.cells #[u] t)).setCell ⟨w.heap.size, 0, none⟩ v = w.alloc (.cells #[v] t) := by
  unfold World.setCell World.alloc
  simp only [World.mk.injEq, and_true]
  apply Array.ext_getElem?
  intro k
  simp only [Array.getElem?_modify, Array.getElem?_push]
  by_cases h : w.heap.size = k
  · subst h; simp
  · have h' : ¬ k = w.heap.size := fun e => h e.symm
    simp [h, h']

theorem cell_made (x : Int) (w : World) : Calls Tryz.prog 105 #[.int .u64 x] w fun e w' => e = .returned (.pointer (some ⟨w.heap.size, 0, none⟩)) ∧ w' = w.alloc (.cells #[.int .u64 x] 250) := by
  have c := st_calls ⟨w.heap.size, 0, none⟩ x (.int .u64 0) (w.alloc (.cells #[.int .u64 0] 250)) (by simp) (by simp)
  rw [alloc_set] at c
  go_enter Tryz.func105, Tryz.ntmps105
  go_wp2_with (go_at_call 175; with_reducible refine c.mono ?_; rintro e w' ⟨rfl, rfl⟩)
  go_ret
  exact ⟨rfl, rfl⟩

theorem swap_no (b n x : Nat) (hn : n < 18446744073709551616) (st : Int) (h : mayB ((n % 4 : Nat) : Int) st = false) (w : World) (hc : w.cell? ⟨b, 0, none⟩ = some (.int .u64 x)) :
    Calls Tryz.prog 96 #[.pointer (some ⟨b, 0, none⟩), .int .u64 n, .int .i64 st] w fun e w' => e = .returned (.tuple #[.int .u64 x, .bool false]) ∧ w' = w := by
  have c1 := to_no n hn st h w
  have c2 := cell_load b x w hc
  clear h hn hc
  go_enter Tryz.func96, Tryz.ntmps96
  go_wp2_with (first | (go_at_call 167; with_reducible refine c1.mono ?_; rintro e w' ⟨rfl, rfl⟩) | (go_at_call 95; with_reducible refine c2.mono ?_; rintro e w' ⟨rfl, rfl⟩))
  go_ret2
  exact ⟨rfl, rfl⟩

theorem swap_hit (b n : Nat) (hn : n < 18446744073709551616) (s : Nat) (hs : s < 4) (h : mayB ((n % 4 : Nat) : Int) s = true) (w : World) (hc : w.cell? ⟨b, 0, none⟩ = some (.int .u64 n)) (hz : w.frozen? ⟨b, 0, none⟩ = false) :
    Calls Tryz.prog 96 #[.pointer (some ⟨b, 0, none⟩), .int .u64 n, .int .i64 s] w fun e w' => e = .returned (.tuple #[.int .u64 (ofN s (n / 4 + 1) : Nat), .bool true]) ∧ w' = w.setCell ⟨b, 0, none⟩ (.int .u64 (ofN s (n / 4 + 1) : Nat)) := by
  have c1 := to_yes n hn s hs h w
  generalize ((ofN s (n / 4 + 1) : Nat) : Int) = r at c1 ⊢
  have c2 := cas_hit b 0 n r w hc hz
  clear h hn hc hz hs
  go_enter Tryz.func96, Tryz.ntmps96
  go_wp2_with (first | (go_at_call 167; with_reducible refine c1.mono ?_; rintro e w' ⟨rfl, rfl⟩) | (go_at_call 168; with_reducible refine c2.mono ?_; rintro e w' ⟨rfl, rfl⟩))
  go_ret2
  exact ⟨rfl, rfl⟩

theorem swap_miss (b n x : Nat) (hn : n < 18446744073709551616) (s : Nat) (hs : s < 4) (h : mayB ((n % 4 : Nat) : Int) s = true) (w : World) (hc : w.cell? ⟨b, 0, none⟩ = some (.int .u64 x)) (hz : w.frozen? ⟨b, 0, none⟩ = false) (hne : x ≠ n) :
    Calls Tryz.prog 96 #[.pointer (some ⟨b, 0, none⟩), .int .u64 n, .int .i64 s] w fun e w' => e = .returned (.tuple #[.int .u64 x, .bool false]) ∧ w' = w := by
  have c1 := to_yes n hn s hs h w
  generalize ((ofN s (n / 4 + 1) : Nat) : Int) = r at c1
  have c2 := cas_miss b 0 x n r w hc hz (by omega)
  have c3 := cell_load b x w hc
  clear h hn hc hz hs hne
  go_enter Tryz.func96, Tryz.ntmps96
  go_wp2_with (first | (go_at_call 167; with_reducible refine c1.mono ?_; rintro e w' ⟨rfl, rfl⟩) | (go_at_call 168; with_reducible refine c2.mono ?_; rintro e w' ⟨rfl, rfl⟩) | (go_at_call 95; with_reducible refine c3.mono ?_; rintro e w' ⟨rfl, rfl⟩))
  go_ret2
  exact ⟨rfl, rfl⟩

/-- What a cell's swap does: the word that it then holds, and whether it went on. -/
def swapN (x n : Nat) (st : Int) : Option Nat := if mayB ((n % 4 : Nat) : Int) st = true ∧ x = n then some (toN n st) else none

theorem cell_swap (b n x : Nat) (hn : n < 18446744073709551616) (st : Int) (w : World) (hc : w.cell? ⟨b, 0, none⟩ = some (.int .u64 x)) (hz : w.frozen? ⟨b, 0, none⟩ = false) :
    Calls Tryz.prog 96 #[.pointer (some ⟨b, 0, none⟩), .int .u64 n, .int .i64 st] w fun e w' =>
      match swapN x n st with
      | some r => e = .returned (.tuple #[.int .u64 r, .bool true]) ∧ w' = w.setCell ⟨b, 0, none⟩ (.int .u64 r)
      | none => e = .returned (.tuple #[.int .u64 x, .bool false]) ∧ w' = w := by
  unfold swapN
  cases h : mayB ((n % 4 : Nat) : Int) st with
  | false =>
    rw [if_neg (by simp)]
    exact swap_no b n x hn st h w hc
  | true =>
    obtain ⟨h0, h4⟩ := may_range h
    obtain ⟨s, rfl⟩ : ∃ s : Nat, st = s := ⟨st.toNat, by omega⟩
    have hs : s < 4 := by omega
    by_cases e : x = n
    · subst e
      rw [if_pos ⟨rfl, rfl⟩]
      exact swap_hit b x hn s hs h w hc hz
    · rw [if_neg (fun g => e g.2)]
      exact swap_miss b n x hn s hs h w hc hz e

theorem swap_nil (n : Nat) (hn : n < 18446744073709551616) (st : Int) (w : World) :
    Calls Tryz.prog 96 #[.pointer none, .int .u64 n, .int .i64 st] w fun e w' => e = .returned (.tuple #[.int .u64 0, .bool false]) ∧ w' = w := by
  have c3 := cell_load_nil w
  cases h : mayB ((n % 4 : Nat) : Int) st with
  | false =>
    have c1 := to_no n hn st h w
    clear h hn
    go_enter Tryz.func96, Tryz.ntmps96
    go_wp2_with (first | (go_at_call 167; with_reducible refine c1.mono ?_; rintro e w' ⟨rfl, rfl⟩) | (go_at_call 95; with_reducible refine c3.mono ?_; rintro e w' ⟨rfl, rfl⟩))
    go_ret2
    exact ⟨rfl, rfl⟩
  | true =>
    obtain ⟨h0, h4⟩ := may_range h
    obtain ⟨s, rfl⟩ : ∃ s : Nat, st = s := ⟨st.toNat, by omega⟩
    have c1 := to_yes n hn s (by omega) h w
    generalize ((ofN s (n / 4 + 1) : Nat) : Int) = r at c1
    clear h hn
    go_enter Tryz.func96, Tryz.ntmps96
    go_wp2_with (first | (go_at_call 167; with_reducible refine c1.mono ?_; rintro e w' ⟨rfl, rfl⟩) | (go_at_call 95; with_reducible refine c3.mono ?_; rintro e w' ⟨rfl, rfl⟩))
    go_ret2
    exact ⟨rfl, rfl⟩

end Go.Proofs.YtbdnlaepeladbaaGreatDoor

namespace Go.Proofs.YtbdnlaepeladbaaGreatDoor
open Go.ChangeShapes Go.WideShapes Go.ChangeAt Go.RowKit Go.Eng

structure Pl where
  c : Nat
  born : Nat
  since : Nat
  proved : Nat

def plV (p : Pl) : Value := .agg #[.pointer (some ⟨p.c, 0, none⟩), .int .u64 p.born, .int .u64 p.since, .int .u64 p.proved]
def plZ : Value := .agg #[.pointer none, .int .u64 0, .int .u64 0, .int .u64 0]
def got (o : Option Pl) : Value := (o.map plV).getD plZ

theorem got_shape (o : Option Pl) : ∃ p x y z, got o = .agg #[.pointer p, .int .u64 x, .int .u64 y, .int .u64 z] := by
  cases o with
  | none => exact ⟨_, _, _, _, rfl⟩
  | some p => exact ⟨_, _, _, _, rfl⟩

/-- A bag: its two cells; its map. -/
def BagAt (w : World) (b m : Nat) (L : Value) (es : List (Int × Pl)) : Prop :=
  w.heap[b]? = some (.cells #[.map (some m), L] 162 (0, 0)) ∧ MapSt .u64 plV w m es

theorem BagAt.below {w w' : World} {b m B : Nat} {L : Value} {es : List (Int × Pl)} (h : BagAt w b m L es) (hb : Below B w w') (h1 : b < B) (h2 : m < B) : BagAt w' b m L es :=
  ⟨(hb.block b h1).trans h.1, h.2.below hb h2⟩
theorem BagAt.lt {w : World} {b m : Nat} {L : Value} {es : List (Int × Pl)} (h : BagAt w b m L es) : b < w.heap.size ∧ m < w.heap.size := ⟨(Array.getElem?_eq_some_iff.1 h.1).1, h.2.lt⟩
theorem BagAt.cell {w : World} {b m : Nat} {L : Value} {es : List (Int × Pl)} (h : BagAt w b m L es) : w.cell? ⟨b, 0, none⟩ = some (.map (some m)) := by simp [World.cell?, h.1]

theorem lookup_bag {w : World} {m : Nat} {es : List (Int × Pl)} (h : MapIs .u64 plV w m es) (id : Int) :
    (Instr.lookup 158 (.map (some m)) (.int .u64 id) true).run Tryz.prog w = .ok (.tuple #[got (aget id es), .bool (aget id es).isSome]) w := by
  have := run_lookup_ents (P := Tryz.prog) Tryz.underlying158 Tryz.underlying22 Tryz.zeroValue166 h id true
  exact this

theorem get_calls {w : World} {b m : Nat} {L : Value} {es : List (Int × Pl)} (h : BagAt w b m L es) (id : Int) :
    Calls Tryz.prog 94 #[.pointer (some ⟨b, 0, none⟩), .int .u64 id] w fun e w' => e = .returned (.tuple #[got (aget id es), .bool (aget id es).isSome]) ∧ Below w.heap.size w w' := by
  obtain ⟨w1, hw1⟩ : ∃ w1, w1 = w.alloc (.cells #[.pointer none, .int .u64 0, .int .u64 0, .int .u64 0] 166) := ⟨_, rfl⟩
  have b1 : Below w.heap.size w w1 := by rw [hw1]; exact (Below.refl _ w).alloc (Nat.le_refl _) _
  have h1 := h.below b1 h.lt.1 h.lt.2
  have hl := lookup_bag h1.2.is id
  have hc := h1.cell
  obtain ⟨p, x, y, z, hg⟩ := got_shape (aget id es)
  rw [hg] at hl ⊢
  rw [hw1] at hl hc
  generalize (aget id es).isSome = ok at hl ⊢
  clear h h1 hg b1 hw1
  go_enter Tryz.func94, Tryz.ntmps94
  go_wp2
  refine bodyPost_ret (v := .tuple #[.agg #[.pointer p, .int .u64 x, .int .u64 y, .int .u64 z], .bool ok]) (by simp [results, Tryz.results94, go_sem]) rfl ⟨rfl, ?_⟩
  exact ((Below.refl _ _).alloc (Nat.le_refl _) _).alloc (by simp) _

/-- A word lies in cell c. -/
def WordAt (w : World) (c n : Nat) : Prop := w.heap[c]? = some (.cells #[.int .u64 n] 250 (0, 0))

theorem WordAt.cell {w : World} {c n : Nat} (h : WordAt w c n) : w.cell? ⟨c, 0, none⟩ = some (.int .u64 n) := by unfold WordAt at h; simp [World.cell?, h]
theorem WordAt.free {w : World} {c n : Nat} (h : WordAt w c n) : w.frozen? ⟨c, 0, none⟩ = false := by unfold WordAt at h; simp [World.frozen?, h]
theorem WordAt.lt {w : World} {c n : Nat} (h : WordAt w c n) : c < w.heap.size := (Array.getElem?_eq_some_iff.1 h).1
theorem WordAt.below {w w' : World} {c n B : Nat} (h : WordAt w c n) (hb : Below B w w') (h1 : c < B) : WordAt w' c n := (hb.block c h1).trans h

theorem load_none {w : World} {b m : Nat} {L : Value} {es : List (Int × Pl)} (h : BagAt w b m L es) (id : Int) (hid : aget id es = none) :
    Calls Tryz.prog 32 #[.pointer (some ⟨b, 0, none⟩), .int .u64 id] w fun e w' => e = .returned (.tuple #[.int .u64 0, .bool false]) ∧ Below w.heap.size w w' := by
  have hg := get_calls h id
  rw [hid] at hg
  change Calls Tryz.prog 94 _ w fun e w' => e = .returned (.tuple #[.agg #[.pointer none, .int .u64 0, .int .u64 0, .int .u64 0], .bool false]) ∧ Below w.heap.size w w' at hg
  clear h hid
  go_enter Tryz.func32, Tryz.ntmps32
  go_wp2_with (first | (go_at_call 94; with_reducible refine hg.mono ?_; rintro e w1 ⟨rfl, b1⟩) | (go_at_call 95; with_reducible refine (cell_load_nil _).mono ?_; rintro e w2 ⟨rfl, rfl⟩))
  go_ret2
  exact ⟨rfl, b1.alloc b1.size _⟩

theorem load_some {w : World} {b m : Nat} {L : Value} {es : List (Int × Pl)} (h : BagAt w b m L es) (id : Int) {p : Pl} {n : Nat} (hid : aget id es = some p) (hn : WordAt w p.c n) :
    Calls Tryz.prog 32 #[.pointer (some ⟨b, 0, none⟩), .int .u64 id] w fun e w' => e = .returned (.tuple #[.int .u64 n, .bool true]) ∧ Below w.heap.size w w' := by
  have hg := get_calls h id
  rw [hid] at hg
  change Calls Tryz.prog 94 _ w fun e w' => e = .returned (.tuple #[.agg #[.pointer (some ⟨p.c, 0, none⟩), .int .u64 p.born, .int .u64 p.since, .int .u64 p.proved], .bool true]) ∧ Below w.heap.size w w' at hg
  clear h hid
  go_enter Tryz.func32, Tryz.ntmps32
  go_wp2_with (first | (go_at_call 94; with_reducible refine hg.mono ?_; rintro e w1 ⟨rfl, b1⟩) | (go_at_call 95; have hc := cell_load p.c n _ (((hn.below b1 hn.lt).below ((Below.refl _ w1).alloc (Nat.le_refl _) (.cells #[.pointer (some ⟨p.c, 0, none⟩), .int .u64 p.born, .int .u64 p.since, .int .u64 p.proved] 166)) (hn.below b1 hn.lt).lt).cell); with_reducible refine hc.mono ?_; clear hc; rintro e w2 ⟨rfl, rfl⟩))
  go_ret2
  exact ⟨rfl, b1.alloc b1.size _⟩

end Go.Proofs.YtbdnlaepeladbaaGreatDoor

namespace Go.Proofs.YtbdnlaepeladbaaGreatDoor
open Go.ChangeShapes Go.WideShapes Go.ChangeAt Go.RowKit Go.Eng

end Go.Proofs.YtbdnlaepeladbaaGreatDoor

namespace Go.Proofs.YtbdnlaepeladbaaGreatDoor
open Go.ChangeShapes Go.WideShapes Go.ChangeAt Go.RowKit Go.Eng

/-- All that was there is as it was, but for the blocks that S names. -/
structure Upto (S : Nat → Prop) (w w' : World) : Prop where
  os : w'.os = w.os
  tape : w'.tape = w.tape
  output : w'.output = w.output
  size : w.heap.size ≤ w'.heap.size
  block : ∀ k, k < w.heap.size → ¬ S k → w'.heap[k]? = w.heap[k]?

theorem Upto.of_below {S : Nat → Prop} {w w' : World} (h : Below w.heap.size w w') : Upto S w w' := ⟨h.os, h.tape, h.output, h.size, fun k hk _ => h.block k hk⟩
theorem Upto.below {S : Nat → Prop} {w w' : World} {B : Nat} (h : Upto S w w') (hB : B ≤ w.heap.size) (hS : ∀ k, S k → B ≤ k) : Below B w w' :=
  ⟨h.os, h.tape, h.output, h.size, fun k hk => h.block k (by omega) (fun s => by have := hS k s; omega)⟩
theorem Upto.trans {S : Nat → Prop} {a b c : World} (h : Upto S a b) (k : Upto S b c) : Upto S a c :=
  ⟨k.os.trans h.os, k.tape.trans h.tape, k.output.trans h.output, Nat.le_trans h.size k.size, fun j hj hs => (k.block j (Nat.lt_of_lt_of_le hj h.size) hs).trans (h.block j hj hs)⟩
theorem Upto.mono {S T : Nat → Prop} {a b : World} (h : Upto S a b) (hs : ∀ k, S k → T k) : Upto T a b := ⟨h.os, h.tape, h.output, h.size, fun j hj ht => h.block j hj fun s => ht (hs j s)⟩
theorem Upto.alloc {S : Nat → Prop} {a b : World} (h : Upto S a b) (o : Obj) : Upto S a (b.alloc o) := h.trans (.of_below ((Below.refl _ _).alloc (Nat.le_refl _) o))
theorem Upto.drew {S : Nat → Prop} {a b : World} (h : Upto S a b) : Upto S a b.drew := ⟨h.os, h.tape, h.output, h.size, h.block⟩
theorem Upto.setCell {S : Nat → Prop} {a b : World} (h : Upto S a b) {p : Addr} (hp : S p.block ∨ a.heap.size ≤ p.block) (v : Value) : Upto S a (b.setCell p v) :=
  ⟨h.os, h.tape, h.output, by simpa using h.size, fun j hj hs => by
    rw [Below.heap_setCell b p v j (by rintro rfl; rcases hp with g | g; exact hs g; omega)]
    exact h.block j hj hs⟩
theorem Upto.put {S : Nat → Prop} {a b : World} (h : Upto S a b) {m : Nat} (hm : S m) (o : Obj) : Upto S a { b with heap := b.heap.setIfInBounds m o } :=
  ⟨h.os, h.tape, h.output, by simpa using h.size, fun j hj hs => by
    have hne : m ≠ j := by rintro rfl; exact hs hm
    simp only [Array.getElem?_setIfInBounds, if_neg hne]
    exact h.block j hj hs⟩

theorem BagAt.upto {S : Nat → Prop} {w w' : World} {b m : Nat} {L : Value} {es : List (Int × Pl)} (h : BagAt w b m L es) (u : Upto S w w') (h1 : ¬ S b) (h2 : ¬ S m) : BagAt w' b m L es :=
  ⟨(u.block b h.lt.1 h1).trans h.1, h.2.same (u.block m h.lt.2 h2)⟩
theorem WordAt.upto {S : Nat → Prop} {w w' : World} {c n : Nat} (h : WordAt w c n) (u : Upto S w w') (h1 : ¬ S c) : WordAt w' c n := (u.block c h.lt h1).trans h
theorem WordAt.set {w : World} {c n r : Nat} (h : WordAt w c n) : WordAt (w.setCell ⟨c, 0, none⟩ (.int .u64 r)) c r := by
  unfold WordAt at *
  rw [setCell_cells h]
  have := (Array.getElem?_eq_some_iff.1 h).1
  simp [this]

theorem new_calls (w : World) : Calls Tryz.prog 30 #[] w fun e w' => ∃ b m, e = .returned (.pointer (some ⟨b, 0, none⟩)) ∧ w.heap.size ≤ b ∧ w.heap.size ≤ m ∧ b ≠ m ∧ BagAt w' b m (.slice none 0 0) [] ∧ Below w.heap.size w w' := by
  have hmm := @run_makeMap Tryz.prog
  go_enter Tryz.func30, Tryz.ntmps30
  go_wp2
  go_ret
  refine ⟨w.heap.size + 1, w.heap.size, by simp, by omega, Nat.le_refl _, by omega, ⟨?_, [], 0, ?_, trivial, .nil, by simp⟩, ((Below.refl _ _).alloc (Nat.le_refl _) _).alloc (by simp) _⟩
  · have e := (Go.MapKept.heap_alloc (w.alloc (.map #[] 0)) (.cells #[.map (some w.heap.size), .slice none 0 0] 162)).1
    have hs : (w.alloc (.map #[] 0)).heap.size = w.heap.size + 1 := by simp
    rw [hs] at e
    exact e
  · rw [Below.heap_alloc _ _ _ (by simp)]
    exact (Go.MapKept.heap_alloc w (.map #[] 0)).1

theorem bag_swap_none {w : World} {b m : Nat} {L : Value} {es : List (Int × Pl)} (h : BagAt w b m L es) (id : Int) (hid : aget id es = none) (n : Nat) (hn : n < 18446744073709551616) (st now : Int) :
    Calls Tryz.prog 33 #[.pointer (some ⟨b, 0, none⟩), .int .u64 id, .int .u64 n, .int .i64 st, .int .u64 now] w fun e w' => e = .returned (.tuple #[.int .u64 0, .bool false]) ∧ Below w.heap.size w w' := by
  have hg := get_calls h id
  rw [hid] at hg
  change Calls Tryz.prog 94 _ w fun e w' => e = .returned (.tuple #[.agg #[.pointer none, .int .u64 0, .int .u64 0, .int .u64 0], .bool false]) ∧ Below w.heap.size w w' at hg
  have hs := fun w => swap_nil n hn st w
  clear h hid hn
  go_enter Tryz.func33, Tryz.ntmps33
  go_wp2_with (first | (go_at_call 94; with_reducible refine hg.mono ?_; rintro e w1 ⟨rfl, b1⟩) | (go_at_call 96; with_reducible refine (hs _).mono ?_; rintro e w2 ⟨rfl, rfl⟩))
  go_ret2
  exact ⟨rfl, b1.alloc b1.size _⟩

theorem bag_swap_no {w : World} {b m : Nat} {L : Value} {es : List (Int × Pl)} (h : BagAt w b m L es) (id : Int) {p : Pl} (hid : aget id es = some p) {x : Nat} (hx : WordAt w p.c x) (n : Nat) (hn : n < 18446744073709551616) (st now : Int) (hN : swapN x n st = none) :
    Calls Tryz.prog 33 #[.pointer (some ⟨b, 0, none⟩), .int .u64 id, .int .u64 n, .int .i64 st, .int .u64 now] w fun e w' => e = .returned (.tuple #[.int .u64 x, .bool false]) ∧ Below w.heap.size w w' := by
  have hg := get_calls h id
  rw [hid] at hg
  change Calls Tryz.prog 94 _ w fun e w' => e = .returned (.tuple #[.agg #[.pointer (some ⟨p.c, 0, none⟩), .int .u64 p.born, .int .u64 p.since, .int .u64 p.proved], .bool true]) ∧ Below w.heap.size w w' at hg
  have hs : ∀ {w1 : World} (_ : Below w.heap.size w w1) (o : Obj), Calls Tryz.prog 96 #[.pointer (some ⟨p.c, 0, none⟩), .int .u64 n, .int .i64 st] (w1.alloc o) fun e w' => e = .returned (.tuple #[.int .u64 x, .bool false]) ∧ w' = w1.alloc o := by
    intro w1 hb o
    have hw := (hx.below hb hx.lt).below ((Below.refl _ w1).alloc (Nat.le_refl _) o) (hx.below hb hx.lt).lt
    have := cell_swap p.c n x hn st _ hw.cell hw.free
    rw [hN] at this
    exact this
  clear h hid hn hN hx
  go_enter Tryz.func33, Tryz.ntmps33
  go_wp2_with (first | (go_at_call 94; with_reducible refine hg.mono ?_; rintro e w1 ⟨rfl, b1⟩) | (go_at_call 96; have h5 := hs b1 (.cells #[.pointer (some ⟨p.c, 0, none⟩), .int .u64 p.born, .int .u64 p.since, .int .u64 p.proved] 166); with_reducible refine h5.mono ?_; clear h5; rintro e w2 ⟨rfl, rfl⟩))
  go_ret2
  exact ⟨rfl, b1.alloc b1.size _⟩

theorem bag_swap_on {w : World} {b m : Nat} {L : Value} {es : List (Int × Pl)} (h : BagAt w b m L es) (id : Int) {p : Pl} (hid : aget id es = some p) {x r : Nat} (hx : WordAt w p.c x) (n : Nat) (hn : n < 18446744073709551616) (st now : Int) (hN : swapN x n st = some r) (h0 : (st == 0) = false) :
    Calls Tryz.prog 33 #[.pointer (some ⟨b, 0, none⟩), .int .u64 id, .int .u64 n, .int .i64 st, .int .u64 now] w fun e w' => e = .returned (.tuple #[.int .u64 r, .bool true]) ∧ Upto (· = p.c) w w' ∧ WordAt w' p.c r := by
  have hg := get_calls h id
  rw [hid] at hg
  change Calls Tryz.prog 94 _ w fun e w' => e = .returned (.tuple #[.agg #[.pointer (some ⟨p.c, 0, none⟩), .int .u64 p.born, .int .u64 p.since, .int .u64 p.proved], .bool true]) ∧ Below w.heap.size w w' at hg
  have hs : ∀ {w1 : World} (_ : Below w.heap.size w w1) (o : Obj), Calls Tryz.prog 96 #[.pointer (some ⟨p.c, 0, none⟩), .int .u64 n, .int .i64 st] (w1.alloc o) fun e w' => e = .returned (.tuple #[.int .u64 r, .bool true]) ∧ Upto (· = p.c) w w' ∧ WordAt w' p.c r := by
    intro w1 hb o
    have hw := (hx.below hb hx.lt).below ((Below.refl _ w1).alloc (Nat.le_refl _) o) (hx.below hb hx.lt).lt
    have := cell_swap p.c n x hn st _ hw.cell hw.free
    rw [hN] at this
    refine this.mono ?_
    rintro e w' ⟨rfl, rfl⟩
    exact ⟨rfl, ((Upto.of_below (S := (· = p.c)) hb).alloc o).setCell (p := ⟨p.c, 0, none⟩) (.inl rfl) _, hw.set⟩
  clear h hid hn hN hx
  go_enter Tryz.func33, Tryz.ntmps33
  go_wp2_with (first | (go_at_call 94; with_reducible refine hg.mono ?_; rintro e w1 ⟨rfl, b1⟩) | (go_at_call 96; have h5 := hs b1 (.cells #[.pointer (some ⟨p.c, 0, none⟩), .int .u64 p.born, .int .u64 p.since, .int .u64 p.proved] 166); with_reducible refine h5.mono ?_; clear h5; rintro e w2 ⟨rfl, u2, hw2⟩))
  go_ret2
  exact ⟨rfl, u2, hw2⟩

end Go.Proofs.YtbdnlaepeladbaaGreatDoor

namespace Go.Proofs.YtbdnlaepeladbaaGreatDoor
open Go.ChangeShapes Go.WideShapes Go.ChangeAt Go.RowKit Go.Eng

def fourC (p : Pl) : Array Value := #[.pointer (some ⟨p.c, 0, none⟩), .int .u64 p.born, .int .u64 p.since, .int .u64 p.proved]

/-- What the road to the free state needs of the world behind the cell's swap. -/
structure Mid (w w2 : World) (b m Z r : Nat) (L : Value) (es : List (Int × Pl)) (p : Pl) : Prop where
  up : Upto (· = p.c) w w2
  word : WordAt w2 p.c r
  row : w2.heap[Z]? = some (.cells #[.pointer (some ⟨p.c, 0, none⟩), .int .u64 p.born, .int .u64 p.since, .int .u64 p.proved] 166 (0, 0))
  bag : BagAt w2 b m L es
  old : w.heap.size ≤ Z

set_option maxHeartbeats 1000000 in
set_option maxRecDepth 1000000 in
theorem bag_swap_free {w : World} {b m : Nat} {L : Value} {es : List (Int × Pl)} (h : BagAt w b m L es) (id : Int) {p : Pl} (hid : aget id es = some p) {x r : Nat} (hx : WordAt w p.c x) (hb : b ≠ p.c) (hm : m ≠ p.c) (hbm : b ≠ m) (n : Nat) (hn : n < 18446744073709551616) (now : Nat) (hN : swapN x n 0 = some r) :
    Calls Tryz.prog 33 #[.pointer (some ⟨b, 0, none⟩), .int .u64 id, .int .u64 n, .int .i64 0, .int .u64 now] w fun e w' => e = .returned (.tuple #[.int .u64 r, .bool true]) ∧ Upto (fun k => k = p.c ∨ k = m) w w' ∧ WordAt w' p.c r ∧ BagAt w' b m L (aput id { p with since := now } es) := by
  have hg := get_calls h id
  rw [hid] at hg
  change Calls Tryz.prog 94 _ w fun e w' => e = .returned (.tuple #[.agg #[.pointer (some ⟨p.c, 0, none⟩), .int .u64 p.born, .int .u64 p.since, .int .u64 p.proved], .bool true]) ∧ Below w.heap.size w w' at hg
  have hs : ∀ {w1 : World} (_ : Below w.heap.size w w1), Calls Tryz.prog 96 #[.pointer (some ⟨p.c, 0, none⟩), .int .u64 n, .int .i64 0] (w1.alloc (.cells #[.pointer (some ⟨p.c, 0, none⟩), .int .u64 p.born, .int .u64 p.since, .int .u64 p.proved] 166)) fun e w' => e = .returned (.tuple #[.int .u64 r, .bool true]) ∧ Mid w w' b m w1.heap.size r L es p := by
    intro w1 hbl
    have hw := (hx.below hbl hx.lt).below ((Below.refl _ w1).alloc (Nat.le_refl _) (.cells #[.pointer (some ⟨p.c, 0, none⟩), .int .u64 p.born, .int .u64 p.since, .int .u64 p.proved] 166)) (hx.below hbl hx.lt).lt
    have hc := cell_swap p.c n x hn 0 _ hw.cell hw.free
    rw [hN] at hc
    refine hc.mono ?_
    rintro e w' ⟨rfl, rfl⟩
    have u := ((Upto.of_below (S := (· = p.c)) hbl).alloc (.cells #[.pointer (some ⟨p.c, 0, none⟩), .int .u64 p.born, .int .u64 p.since, .int .u64 p.proved] 166)).setCell (p := ⟨p.c, 0, none⟩) (.inl rfl) (.int .u64 r)
    refine ⟨rfl, u, hw.set, ?_, h.upto u hb hm, hbl.size⟩
    have hlt := (hx.below hbl hx.lt).lt
    rw [Below.heap_setCell _ _ _ _ (by show w1.heap.size ≠ p.c; omega)]
    exact (Go.MapKept.heap_alloc w1 _).1
  have hbl := h.lt.1
  have hml := h.lt.2
  clear h hid hn hN hx
  go_enter Tryz.func33, Tryz.ntmps33
  go_wp2_with (first | (go_at_call 94; with_reducible refine hg.mono ?_; rintro e w1 ⟨rfl, b1⟩) | (go_at_call 96; have h5 := hs b1; with_reducible refine h5.mono ?_; clear h5; rintro e w2 ⟨rfl, M⟩; have q2 : w2.cell? ⟨w1.heap.size, 2, none⟩ = some (.int .u64 p.since) := (by simp [World.cell?, M.row]); have f2 : w2.frozen? ⟨w1.heap.size, 2, none⟩ = false := (by simp [World.frozen?, M.row])))
  clear hs hg q2 f2
  obtain ⟨w3, hw3⟩ : ∃ w3, w3 = w2.setCell ⟨w1.heap.size, 2, none⟩ (.int .u64 now) := ⟨_, rfl⟩
  have row3 : w3.heap[w1.heap.size]? = some (.cells #[.pointer (some ⟨p.c, 0, none⟩), .int .u64 p.born, .int .u64 now, .int .u64 p.proved] 166 (0, 0)) := by
    rw [hw3, setCell_cells M.row]
    have := (Array.getElem?_eq_some_iff.1 M.row).1
    simp [this]
  have u3 : Upto (· = p.c) w w3 := by rw [hw3]; exact M.up.setCell (.inr M.old) _
  have hpl : p.c < w.heap.size ∨ w.heap.size ≤ p.c := by omega
  have hZ : w1.heap.size ≠ p.c := by
    rintro e
    have h1 := M.row
    have h2 := M.word
    unfold WordAt at h2
    rw [e, h2] at h1
    simp at h1
  have word3 : WordAt w3 p.c r := by
    have h2 := M.word
    unfold WordAt at h2 ⊢
    rw [hw3, Below.heap_setCell _ _ _ _ (by exact fun e => hZ e.symm)]; exact h2
  have old3 := M.old
  have bag3 : BagAt w3 b m L es := by
    refine ⟨?_, M.bag.2.same ?_⟩
    · rw [hw3, Below.heap_setCell _ _ _ _ (by show b ≠ w1.heap.size; omega)]; exact M.bag.1
    · rw [hw3, Below.heap_setCell _ _ _ _ (by show m ≠ w1.heap.size; omega)]
  rw [← hw3]
  clear hw3 M b1
  generalize w1.heap.size = Z at row3 old3 hZ ⊢
  have c0 : w3.cell? ⟨Z, 0, none⟩ = some (.pointer (some ⟨p.c, 0, none⟩)) := by simp [World.cell?, row3]
  have c1 : w3.cell? ⟨Z, 1, none⟩ = some (.int .u64 p.born) := by simp [World.cell?, row3]
  have c2 : w3.cell? ⟨Z, 2, none⟩ = some (.int .u64 now) := by simp [World.cell?, row3]
  have c3 : w3.cell? ⟨Z, 3, none⟩ = some (.int .u64 p.proved) := by simp [World.cell?, row3]
  have cb := bag3.cell
  have bag3d : MapSt .u64 plV w3.drew m es := bag3.2
  obtain ⟨ms, ck, hmu, hents, hstm⟩ := run_mapUpdate_st (P := Tryz.prog) Tryz.underlying158 Tryz.underlying22 bag3d id { p with since := now }
  change Sem.run Tryz.prog (Instr.mapUpdate 158 (.map (some m)) (.int .u64 id) (.agg #[.pointer (some ⟨p.c, 0, none⟩), .int .u64 p.born, .int .u64 now, .int .u64 p.proved])) w3.drew = _ at hmu
  obtain ⟨w5, hw5⟩ : ∃ w5, w5 = { w3.drew with heap := w3.drew.heap.setIfInBounds m (.map ms.toArray ck) } := ⟨_, rfl⟩
  rw [← hw5] at hmu
  have fin : Upto (fun k => k = p.c ∨ k = m) w w5 ∧ WordAt w5 p.c r ∧ BagAt w5 b m L (aput id { p with since := now } es) := by
    have hm3 : m < w3.heap.size := bag3.lt.2
    rw [hw5]
    refine ⟨(u3.drew.mono fun k hk => .inl hk).put (.inr rfl) _, ?_, ?_, MapSt.put hm3 hents hstm⟩
    · show (w3.heap.setIfInBounds m _)[p.c]? = _
      rw [Array.getElem?_setIfInBounds, if_neg hm]; exact word3
    · show (w3.heap.setIfInBounds m _)[b]? = _
      rw [Array.getElem?_setIfInBounds, if_neg (fun e => hbm e.symm)]; exact bag3.1
  clear hw5 hents hstm bag3d bag3 word3 u3 row3
  refine wp_region_still_tail 6 (by kernel_rfl) (by kernel_rfl) ?_
  simp only [List.take_succ_cons, List.take_zero, List.drop_succ_cons, List.drop_zero]
  still_step
  still_step
  still_step
  still_step
  still_step
  still_step
  refine wpStill_nil ?_
  change wpList _ _ _ _ _ w3.drew
  go_wp2
  go_ret2
  exact ⟨rfl, fin⟩

end Go.Proofs.YtbdnlaepeladbaaGreatDoor

namespace Go.Proofs.YtbdnlaepeladbaaGreatDoor
open Go.ChangeShapes Go.WideShapes Go.ChangeAt Go.RowKit Go.Eng

set_option maxHeartbeats 1000000 in
set_option maxRecDepth 1000000 in
theorem enter_new {w : World} {b m : Nat} {L : Value} {es : List (Int × Pl)} (h : BagAt w b m L es) (hbm : b ≠ m) (id : Int) (hid : aget id es = none) (hi0 : (id == 0) = false) (s : Nat) (hs : s < 4) (now : Nat) :
    Calls Tryz.prog 41 #[.pointer (some ⟨b, 0, none⟩), .int .u64 id, .int .i64 s, .int .u64 now] w fun e w' => e = .returned (.int .i64 0) ∧ ∃ c, w.heap.size ≤ c ∧ c ≠ m ∧ c ≠ b ∧ Upto (· = m) w w' ∧ WordAt w' c s ∧ BagAt w' b m L (aput id ⟨c, now, now, now⟩ es) := by
  have hg := get_calls h id
  rw [hid] at hg
  change Calls Tryz.prog 94 _ w fun e w' => e = .returned (.tuple #[.agg #[.pointer none, .int .u64 0, .int .u64 0, .int .u64 0], .bool false]) ∧ Below w.heap.size w w' at hg
  have e0 : (ofN s 0 : Nat) = s := by unfold ofN; simp
  have hof : ∀ w, Calls Tryz.prog 106 #[.int .i64 s, .int .u64 0] w fun e w' => e = .returned (.int .u64 s) ∧ w' = w := by
    intro w
    have := of_calls s 0 hs w
    rw [e0] at this
    exact this
  have hcn := fun w => cell_made (s : Int) w
  have s1 : ¬ ((s : Int) < 0) := by omega
  have s2 : ¬ ((3 : Int) < (s : Int)) := by omega
  clear hs
  go_enter Tryz.func41, Tryz.ntmps41
  go_wp2_with (go_at_call 94; with_reducible refine hg.mono ?_; rintro e w1 ⟨rfl, b1⟩)
  have bag1 := h.below b1 h.lt.1 h.lt.2
  obtain ⟨w3, hw3⟩ : ∃ w3, w3 = w1.alloc (.cells #[.pointer none, .int .u64 0, .int .u64 0, .int .u64 0] 166) := ⟨_, rfl⟩
  have b3 : Below w.heap.size w w3 := by rw [hw3]; exact b1.alloc b1.size _
  have bag3 : BagAt w3 b m L es := h.below b3 h.lt.1 h.lt.2
  have lb := bag3.lt.1
  have lm := bag3.lt.2
  have cb := bag3.cell
  have hsz := b3.size
  rw [← hw3]
  clear hw3 bag1 b1 hg h hid e0
  obtain ⟨w4, hw4⟩ : ∃ w4, w4 = (w3.alloc (.cells #[.int .u64 s] 250)).drew := ⟨_, rfl⟩
  have b4 : Below w3.heap.size w3 w4 := by rw [hw4]; exact ((Below.refl _ w3).alloc (Nat.le_refl _) _).drew
  have bag4 := bag3.below b4 lb lm
  have word4 : WordAt w4 w3.heap.size s := by rw [hw4]; exact (Go.MapKept.heap_alloc w3 _).1
  obtain ⟨ms, ck, hmu, hents, hstm⟩ := run_mapUpdate_st (P := Tryz.prog) Tryz.underlying158 Tryz.underlying22 bag4.2 id (⟨w3.heap.size, now, now, now⟩ : Pl)
  change Sem.run Tryz.prog (Instr.mapUpdate 158 (.map (some m)) (.int .u64 id) (.agg #[.pointer (some ⟨w3.heap.size, 0, none⟩), .int .u64 now, .int .u64 now, .int .u64 now])) w4 = _ at hmu
  obtain ⟨w5, hw5⟩ : ∃ w5, w5 = { w4 with heap := w4.heap.setIfInBounds m (.map ms.toArray ck) } := ⟨_, rfl⟩
  rw [← hw5] at hmu
  have fin : ∃ c, w.heap.size ≤ c ∧ c ≠ m ∧ c ≠ b ∧ Upto (· = m) w w5 ∧ WordAt w5 c s ∧ BagAt w5 b m L (aput id ⟨c, now, now, now⟩ es) := by
    have hm4 : m < w4.heap.size := Nat.lt_of_lt_of_le lm b4.size
    refine ⟨w3.heap.size, hsz, by omega, by omega, ?_, ?_, ?_, ?_⟩
    · rw [hw5]; exact (Upto.of_below (S := (· = m)) (b3.trans (b4.mono hsz))).put (m := m) rfl _
    · rw [hw5]
      show (w4.heap.setIfInBounds m _)[w3.heap.size]? = _
      rw [Array.getElem?_setIfInBounds, if_neg (by omega)]; exact word4
    · rw [hw5]
      show (w4.heap.setIfInBounds m _)[b]? = _
      rw [Array.getElem?_setIfInBounds, if_neg (fun e => hbm e.symm)]; exact bag4.1
    · rw [hw5]; exact MapSt.put hm4 hents hstm
  have cb5 : w5.cell? ⟨b, 0, none⟩ = some (.map (some m)) := by obtain ⟨c, _, _, _, _, _, h5⟩ := fin; exact h5.cell
  rw [hw4] at hmu
  clear hents hstm hw5 word4 bag4 b4 hw4 bag3 b3 lm hsz
  have nb := World.new_ne w3 _ cb
  go_region_held3 (fun w' => w'.cell? ⟨b, 0, none⟩ = some (.map (some m))) (first | go_keep | exact cb5)
    (first
      | (go_at_call 106; with_reducible refine (hof _).mono ?_; rintro e w8 ⟨rfl, rfl⟩)
      | (go_at_call 105; with_reducible refine (hcn _).mono ?_; rintro e w9 ⟨rfl, rfl⟩))
  go_wp2
  go_ret
  exact ⟨rfl, fin⟩

end Go.Proofs.YtbdnlaepeladbaaGreatDoor

namespace Go.Proofs.YtbdnlaepeladbaaGreatDoor
open Go.ChangeShapes Go.WideShapes Go.ChangeAt Go.RowKit Go.Eng

/-! ### lists of numbers in memory -/

/-- The slice value L leads to the numbers ns. -/
def ListAt (w : World) (L : Value) (ns : List Int) : Prop :=
  (L = .slice none 0 0 ∧ ns = []) ∨
  ∃ (g cap : Nat) (cs : Array Value), L = .slice (some ⟨g, 0, none⟩) ns.length cap ∧ w.heap[g]? = some (.cells cs 22 (0, 0)) ∧ ns.length ≤ cap ∧ cap ≤ maxLen ∧ ∀ (j : Nat) (x : Int), ns[j]? = some x → cs[j]? = some (.int .u64 x)

theorem ListAt.of_own {w : World} {base n : Nat} {v : Value} {ns : List Int} (h : w.ownsRow base 22 1 v n (ns.map (Value.int .u64))) : ListAt w v ns := by
  have hl : ns.length = n := by have := h.1; simpa using this
  rcases h.2 with ⟨rfl, rfl⟩ | ⟨g, cap, cur, rfl, _, hg, hc, hm, hs, ht⟩
  · exact .inl ⟨rfl, List.length_eq_zero_iff.1 hl⟩
  · refine .inr ⟨g, cap, cur, by rw [hl], hg, by omega, hm, fun j x hj => ?_⟩
    have hjl : j < ns.length := (List.getElem?_eq_some_iff.1 hj).1
    have e : (cur.toList.take (n * 1))[j]? = (ns.map (Value.int .u64))[j]? := by rw [ht]
    rw [List.getElem?_take, if_pos (by omega), List.getElem?_map, hj] at e
    rw [← Array.getElem?_toList, e]; rfl

/-- What is kept of a list: no block of numbers is turned. -/
theorem ListAt.kept {w w' : World} {L : Value} {ns : List Int} (h : ListAt w L ns) (hk : ∀ (g : Nat) (cs : Array Value), w.heap[g]? = some (.cells cs 22 (0, 0)) → w'.heap[g]? = some (.cells cs 22 (0, 0))) : ListAt w' L ns := by
  rcases h with h | ⟨g, cap, cs, h1, h2, h3, h4, h5⟩
  · exact .inl h
  · exact .inr ⟨g, cap, cs, h1, hk g cs h2, h3, h4, h5⟩

theorem ListAt.below {w w' : World} {L : Value} {ns : List Int} (h : ListAt w L ns) (hb : Below w.heap.size w w') : ListAt w' L ns :=
  h.kept fun g _ hg => (hb.block g (Array.getElem?_eq_some_iff.1 hg).1).trans hg

theorem ListAt.cell {w : World} {g cap : Nat} {ns : List Int} {n : Nat} (h : ListAt w (.slice (some ⟨g, 0, none⟩) n cap) ns) : n = ns.length ∧ n ≤ cap ∧ cap ≤ maxLen ∧ ∀ (j : Nat) (x : Int), ns[j]? = some x → w.cell? ⟨g, j, none⟩ = some (.int .u64 x) := by
  rcases h with ⟨h, _⟩ | ⟨g', cap', cs, h1, h2, h3, h4, h5⟩
  · cases h
  · simp only [Value.slice.injEq, Option.some.injEq, Addr.mk.injEq, and_true] at h1
    obtain ⟨rfl, rfl, rfl⟩ := h1
    exact ⟨rfl, h3, h4, fun j x hj => by simp only [World.cell?, h2]; exact h5 j x hj⟩

/-- The list that was there, or one in a block of its own. -/
def FreshL (w : World) (L L' : Value) : Prop := L' = L ∨ ∀ g o n c, L' = .slice (some ⟨g, o, none⟩) n c → w.heap.size ≤ g
theorem FreshL.mono {w w1 : World} {L L' : Value} (h : FreshL w1 L L') (hs : w.heap.size ≤ w1.heap.size) : FreshL w L L' := h.imp id fun h g o n c e => Nat.le_trans hs (h g o n c e)
theorem FreshL.own {w w1 : World} {base e size n : Nat} {L v : Value} {xs : List Value} (h : w1.ownsRow base e size v n xs) (hb : w.heap.size ≤ base) : FreshL w L v := by
  refine .inr fun g o m c he => ?_
  rcases h.2 with ⟨h, _⟩ | ⟨g', cap, cur, h, hg, _⟩
  · rw [h] at he; cases he
  · rw [h] at he
    simp only [Value.slice.injEq, Option.some.injEq, Addr.mk.injEq, and_true] at he
    omega

/-- The first place of a number in a list; -1. -/
def IsIdx (ns : List Int) (y i : Int) : Prop := (i = -1 ∧ y ∉ ns) ∨ ∃ k : Nat, i = k ∧ ns[k]? = some y ∧ ∀ j, j < k → ns[j]? ≠ some y

theorem aside_of {p : Prop} (h : p) : Aside p := h

theorem IsIdx.bound {ns : List Int} {y i : Int} (h : IsIdx ns y i) : i = -1 ∨ (0 ≤ i ∧ i < ns.length) := by
  rcases h with ⟨h, _⟩ | ⟨k, rfl, h1, _⟩
  · exact .inl h
  · have := (List.getElem?_eq_some_iff.1 h1).1
    exact .inr ⟨by omega, by omega⟩

set_option maxHeartbeats 1000000 in
theorem index_some (g n cap : Nat) (ns : List Int) (y : Int) (w : World) (hn : n ≤ maxLen) (hl : n = ns.length) (hc : ∀ (j : Nat) (x : Int), ns[j]? = some x → w.cell? ⟨g, j, none⟩ = some (.int .u64 x)) :
    Calls Tryz.prog 208 #[.slice (some ⟨g, 0, none⟩) n cap, .int .u64 y] w fun e w' => (∃ i : Int, e = .returned (.int .i64 i) ∧ IsIdx ns y i) ∧ w' = w := by
  have hC : Aside (∀ (j : Nat) (x : Int), ns[j]? = some x → w.cell? ⟨g, j, none⟩ = some (.int .u64 x)) := hc
  clear hc
  unfold maxLen at hn
  go_enter Tryz.func208, Tryz.ntmps208
  go_wp2
  go_loop [8] (fun i => ∃ k : Nat, k ≤ n ∧ i = .int .i64 k ∧ Aside (∀ j, j < k → ns[j]? ≠ some y)) (fun i => n - (Go.RowKit.intOf i).toNat)
  case atStart => exact ⟨0, Nat.zero_le _, rfl, fun j hj => by omega⟩
  case round =>
    obtain ⟨k, hk, rfl, hB⟩ := hrel
    by_cases hlt : k < n
    · have hx : ns[k]? = some ns[k] := List.getElem?_eq_getElem (by omega)
      have ha := hC.out k _ hx
      have hX : Aside (ns[k]? = some ns[k]) := hx
      clear hx
      generalize ns[k] = x at ha hX
      by_cases hxy : y = x
      · subst hxy
        go_wp2
        go_ret
        exact ⟨⟨k, rfl, .inr ⟨k, rfl, hX.out, hB.out⟩⟩, rfl⟩
      · have hne : (y == x) = false := by simpa using hxy
        go_wp2
        go_round
        case rel =>
          refine ⟨k + 1, by omega, by go_num, fun j hj => ?_⟩
          rcases Nat.lt_or_ge j k with g | g
          · exact hB.out j g
          · have : j = k := by omega
            rw [this, hX.out]
            intro h
            exact hxy (Option.some.inj h).symm
        case measure => simp [Go.RowKit.intOf]; omega
    · go_wp2
      go_ret
      refine ⟨⟨-1, rfl, .inl ⟨rfl, fun hm => ?_⟩⟩, rfl⟩
      obtain ⟨j, hj⟩ := List.getElem?_of_mem hm
      have := (List.getElem?_eq_some_iff.1 hj).1
      exact hB.out j (by omega) hj

theorem index_none (y : Int) (w : World) :
    Calls Tryz.prog 208 #[.slice none 0 0, .int .u64 y] w fun e w' => e = .returned (.int .i64 (-1)) ∧ w' = w := by
  go_enter Tryz.func208, Tryz.ntmps208
  go_wp2
  refine wp_loop_rounds 1 ?_
  rw [rounds_succ]
  go_wp2
  go_ret
  exact ⟨rfl, rfl⟩

/-- slices.Index over a list. -/
theorem index_list {w : World} {L : Value} {ns : List Int} (h : ListAt w L ns) (y : Int) :
    Calls Tryz.prog 208 #[L, .int .u64 y] w fun e w' => (∃ i : Int, e = .returned (.int .i64 i) ∧ IsIdx ns y i) ∧ w' = w := by
  rcases h with ⟨rfl, rfl⟩ | ⟨g, cap, cs, rfl, h2, h3, h4, h5⟩
  · exact (index_none y w).mono fun _ _ ⟨he, hw⟩ => ⟨⟨-1, he, .inl ⟨rfl, by simp⟩⟩, hw⟩
  · exact index_some g ns.length cap ns y w (by omega) rfl (fun j x hj => by simp only [World.cell?, h2]; exact h5 j x hj)

end Go.Proofs.YtbdnlaepeladbaaGreatDoor

namespace Go.Proofs.YtbdnlaepeladbaaGreatDoor
open Go.ChangeShapes Go.WideShapes Go.ChangeAt Go.RowKit Go.Eng

theorem snap_index {w : World} {L : Value} {ns : List Int} (h : ListAt w L ns) (y : Int) :
    Calls Tryz.prog 169 #[.agg #[L], .int .u64 y] w fun e w' => (∃ i : Int, e = .returned (.int .i64 i) ∧ IsIdx ns y i) ∧ Below w.heap.size w w' := by
  have b1 : Below w.heap.size w (w.alloc (.cells #[L] 160)) := (Below.refl _ w).alloc (Nat.le_refl _) _
  have hi := index_list (h.below b1) y
  have hone : L.oneCell' = true := by rcases h with ⟨rfl, _⟩ | ⟨g, cap, cs, rfl, _⟩ <;> rfl
  have hcs : L.cells = #[L] := by rcases h with ⟨rfl, _⟩ | ⟨g, cap, cs, rfl, _⟩ <;> rfl
  clear h
  go_enter Tryz.func169, Tryz.ntmps169
  go_wp2_with (go_at_call 208; with_reducible refine hi.mono ?_; rintro e w1 ⟨⟨i, rfl, hi2⟩, rfl⟩)
  go_ret
  exact ⟨⟨i, rfl, hi2⟩, b1⟩

theorem clip_none (w : World) : Calls Tryz.prog 170 #[.slice none 0 0] w fun e w' => e = .returned (.slice none 0 0) ∧ w' = w := by
  go_enter Tryz.func170, Tryz.ntmps170
  go_wp2
  go_ret
  exact ⟨rfl, rfl⟩

theorem clip_some (g n cap : Nat) (hn : n ≤ cap) (hc : cap ≤ maxLen) (w : World) : Calls Tryz.prog 170 #[.slice (some ⟨g, 0, none⟩) n cap] w fun e w' => e = .returned (.slice (some ⟨g, 0, none⟩) n n) ∧ w' = w := by
  have hcm := hc
  unfold maxLen at hcm
  go_enter Tryz.func170, Tryz.ntmps170
  go_wp2
  go_ret
  exact ⟨by simp, rfl⟩

end Go.Proofs.YtbdnlaepeladbaaGreatDoor

namespace Go.Proofs.YtbdnlaepeladbaaGreatDoor
open Go.ChangeShapes Go.WideShapes Go.ChangeAt Go.RowKit Go.Eng

theorem info24 : (Tryz.prog.info? 22).map (fun i => (i.zero, i.size, i.bytes)) = some (some (.int .u64 0), 1, 8) := by kernel_rfl

theorem own_shape {w : World} {base e size n : Nat} {v : Value} {xs : List Value} (h : w.ownsRow base e size v n xs) (hn : 0 < n) : ∃ g cap, v = .slice (some ⟨g, 0, none⟩) n cap := by
  rcases h.2 with ⟨_, h0⟩ | ⟨g, cap, cur, rfl, _⟩
  · omega
  · exact ⟨g, cap, rfl⟩

/-- A list with one behind, if it isn't there. -/
def withL (ns : List Int) (y : Int) : List Int := if y ∈ ns then ns else ns ++ [y]
theorem withL_length (ns : List Int) (y : Int) : (withL ns y).length ≤ ns.length + 1 := by unfold withL; split <;> simp

set_option maxHeartbeats 2000000 in
set_option maxRecDepth 1000000 in
theorem with_some {w : World} {g n cap : Nat} {ns : List Int} (h : ListAt w (.slice (some ⟨g, 0, none⟩) n cap) ns) (y : Int) (hl : ns.length ≤ 100000) :
    Calls Tryz.prog 98 #[.agg #[.slice (some ⟨g, 0, none⟩) n cap], .int .u64 y] w fun e w' => ∃ L', e = .returned (.agg #[L']) ∧ ListAt w' L' (withL ns y) ∧ FreshL w (.slice (some ⟨g, 0, none⟩) n cap) L' ∧ Below w.heap.size w w' := by
  obtain ⟨i0, hi, hz0, hz1, hz2⟩ := info_parts info24
  obtain ⟨hn, hnc, hcm, hcell⟩ := h.cell
  obtain ⟨w1, hw1⟩ : ∃ w1, w1 = (w.alloc (.cells #[.slice (some ⟨g, 0, none⟩) n cap] 160)).alloc (.cells #[.slice none 0 0] 160) := ⟨_, rfl⟩
  have b1 : Below w.heap.size w w1 := by rw [hw1]; exact ((Below.refl _ w).alloc (Nat.le_refl _) _).alloc (by simp) _
  have h1 := h.below b1
  have hix := snap_index h1 y
  rw [hw1] at hix
  have lw1 : w1.heap.size = w.heap.size + 2 := by rw [hw1]; simp
  have r0 : w1.heap[w.heap.size]? = some (.cells #[.slice (some ⟨g, 0, none⟩) n cap] 160 (0, 0)) := by
    rw [hw1, Below.heap_alloc _ _ _ (by simp)]; exact (Go.MapKept.heap_alloc w _).1
  have r1 : w1.heap[w.heap.size + 1]? = some (.cells #[.slice none 0 0] 160 (0, 0)) := by
    have e := (Go.MapKept.heap_alloc (w.alloc (.cells #[.slice (some ⟨g, 0, none⟩) n cap] 160)) (.cells #[.slice none 0 0] 160)).1
    have hs : (w.alloc (.cells #[.slice (some ⟨g, 0, none⟩) n cap] 160)).heap.size = w.heap.size + 1 := by simp
    rw [hs, ← hw1] at e
    exact e
  have K : Aside (∀ {v : World}, Below w1.heap.size w1 v → v.cell? ⟨w.heap.size, 0, none⟩ = some (.slice (some ⟨g, 0, none⟩) n cap) ∧ v.cell? ⟨w.heap.size + 1, 0, none⟩ = some (.slice none 0 0) ∧ v.frozen? ⟨w.heap.size + 1, 0, none⟩ = false ∧ Aside (v.heap[w.heap.size + 1]? = some (.cells #[.slice none 0 0] 160 (0, 0)) ∧ ListAt v (.slice (some ⟨g, 0, none⟩) n cap) ns ∧ Below w.heap.size w v ∧ ∀ (o : Obj) (b : Addr), some (⟨g, 0, none⟩ : Addr) = some b → ∀ (j : Nat) (u : Value), (ns.map (Value.int .u64))[j]? = some u → (v.alloc o).cell? (b.add j) = some u)) := by
    intro v hv
    have e0 := (hv.block w.heap.size (by omega)).trans r0
    have e1 := (hv.block (w.heap.size + 1) (by omega)).trans r1
    refine ⟨by simp [World.cell?, e0], by simp [World.cell?, e1], by simp [World.frozen?, e1], e1, h1.below hv, b1.trans (hv.mono b1.size), ?_⟩
    rintro o b hb j u hu
    obtain rfl := Option.some.inj hb
    rw [List.getElem?_map] at hu
    obtain ⟨x, hx, rfl⟩ := Option.map_eq_some_iff.1 hu
    rw [Eng.add_plain, Nat.zero_add]
    have hv2 := (h1.below hv).below ((Below.refl _ v).alloc (Nat.le_refl _) o)
    exact hv2.cell.2.2.2 j x hx
  have clip := fun w => clip_some g n cap hnc hcm w
  have hol : Aside ((ns.map (Value.int .u64)).length = n * 1) := by show (ns.map (Value.int .u64)).length = n * 1; simp [hn]
  have hn9 : n ≤ 100000 := by omega
  clear h h1 hcell r0 r1 b1 hn
  rw [hw1] at K lw1
  clear hw1
  go_enter Tryz.func98, Tryz.ntmps98
  go_wp2_with (first
    | (go_at_call 169; (with_reducible refine hix.mono ?_; rintro e w2 ⟨⟨i, rfl, hix2⟩, b2⟩; have hi2 := hix2.bound; have HI := aside_of hix2; clear hix2; obtain ⟨q0, q1, q2, q3⟩ := K.out b2))
    | (go_at_call 170; with_reducible refine (clip _).mono ?_; rintro e w3 ⟨rfl, rfl⟩)
    | (at_builtin; refine wpList_append_grows _ rfl (.tmp 12) (.tmp 14) 33 rfl 22 i0 (.int .u64 0) 1 8 Tryz.underlying33 hi hz0 hz1 hz2 rfl (by decide) (some ⟨g, 0, none⟩) n n (ns.map (Value.int .u64)) rfl (fun h => by cases h) hol.out (q3.out.2.2.2 _) ⟨w3.heap.size, 0, none⟩ 1 1 [.int .u64 y] rfl rfl (fun j u hj => by cases j with | zero => (simp at hj; subst hj; simp [Addr.add]) | succ j => simp at hj) (by simp [Value.oneCell']) (by omega) (by unfold maxLen; omega) (by omega) ?_; intro v' w4 hown hgrow; obtain ⟨g4, cap4, rfl⟩ := own_shape hown (Nat.succ_pos n); have b4 := b2.trans ((((Below.refl w3.heap.size w3).alloc (Nat.le_refl _) (.cells #[.int .u64 y] 22)).grown hgrow (by simp) (by intro k hk; cases hk)).mono b2.size); obtain ⟨t0, t1, t2, t3⟩ := K.out b4))
  · obtain ⟨q4, q5, q6, _⟩ := q3.out
    refine bodyPost_ret (v := .agg #[.slice (some ⟨g, 0, none⟩) n cap]) (by simp [results, Tryz.results98, go_sem, World.cell?_setCell_same _ _ _ q1]) rfl ⟨_, rfl, ?_, .inl rfl, ?_⟩
    rotate_left
    · exact q6.setCell (by simp) _
    have hwl : withL ns y = ns := by
      rcases HI.out with ⟨h, _⟩ | ⟨k, _, h, _⟩
      · omega
      · exact if_pos (List.mem_of_getElem? h)
    rw [hwl]
    · refine q5.kept fun k cs hk => ?_
      rw [Below.heap_setCell _ _ _ _ (by rintro rfl; rw [q4] at hk; simp at hk)]
      exact hk
  · obtain ⟨t4, t5, t6, _⟩ := t3.out
    refine bodyPost_ret (v := .agg #[.slice (some ⟨g4, 0, none⟩) (n + 1) cap4]) (by simp [results, Tryz.results98, go_sem, World.cell?_setCell_same _ _ _ t1]) rfl ⟨_, rfl, ?_, FreshL.own hown (by have h8 := b2.size; have h9 : w3.heap.size ≤ (w3.alloc (.cells #[.int .u64 y] 22)).heap.size := (by simp); omega), ?_⟩
    rotate_left
    · exact t6.setCell (by simp) _
    have hwl : withL ns y = ns ++ [y] := by
      rcases HI.out with ⟨_, h⟩ | ⟨k, h, _⟩
      · exact if_neg h
      · omega
    rw [hwl]
    · have hl4 : ListAt w4 (.slice (some ⟨g4, 0, none⟩) (n + 1) cap4) (ns ++ [y]) := ListAt.of_own (n := n + 1) (by rw [List.map_append]; exact hown)
      refine hl4.kept fun k cs hk => ?_
      rw [Below.heap_setCell _ _ _ _ (by rintro rfl; rw [t4] at hk; simp at hk)]
      exact hk

end Go.Proofs.YtbdnlaepeladbaaGreatDoor

namespace Go.Proofs.YtbdnlaepeladbaaGreatDoor
open Go.ChangeShapes Go.WideShapes Go.ChangeAt Go.RowKit Go.Eng

set_option maxHeartbeats 2000000 in
set_option maxRecDepth 1000000 in
theorem with_none {w : World} (y : Int) :
    Calls Tryz.prog 98 #[.agg #[.slice none 0 0], .int .u64 y] w fun e w' => ∃ L', e = .returned (.agg #[L']) ∧ ListAt w' L' [y] ∧ FreshL w (.slice none 0 0) L' ∧ Below w.heap.size w w' := by
  obtain ⟨i0, hi, hz0, hz1, hz2⟩ := info_parts info24
  have h : ListAt w (.slice none 0 0) [] := .inl ⟨rfl, rfl⟩
  obtain ⟨w1, hw1⟩ : ∃ w1, w1 = (w.alloc (.cells #[.slice none 0 0] 160)).alloc (.cells #[.slice none 0 0] 160) := ⟨_, rfl⟩
  have b1 : Below w.heap.size w w1 := by rw [hw1]; exact ((Below.refl _ w).alloc (Nat.le_refl _) _).alloc (by simp) _
  have h1 := h.below b1
  have hix := snap_index h1 y
  rw [hw1] at hix
  have lw1 : w1.heap.size = w.heap.size + 2 := by rw [hw1]; simp
  have r0 : w1.heap[w.heap.size]? = some (.cells #[.slice none 0 0] 160 (0, 0)) := by
    rw [hw1, Below.heap_alloc _ _ _ (by simp)]; exact (Go.MapKept.heap_alloc w _).1
  have r1 : w1.heap[w.heap.size + 1]? = some (.cells #[.slice none 0 0] 160 (0, 0)) := by
    have e := (Go.MapKept.heap_alloc (w.alloc (.cells #[.slice none 0 0] 160)) (.cells #[.slice none 0 0] 160)).1
    have hs : (w.alloc (.cells #[.slice none 0 0] 160)).heap.size = w.heap.size + 1 := by simp
    rw [hs, ← hw1] at e
    exact e
  have K : Aside (∀ {v : World}, Below w1.heap.size w1 v → v.cell? ⟨w.heap.size, 0, none⟩ = some (.slice none 0 0) ∧ v.cell? ⟨w.heap.size + 1, 0, none⟩ = some (.slice none 0 0) ∧ v.frozen? ⟨w.heap.size + 1, 0, none⟩ = false ∧ Aside (v.heap[w.heap.size + 1]? = some (.cells #[.slice none 0 0] 160 (0, 0)) ∧ ListAt v (.slice none 0 0) [] ∧ Below w.heap.size w v)) := by
    intro v hv
    have e0 := (hv.block w.heap.size (by omega)).trans r0
    have e1 := (hv.block (w.heap.size + 1) (by omega)).trans r1
    exact ⟨by simp [World.cell?, e0], by simp [World.cell?, e1], by simp [World.frozen?, e1], e1, h1.below hv, b1.trans (hv.mono b1.size)⟩
  have clip := fun w => clip_none w
  clear h h1 r0 r1 b1
  rw [hw1] at K lw1
  clear hw1
  go_enter Tryz.func98, Tryz.ntmps98
  go_wp2_with (first
    | (go_at_call 169; with_reducible refine hix.mono ?_; rintro e w2 ⟨⟨i, rfl, hix2⟩, b2⟩; have hi2 := hix2.bound; obtain ⟨q0, q1, q2, q3⟩ := K.out b2)
    | (go_at_call 170; with_reducible refine (clip _).mono ?_; rintro e w3 ⟨rfl, rfl⟩)
    | (at_builtin; refine wpList_append_grows _ rfl (.tmp 12) (.tmp 14) 33 rfl 22 i0 (.int .u64 0) 1 8 Tryz.underlying33 hi hz0 hz1 hz2 rfl (by decide) none 0 0 [] rfl (fun _ => ⟨rfl, rfl⟩) rfl (by intro _ h; cases h) ⟨w3.heap.size, 0, none⟩ 1 1 [.int .u64 y] rfl rfl (fun j u hj => by cases j with | zero => (simp at hj; subst hj; simp [Addr.add]) | succ j => simp at hj) (by simp [Value.oneCell']) (by omega) (by unfold maxLen; omega) (by omega) ?_; intro v' w4 hown hgrow; obtain ⟨g4, cap4, rfl⟩ := own_shape hown (by decide); have b4 := b2.trans ((((Below.refl w3.heap.size w3).alloc (Nat.le_refl _) (.cells #[.int .u64 y] 22)).grown hgrow (by simp) (by intro k hk; cases hk)).mono b2.size); obtain ⟨t0, t1, t2, t3⟩ := K.out b4))
  · exfalso
    simp only [List.length_nil] at hi2
    omega
  · obtain ⟨t4, t5, t6⟩ := t3.out
    refine bodyPost_ret (v := .agg #[.slice (some ⟨g4, 0, none⟩) 1 cap4]) (by simp [results, Tryz.results98, go_sem, World.cell?_setCell_same _ _ _ t1]) rfl ⟨_, rfl, ?_, FreshL.own hown (by have h8 := b2.size; have h9 : w3.heap.size ≤ (w3.alloc (.cells #[.int .u64 y] 22)).heap.size := (by simp); omega), ?_⟩
    · have hl4 : ListAt w4 (.slice (some ⟨g4, 0, none⟩) 1 cap4) [y] := ListAt.of_own (n := 1) hown
      refine hl4.kept fun k cs hk => ?_
      rw [Below.heap_setCell _ _ _ _ (by rintro rfl; rw [t4] at hk; simp at hk)]
      exact hk
    · exact t6.setCell (by simp) _

/-- snap.With, over a list. -/
theorem snap_with {w : World} {L : Value} {ns : List Int} (h : ListAt w L ns) (y : Int) (hl : ns.length ≤ 100000) :
    Calls Tryz.prog 98 #[.agg #[L], .int .u64 y] w fun e w' => ∃ L', e = .returned (.agg #[L']) ∧ ListAt w' L' (withL ns y) ∧ FreshL w L L' ∧ Below w.heap.size w w' := by
  have h0 := h
  rcases h with ⟨rfl, rfl⟩ | ⟨g, cap, cs, rfl, _⟩
  · exact with_none y
  · exact with_some h0 y hl

end Go.Proofs.YtbdnlaepeladbaaGreatDoor

namespace Go.Proofs.YtbdnlaepeladbaaGreatDoor
open Go.ChangeShapes Go.WideShapes Go.ChangeAt Go.RowKit Go.Eng

theorem known_calls {w : World} {b m : Nat} {L : Value} {es : List (Int × Pl)} (h : BagAt w b m L es) (id : Int) :
    Calls Tryz.prog 97 #[.pointer (some ⟨b, 0, none⟩), .int .u64 id] w fun e w' => e = .returned (.int .i64 (if (aget id es).isSome then 0 else 9)) ∧ Below w.heap.size w w' := by
  have hg := get_calls h id
  obtain ⟨p, x, y, z, hs⟩ := got_shape (aget id es)
  rw [hs] at hg
  cases hk : (aget id es).isSome with
  | true =>
    rw [hk] at hg
    clear h hs hk
    go_enter Tryz.func97, Tryz.ntmps97
    go_wp2_with (go_at_call 94; with_reducible refine hg.mono ?_; rintro e w1 ⟨rfl, b1⟩)
    go_ret
    exact ⟨rfl, b1.alloc b1.size _⟩
  | false =>
    rw [hk] at hg
    clear h hs hk
    go_enter Tryz.func97, Tryz.ntmps97
    go_wp2_with (go_at_call 94; with_reducible refine hg.mono ?_; rintro e w1 ⟨rfl, b1⟩)
    go_ret
    exact ⟨rfl, b1.alloc b1.size _⟩

theorem BagAt.cell1 {w : World} {b m : Nat} {L : Value} {es : List (Int × Pl)} (h : BagAt w b m L es) : w.cell? ⟨b, 1, none⟩ = some L := by simp [World.cell?, h.1]
theorem BagAt.free1 {w : World} {b m : Nat} {L : Value} {es : List (Int × Pl)} (h : BagAt w b m L es) : w.frozen? ⟨b, 1, none⟩ = false := by simp [World.frozen?, h.1]

theorem BagAt.setList {w : World} {b m : Nat} {L L' : Value} {es : List (Int × Pl)} (h : BagAt w b m L es) (hbm : b ≠ m) : BagAt (w.setCell ⟨b, 1, none⟩ L') b m L' es := by
  refine ⟨?_, h.2.same (Below.heap_setCell _ _ _ _ (fun e => hbm e.symm))⟩
  rw [setCell_cells h.1]
  have := h.lt.1
  simp [this]

theorem ListAt.setBag {w : World} {b m : Nat} {L L' v : Value} {es : List (Int × Pl)} {ns : List Int} (h : ListAt w L' ns) (hb : BagAt w b m L es) : ListAt (w.setCell ⟨b, 1, none⟩ v) L' ns :=
  h.kept fun k cs hk => by
    rw [Below.heap_setCell _ _ _ _ (by show k ≠ b; rintro rfl; rw [hb.1] at hk; simp at hk)]
    exact hk

theorem ListAt.shape {w : World} {L : Value} {ns : List Int} (h : ListAt w L ns) : ∃ a n c, L = .slice a n c := by
  rcases h with ⟨rfl, _⟩ | ⟨g, cap, cs, rfl, _⟩
  · exact ⟨_, _, _, rfl⟩
  · exact ⟨_, _, _, rfl⟩

/-- What a call that lists, or unlists, leaves. -/
def Listed (w : World) (b m : Nat) (L : Value) (es : List (Int × Pl)) (ns' : List Int) (w' : World) : Prop :=
  ∃ L', Upto (· = b) w w' ∧ BagAt w' b m L' es ∧ ListAt w' L' ns' ∧ FreshL w L L'

set_option maxHeartbeats 1000000 in
theorem publish_calls {w : World} {b m : Nat} {L : Value} {es : List (Int × Pl)} {ns : List Int} (h : BagAt w b m L es) (hbm : b ≠ m) (hl : ListAt w L ns) (hn : ns.length ≤ 100000) (id : Int) :
    Calls Tryz.prog 34 #[.pointer (some ⟨b, 0, none⟩), .int .u64 id] w fun e w' => e = .returned (.int .i64 (if (aget id es).isSome then 0 else 9)) ∧ Listed w b m L es (if (aget id es).isSome then withL ns id else ns) w' := by
  have hk := known_calls h id
  have W1 : Aside (∀ {v : World}, Below w.heap.size w v → BagAt v b m L es ∧ ListAt v L ns) := fun hv => ⟨h.below hv h.lt.1 h.lt.2, hl.below hv⟩
  cases hs : (aget id es).isSome with
  | false =>
    rw [hs] at hk
    clear h hs
    go_enter Tryz.func34, Tryz.ntmps34
    go_wp2_with (go_at_call 97; with_reducible refine hk.mono ?_; rintro e w1 ⟨rfl, b1⟩)
    go_ret
    obtain ⟨k1, k2⟩ := W1.out b1
    exact ⟨rfl, L, .of_below b1, k1, k2, .inl rfl⟩
  | true =>
    rw [hs] at hk
    obtain ⟨a, n, c, rfl⟩ := hl.shape
    have hw : Aside (∀ {v : World}, ListAt v (.slice a n c) ns → Calls Tryz.prog 98 #[.agg #[.slice a n c], .int .u64 id] v fun e w' => ∃ L', e = .returned (.agg #[L']) ∧ ListAt w' L' (withL ns id) ∧ FreshL v (.slice a n c) L' ∧ Below v.heap.size v w') := fun hv => snap_with hv id hn
    clear h hs hl
    go_enter Tryz.func34, Tryz.ntmps34
    go_wp2_with (first
      | (go_at_call 97; with_reducible refine hk.mono ?_; rintro e w1 ⟨rfl, b1⟩; obtain ⟨k1, k2⟩ := W1.out b1; have c1 := k1.cell1)
      | (go_at_call 98; have h5 := hw.out k2; with_reducible refine h5.mono ?_; clear h5 c1; rintro e w2 ⟨L', rfl, l2, fr2, b2⟩; have k3 := k1.below b2 k1.lt.1 k1.lt.2; have c2 := k3.cell1; have f2 := k3.free1; obtain ⟨a', n', c', rfl⟩ := l2.shape))
    go_ret
    exact ⟨rfl, _, (Upto.of_below (S := (· = b)) (b1.trans (b2.mono b1.size))).setCell (p := ⟨b, 1, none⟩) (.inl rfl) _, k3.setList hbm, l2.setBag k3, fr2.mono b1.size⟩

end Go.Proofs.YtbdnlaepeladbaaGreatDoor

namespace Go.Proofs.YtbdnlaepeladbaaGreatDoor
open Go.ChangeShapes Go.WideShapes Go.ChangeAt Go.RowKit Go.Eng

theorem enter_range {w : World} {b m : Nat} {L : Value} {es : List (Int × Pl)} (h : BagAt w b m L es) (id st : Int) (now : Nat) (hbad : id = 0 ∨ st < 0 ∨ 3 < st) :
    Calls Tryz.prog 41 #[.pointer (some ⟨b, 0, none⟩), .int .u64 id, .int .i64 st, .int .u64 now] w fun e w' => e = .returned (.int .i64 2) ∧ Below w.heap.size w w' := by
  have hg := get_calls h id
  obtain ⟨p, x, y, z, hs⟩ := got_shape (aget id es)
  rw [hs] at hg
  generalize (aget id es).isSome = ok at hg
  clear h hs
  by_cases hi : id = 0
  · subst hi
    go_enter Tryz.func41, Tryz.ntmps41
    go_wp2_with (go_at_call 94; with_reducible refine hg.mono ?_; rintro e w1 ⟨rfl, b1⟩)
    go_ret
    exact ⟨rfl, b1.alloc b1.size _⟩
  · have hi' : (id == 0) = false := by simpa using hi
    by_cases hl : st < 0
    · go_enter Tryz.func41, Tryz.ntmps41
      go_wp2_with (go_at_call 94; with_reducible refine hg.mono ?_; rintro e w1 ⟨rfl, b1⟩)
      go_ret
      exact ⟨rfl, b1.alloc b1.size _⟩
    · have hh : 3 < st := by omega
      go_enter Tryz.func41, Tryz.ntmps41
      go_wp2_with (go_at_call 94; with_reducible refine hg.mono ?_; rintro e w1 ⟨rfl, b1⟩)
      go_ret
      exact ⟨rfl, b1.alloc b1.size _⟩

theorem enter_twice {w : World} {b m : Nat} {L : Value} {es : List (Int × Pl)} (h : BagAt w b m L es) (id st : Int) (now : Nat) {p : Pl} (hid : aget id es = some p) (hi : (id == 0) = false) (h0 : ¬ st < 0) (h3 : ¬ 3 < st) :
    Calls Tryz.prog 41 #[.pointer (some ⟨b, 0, none⟩), .int .u64 id, .int .i64 st, .int .u64 now] w fun e w' => e = .returned (.int .i64 10) ∧ Below w.heap.size w w' := by
  have hg := get_calls h id
  rw [hid] at hg
  change Calls Tryz.prog 94 _ w fun e w' => e = .returned (.tuple #[.agg #[.pointer (some ⟨p.c, 0, none⟩), .int .u64 p.born, .int .u64 p.since, .int .u64 p.proved], .bool true]) ∧ Below w.heap.size w w' at hg
  clear h hid
  go_enter Tryz.func41, Tryz.ntmps41
  go_wp2_with (go_at_call 94; with_reducible refine hg.mono ?_; rintro e w1 ⟨rfl, b1⟩)
  go_ret
  exact ⟨rfl, b1.alloc b1.size _⟩

end Go.Proofs.YtbdnlaepeladbaaGreatDoor

namespace Go.Proofs.YtbdnlaepeladbaaGreatDoor
open Go.ChangeShapes Go.WideShapes Go.ChangeAt Go.RowKit Go.Eng

theorem size24 : ∀ w, (Go.sizeOf 22).run Tryz.prog w = .ok 1 w := Tryz.sizeOf22

/-- slices.Clone over a list: one of the same numbers, in blocks of its own. -/
theorem clone_list {w : World} {L : Value} {ns : List Int} (h : ListAt w L ns) (hl : ns.length ≤ 100000) :
    Calls Tryz.prog 174 #[L] w fun e w' => ∃ L', e = .returned L' ∧ ListAt w' L' ns ∧ Below w.heap.size w w' ∧ ((L = .slice none 0 0 ∧ L' = .slice none 0 0) ∨ ∃ g cap, L' = .slice (some ⟨g, 0, none⟩) ns.length cap ∧ w.heap.size ≤ g) := by
  obtain ⟨i0, hi, hz0, hz1, hz2⟩ := info_parts info24
  have h0 := h
  rcases h with ⟨rfl, rfl⟩ | ⟨g, cap, cs, rfl, _⟩
  · exact (AnyE.slices_Clone_nil Tryz.cloneL 0 0 w).mono fun e w' ⟨he, hw⟩ => ⟨_, he, .inl ⟨rfl, rfl⟩, by rw [hw]; exact Below.refl _ w, .inl ⟨rfl, rfl⟩⟩
  · obtain ⟨hn, hnc, hcm, hcell⟩ := h0.cell
    have k := AnyE.slices_Clone Tryz.cloneL i0 (.int .u64 0) 1 8 hi hz0 hz1 hz2 rfl (by decide) size24 g 0 ns.length cap (ns.map (Value.int .u64)) w (by simp) (by unfold maxLen; omega) (by omega)
      (fun j u hu => by
        rw [List.getElem?_map] at hu
        obtain ⟨x, hx, rfl⟩ := Option.map_eq_some_iff.1 hu
        rw [Nat.zero_add]
        exact hcell j x hx)
      (fun u hu => by obtain ⟨x, _, rfl⟩ := List.mem_map.1 hu; rfl)
    refine k.mono ?_
    rintro e w' ⟨v, rfl, hown, hne, hb⟩
    refine ⟨v, rfl, ListAt.of_own hown, hb, ?_⟩
    rcases hown.2 with ⟨rfl, h0⟩ | ⟨g', cap', cur, rfl, hg, _⟩
    · exact absurd rfl hne
    · exact .inr ⟨g', cap', rfl, hg⟩

theorem all_calls {w : World} {L : Value} {ns : List Int} (h : ListAt w L ns) (hl : ns.length ≤ 100000) :
    Calls Tryz.prog 111 #[.agg #[L]] w fun e w' => ∃ L', e = .returned L' ∧ ListAt w' L' ns ∧ Below w.heap.size w w' := by
  have b1 : Below w.heap.size w (w.alloc (.cells #[L] 160)) := (Below.refl _ w).alloc (Nat.le_refl _) _
  have hi := clone_list (h.below b1) hl
  obtain ⟨a, n, c, rfl⟩ := h.shape
  clear h hl
  go_enter Tryz.func111, Tryz.ntmps111
  go_wp2_with (go_at_call 174; with_reducible refine hi.mono ?_; rintro e w1 ⟨L', rfl, l1, b2, _⟩)
  obtain ⟨a', n', c', rfl⟩ := l1.shape
  go_ret
  exact ⟨_, rfl, l1, b1.trans (b2.mono b1.size)⟩

set_option maxHeartbeats 1000000 in
theorem equal_some {g n cap g' cap' : Nat} {ns : List Int} {w : World} (h : ListAt w (.slice (some ⟨g, 0, none⟩) n cap) ns) (h' : ListAt w (.slice (some ⟨g', 0, none⟩) n cap') ns) :
    Calls Tryz.prog 26 #[.slice (some ⟨g, 0, none⟩) n cap, .slice (some ⟨g', 0, none⟩) n cap'] w fun e w' => e = .returned (.bool true) ∧ Below w.heap.size w w' := by
  have hC : Aside (∀ {v : World}, Below w.heap.size w v → (∀ (j : Nat) (x : Int), ns[j]? = some x → v.cell? ⟨g, j, none⟩ = some (.int .u64 x)) ∧ (∀ (j : Nat) (x : Int), ns[j]? = some x → v.cell? ⟨g', j, none⟩ = some (.int .u64 x))) :=
    fun hb => ⟨(h.below hb).cell.2.2.2, (h'.below hb).cell.2.2.2⟩
  obtain ⟨hl, hn, hn2, _⟩ := h.cell
  have hb0 := Below.refl w.heap.size w
  clear h h'
  unfold maxLen at hn2
  go_enter Tryz.func26, Tryz.ntmps26
  go_wp2
  go_loopw [13] (fun i wr => ∃ k : Nat, k ≤ n ∧ i = .int .i64 k ∧ Below w.heap.size w wr) (fun i _ => n - (Go.RowKit.intOf i).toNat)
  case atStart => exact ⟨0, Nat.zero_le _, rfl, hb0⟩
  case round =>
    obtain ⟨k, hk, rfl, hb⟩ := hrel
    by_cases hlt : k < n
    · have hx : ns[k]? = some ns[k] := List.getElem?_eq_getElem (by omega)
      have ha := (hC.out hb).1 k _ hx
      have ha' := (hC.out hb).2 k _ hx
      generalize ns[k] = x at ha ha'
      have hki : (k : Int) < (n : Int) := by omega
      have hk0 : (0 : Int) ≤ (k : Int) := by omega
      go_wp2_with fail
      go_quiet (fail)
      go_wp2
      go_roundw
      case rel => exact ⟨k + 1, by omega, by go_num, hb.trans ⟨rfl, rfl, rfl, Nat.le_refl _, fun _ _ => rfl⟩⟩
      case measure => simp [Go.RowKit.intOf]; omega
    · go_wp2
      go_ret
      exact ⟨rfl, hb⟩

theorem equal_none (w : World) : Calls Tryz.prog 26 #[.slice none 0 0, .slice none 0 0] w fun e w' => e = .returned (.bool true) ∧ w' = w := by
  go_enter Tryz.func26, Tryz.ntmps26
  go_wp2
  refine wp_loop_rounds 1 ?_
  rw [rounds_succ]
  go_wp2
  go_ret
  exact ⟨rfl, rfl⟩

theorem equal_nil_left (g cap : Nat) (w : World) : Calls Tryz.prog 26 #[.slice none 0 0, .slice (some ⟨g, 0, none⟩) 0 cap] w fun e w' => e = .returned (.bool true) ∧ w' = w := by
  go_enter Tryz.func26, Tryz.ntmps26
  go_wp2
  refine wp_loop_rounds 1 ?_
  rw [rounds_succ]
  go_wp2
  go_ret
  exact ⟨rfl, rfl⟩

theorem equal_nil_right (g cap : Nat) (w : World) : Calls Tryz.prog 26 #[.slice (some ⟨g, 0, none⟩) 0 cap, .slice none 0 0] w fun e w' => e = .returned (.bool true) ∧ w' = w := by
  go_enter Tryz.func26, Tryz.ntmps26
  go_wp2
  refine wp_loop_rounds 1 ?_
  rw [rounds_succ]
  go_wp2
  go_ret
  exact ⟨rfl, rfl⟩

/-- Two lists of the same numbers are equal. -/
theorem equal_list {w : World} {L L' : Value} {ns : List Int} (h : ListAt w L ns) (h' : ListAt w L' ns) :
    Calls Tryz.prog 26 #[L, L'] w fun e w' => e = .returned (.bool true) ∧ Below w.heap.size w w' := by
  have h0 := h
  have h0' := h'
  rcases h with ⟨rfl, rfl⟩ | ⟨g, cap, cs, rfl, k2, k3, k4, k5⟩
  · rcases h' with ⟨rfl, _⟩ | ⟨g', cap', cs', rfl, _⟩
    · exact (equal_none w).mono fun _ _ ⟨he, hw⟩ => ⟨he, by rw [hw]; exact Below.refl _ w⟩
    · exact (equal_nil_left g' cap' w).mono fun _ _ ⟨he, hw⟩ => ⟨he, by rw [hw]; exact Below.refl _ w⟩
  · obtain ⟨e1, e2, e3, e4⟩ := h0.cell
    rcases h' with ⟨rfl, rfl⟩ | ⟨g', cap', cs', rfl, _⟩
    · exact (equal_nil_right g cap w).mono fun _ _ ⟨he, hw⟩ => ⟨he, by rw [hw]; exact Below.refl _ w⟩
    · exact equal_some h0 h0'

end Go.Proofs.YtbdnlaepeladbaaGreatDoor

namespace Go.Proofs.YtbdnlaepeladbaaGreatDoor
open Go.ChangeShapes Go.WideShapes Go.ChangeAt Go.RowKit Go.Eng

def encI (x : Int) : Value := .int .u64 x

theorem heap_putRow {w : World} {g : Nat} {cs : Array Value} {t : TypeId} {f : Nat × Nat} {d : Array Int} {q : Nat} (hg : w.heap[g]? = some (.cells cs t f)) :
    ∃ cs', (Go.Sort.putRow encI (Go.Sort.ahead w q) g 0 d).heap[g]? = some (.cells cs' t f) := by
  unfold Go.Sort.putRow Go.Sort.mapBlock Go.Sort.ahead
  simp only [Array.getElem?_modify, if_true, hg]
  exact ⟨_, rfl⟩

theorem heap_putRow_other {w : World} {g k : Nat} {d : Array Int} {q : Nat} (hk : k ≠ g) : (Go.Sort.putRow encI (Go.Sort.ahead w q) g 0 d).heap[k]? = w.heap[k]? := by
  unfold Go.Sort.putRow Go.Sort.mapBlock Go.Sort.ahead
  simp only [Array.getElem?_modify]
  rw [if_neg (fun e => hk e.symm)]

theorem upto_putRow {w : World} {g : Nat} {d : Array Int} {q : Nat} : Upto (· = g) w (Go.Sort.putRow encI (Go.Sort.ahead w q) g 0 d) :=
  ⟨rfl, rfl, rfl, by unfold Go.Sort.putRow Go.Sort.mapBlock Go.Sort.ahead; simp, fun k _ hk => heap_putRow_other hk⟩

/-- slices.Delete of one place of a list. -/
theorem delete_list {w : World} {g cap : Nat} {ns : List Int} (h : ListAt w (.slice (some ⟨g, 0, none⟩) ns.length cap) ns) (i : Nat) (hi : i < ns.length) :
    Calls Tryz.prog 173 #[.slice (some ⟨g, 0, none⟩) ns.length cap, .int .i64 i, .int .i64 (i + 1 : Nat)] w fun e w' => e = .returned (.slice (some ⟨g, 0, none⟩) (ns.length - 1) cap) ∧ ListAt w' (.slice (some ⟨g, 0, none⟩) (ns.length - 1) cap) (List.take i ns ++ List.drop (i + 1) ns) ∧ Upto (· = g) w w' := by
  obtain ⟨i0, hi0, hz0, hz1, hz2⟩ := info_parts info24
  obtain ⟨_, hn, hcm, hcell⟩ := h.cell
  have hblk : ∃ cs, w.heap[g]? = some (.cells cs 22 (0, 0)) := by
    rcases h with ⟨h, _⟩ | ⟨g', cap', cs, h1, h2, _⟩
    · cases h
    · simp only [Value.slice.injEq, Option.some.injEq, Addr.mk.injEq, and_true] at h1
      rw [h1.1]; exact ⟨cs, h2⟩
  obtain ⟨cs, hcs⟩ := hblk
  have hH : Go.Sort.Holds encI w g 0 ns.toArray := by
    intro j hj
    have hj' : j < ns.length := by simpa using hj
    have := hcell j _ (List.getElem?_eq_getElem hj')
    rw [Nat.zero_add]
    refine ⟨?_, by simp [World.frozen?, hcs]⟩
    rw [this, getElem!_pos ns.toArray j hj, List.getElem_toArray]; rfl
  have k := AnyE.slices_Delete Tryz.delL encI (fun _ => rfl) 0 Tryz.zeroValue22 i0 hi0 hz1 g 0 cap i (i + 1) ns.toArray w hH (by simpa using hn) (by unfold maxLen at hcm; omega) (by omega) (by simp; omega)
  have e1 : ns.toArray.size = ns.length := by simp
  have e2 : i + 1 - i = 1 := by omega
  rw [e1, e2] at k
  refine k.mono ?_
  rintro e w' ⟨rfl, q, rfl⟩
  have hlen : (List.take i ns ++ List.drop (i + 1) ns).length = ns.length - 1 := by simp; omega
  refine ⟨rfl, ?_, upto_putRow⟩
  have hHa : Go.Sort.Holds encI (Go.Sort.ahead w q) g 0 ns.toArray := fun j hj => hH j hj
  have hsz : (ns.toArray.toList.take i ++ ns.toArray.toList.drop (i + 1) ++ List.replicate 1 (0 : Int)).toArray.size = ns.toArray.size := by simp; omega
  have hP := Go.Sort.holds_putRow encI (Go.Sort.ahead w q) g 0 ns.toArray (ns.toArray.toList.take i ++ ns.toArray.toList.drop (i + 1) ++ List.replicate 1 (0 : Int)).toArray hHa hsz
  obtain ⟨cs', hcs'⟩ := heap_putRow (d := (ns.toArray.toList.take i ++ ns.toArray.toList.drop (i + 1) ++ List.replicate 1 (0 : Int)).toArray) (q := q) hcs
  refine .inr ⟨g, cap, cs', by rw [hlen], hcs', by omega, hcm, fun j x hj => ?_⟩
  have hjl : j < ns.length - 1 := by rw [← hlen]; exact (List.getElem?_eq_some_iff.1 hj).1
  have := (hP j (by rw [hsz, e1]; omega)).1
  rw [Nat.zero_add] at this
  simp only [World.cell?, hcs'] at this
  change cs'[j]? = _ at this
  rw [this, getElem!_pos _ j (by rw [hsz, e1]; omega)]
  have hx : ((ns.toArray.toList.take i ++ ns.toArray.toList.drop (i + 1) ++ List.replicate 1 (0 : Int)))[j]? = some x := by
    rw [List.getElem?_append_left (by simp only; rw [hlen]; exact hjl)]
    exact hj
  rw [List.getElem_toArray]
  rw [List.getElem?_eq_getElem (by simp; omega)] at hx
  rw [Option.some.inj hx]; rfl

end Go.Proofs.YtbdnlaepeladbaaGreatDoor

namespace Go.Proofs.YtbdnlaepeladbaaGreatDoor
open Go.ChangeShapes Go.WideShapes Go.ChangeAt Go.RowKit Go.Eng

set_option maxHeartbeats 1000000 in
theorem list_calls {w : World} {b m : Nat} {L : Value} {es : List (Int × Pl)} {ns : List Int} (h : BagAt w b m L es) (hl : ListAt w L ns) :
    Calls Tryz.prog 110 #[.pointer (some ⟨b, 0, none⟩)] w fun e w' => e = .returned (.agg #[L]) ∧ Below w.heap.size w w' := by
  have b1 : Below w.heap.size w (w.alloc (.cells #[.slice none 0 0] 160)) := (Below.refl _ w).alloc (Nat.le_refl _) _
  have c1 := (h.below b1 h.lt.1 h.lt.2).cell1
  obtain ⟨a, n, c, rfl⟩ := hl.shape
  clear h hl
  go_enter Tryz.func110, Tryz.ntmps110
  go_wp2
  refine bodyPost_ret (v := .agg #[.slice a n c]) (by simp [results, Tryz.results110, go_sem]) rfl ⟨rfl, ?_⟩
  exact (Below.refl _ w).alloc (Nat.le_refl _) _

/-- A list without the first such number. -/
def woL (ns : List Int) (y : Int) : List Int := ns.erase y
theorem woL_none {ns : List Int} {y : Int} (h : y ∉ ns) : woL ns y = ns := List.erase_of_not_mem h
theorem woL_some : ∀ {ns : List Int} {y : Int} {k : Nat}, ns[k]? = some y → (∀ j, j < k → ns[j]? ≠ some y) → woL ns y = ns.take k ++ ns.drop (k + 1)
  | [], y, k, h, _ => by simp at h
  | x :: l, y, k, h, hb => by
    unfold woL
    cases k with
    | zero =>
      simp at h; subst h
      simp
    | succ k =>
      have hx : ¬ x = y := by
        intro e
        exact hb 0 (by omega) (by simp [e])
      rw [List.erase_cons_tail (by simpa using hx)]
      simp at h
      have := woL_some h (fun j hj => by have := hb (j + 1) (by omega); simpa using this)
      unfold woL at this
      rw [this]; simp

set_option maxHeartbeats 2000000 in
set_option maxRecDepth 1000000 in
theorem without_some {w : World} {g n cap : Nat} {ns : List Int} (h : ListAt w (.slice (some ⟨g, 0, none⟩) n cap) ns) (y : Int) (hl : ns.length ≤ 100000) :
    Calls Tryz.prog 103 #[.agg #[.slice (some ⟨g, 0, none⟩) n cap], .int .u64 y] w fun e w' => ∃ L', e = .returned (.agg #[L']) ∧ ListAt w' L' (woL ns y) ∧ FreshL w (.slice (some ⟨g, 0, none⟩) n cap) L' ∧ Below w.heap.size w w' := by
  obtain ⟨hn, hnc, hcm, hcell⟩ := h.cell
  obtain ⟨w1, hw1⟩ : ∃ w1, w1 = (w.alloc (.cells #[.slice (some ⟨g, 0, none⟩) n cap] 160)).alloc (.cells #[.slice none 0 0] 160) := ⟨_, rfl⟩
  have b1 : Below w.heap.size w w1 := by rw [hw1]; exact ((Below.refl _ w).alloc (Nat.le_refl _) _).alloc (by simp) _
  have h1 := h.below b1
  have hix := snap_index h1 y
  rw [hw1] at hix
  have lw1 : w1.heap.size = w.heap.size + 2 := by rw [hw1]; simp
  have r0 : w1.heap[w.heap.size]? = some (.cells #[.slice (some ⟨g, 0, none⟩) n cap] 160 (0, 0)) := by
    rw [hw1, Below.heap_alloc _ _ _ (by simp)]; exact (Go.MapKept.heap_alloc w _).1
  have r1 : w1.heap[w.heap.size + 1]? = some (.cells #[.slice none 0 0] 160 (0, 0)) := by
    have e := (Go.MapKept.heap_alloc (w.alloc (.cells #[.slice (some ⟨g, 0, none⟩) n cap] 160)) (.cells #[.slice none 0 0] 160)).1
    have hs : (w.alloc (.cells #[.slice (some ⟨g, 0, none⟩) n cap] 160)).heap.size = w.heap.size + 1 := by simp
    rw [hs, ← hw1] at e
    exact e
  have K : Aside (∀ {v : World}, Below w1.heap.size w1 v → v.cell? ⟨w.heap.size, 0, none⟩ = some (.slice (some ⟨g, 0, none⟩) n cap) ∧ v.cell? ⟨w.heap.size + 1, 0, none⟩ = some (.slice none 0 0) ∧ v.frozen? ⟨w.heap.size + 1, 0, none⟩ = false ∧ Aside (v.heap[w.heap.size + 1]? = some (.cells #[.slice none 0 0] 160 (0, 0)) ∧ ListAt v (.slice (some ⟨g, 0, none⟩) n cap) ns ∧ Below w.heap.size w v)) := by
    intro v hv
    have e0 := (hv.block w.heap.size (by omega)).trans r0
    have e1 := (hv.block (w.heap.size + 1) (by omega)).trans r1
    exact ⟨by simp [World.cell?, e0], by simp [World.cell?, e1], by simp [World.frozen?, e1], e1, h1.below hv, b1.trans (hv.mono b1.size)⟩
  have cl : Aside (∀ {v : World}, ListAt v (.slice (some ⟨g, 0, none⟩) n cap) ns → Calls Tryz.prog 174 #[.slice (some ⟨g, 0, none⟩) n cap] v fun e w' => ∃ g' cap', e = .returned (.slice (some ⟨g', 0, none⟩) n cap') ∧ ListAt w' (.slice (some ⟨g', 0, none⟩) n cap') ns ∧ Below v.heap.size v w' ∧ v.heap.size ≤ g' ∧ g' < w'.heap.size) := by
    intro v hv
    refine (clone_list hv hl).mono ?_
    rintro e w' ⟨L', rfl, l', hb, ⟨hv, _⟩ | ⟨g', cap', rfl, hg⟩⟩
    · cases hv
    · refine ⟨g', cap', by rw [hn], by rw [hn]; exact l', hb, hg, ?_⟩
      rcases l' with ⟨l', _⟩ | ⟨g2, cap2, cs2, l1, l2, _⟩
      · cases l'
      · simp only [Value.slice.injEq, Option.some.injEq, Addr.mk.injEq, and_true] at l1
        rw [l1.1]; exact (Array.getElem?_eq_some_iff.1 l2).1
  have hnA : Aside (n = ns.length) := hn
  clear h h1 hcell r0 r1 b1 hn
  rw [hw1] at K lw1
  clear hw1
  go_enter Tryz.func103, Tryz.ntmps103
  go_wp2_with (go_at_call 169; with_reducible refine hix.mono ?_; rintro e w2 ⟨⟨i, rfl, hix2⟩, b2⟩; have hi2 := hix2.bound; have HI := aside_of hix2; clear hix2; obtain ⟨q0, q1, q2, q3⟩ := K.out b2)
  · obtain ⟨q4, q5, q6⟩ := q3.out
    refine bodyPost_ret (v := .agg #[.slice (some ⟨g, 0, none⟩) n cap]) (by simp [results, Tryz.results103, go_sem, World.cell?_setCell_same _ _ _ q1]) rfl ⟨_, rfl, ?_, .inl rfl, ?_⟩
    rotate_left
    · exact q6.setCell (by simp) _
    have hwl : woL ns y = ns := by
      rcases HI.out with ⟨_, h⟩ | ⟨k, h, _⟩
      · exact woL_none h
      · omega
    rw [hwl]
    · refine q5.kept fun k cs hk => ?_
      rw [Below.heap_setCell _ _ _ _ (by rintro rfl; rw [q4] at hk; simp at hk)]
      exact hk
  · obtain ⟨s, rfl⟩ : ∃ s : Nat, i = s := ⟨i.toNat, by omega⟩
    have hs : s < ns.length := by omega
    have del := fun {w : World} {g' cap' : Nat} (h : ListAt w (.slice (some ⟨g', 0, none⟩) n cap') ns) => delete_list (w := w) (g := g') (cap := cap') (ns := ns) (by rw [← hnA.out]; exact h) s hs
    rw [← hnA.out] at del
    have delA : Aside (∀ {w : World} {g' cap' : Nat}, ListAt w (.slice (some ⟨g', 0, none⟩) n cap') ns → Calls Tryz.prog 173 #[.slice (some ⟨g', 0, none⟩) n cap', .int .i64 s, .int .i64 ((s : Int) + 1)] w fun e w' => e = .returned (.slice (some ⟨g', 0, none⟩) (n - 1) cap') ∧ ListAt w' (.slice (some ⟨g', 0, none⟩) (n - 1) cap') (List.take s ns ++ List.drop (s + 1) ns) ∧ Upto (· = g') w w') := del
    clear del
    go_wp2_with (first
      | (go_at_call 174; have h5 := cl.out q3.out.2.1; with_reducible refine h5.mono ?_; clear h5; rintro e w3 ⟨g3, cap3, rfl, l3, b3, hg3, hl3⟩)
      | (go_at_call 173; have h6 := delA.out l3; with_reducible refine h6.mono ?_; clear h6; rintro e w5 ⟨rfl, l5, u5⟩; have b5 := b2.trans ((b3.trans (u5.below b3.size (fun k hk => by rw [hk]; exact hg3))).mono b2.size); obtain ⟨t0, t1, t2, t3⟩ := K.out b5))
    obtain ⟨t4, t5, t6⟩ := t3.out
    refine bodyPost_ret (v := .agg #[.slice (some ⟨g3, 0, none⟩) (n - 1) cap3]) (by simp [results, Tryz.results103, go_sem, World.cell?_setCell_same _ _ _ t1]) rfl ⟨_, rfl, ?_, .inr (fun g o q c he => by simp only [Value.slice.injEq, Option.some.injEq, Addr.mk.injEq, and_true] at he; have h8 := b2.size; omega), ?_⟩
    rotate_left
    · exact t6.setCell (by simp) _
    have hwl : woL ns y = List.take s ns ++ List.drop (s + 1) ns := by
      rcases HI.out with ⟨h, _⟩ | ⟨k, h, h1, h2⟩
      · omega
      · have : k = s := by omega
        rw [← this]; exact woL_some h1 h2
    rw [hwl]
    · refine l5.kept fun k cs hk => ?_
      rw [Below.heap_setCell _ _ _ _ (by rintro rfl; rw [t4] at hk; simp at hk)]
      exact hk

set_option maxHeartbeats 2000000 in
set_option maxRecDepth 1000000 in
theorem without_none {w : World} (y : Int) :
    Calls Tryz.prog 103 #[.agg #[.slice none 0 0], .int .u64 y] w fun e w' => ∃ L', e = .returned (.agg #[L']) ∧ ListAt w' L' [] ∧ FreshL w (.slice none 0 0) L' ∧ Below w.heap.size w w' := by
  have h : ListAt w (.slice none 0 0) [] := .inl ⟨rfl, rfl⟩
  obtain ⟨w1, hw1⟩ : ∃ w1, w1 = (w.alloc (.cells #[.slice none 0 0] 160)).alloc (.cells #[.slice none 0 0] 160) := ⟨_, rfl⟩
  have b1 : Below w.heap.size w w1 := by rw [hw1]; exact ((Below.refl _ w).alloc (Nat.le_refl _) _).alloc (by simp) _
  have hix := snap_index (h.below b1) y
  rw [hw1] at hix
  have lw1 : w1.heap.size = w.heap.size + 2 := by rw [hw1]; simp
  have r0 : w1.heap[w.heap.size]? = some (.cells #[.slice none 0 0] 160 (0, 0)) := by
    rw [hw1, Below.heap_alloc _ _ _ (by simp)]; exact (Go.MapKept.heap_alloc w _).1
  have r1 : w1.heap[w.heap.size + 1]? = some (.cells #[.slice none 0 0] 160 (0, 0)) := by
    have e := (Go.MapKept.heap_alloc (w.alloc (.cells #[.slice none 0 0] 160)) (.cells #[.slice none 0 0] 160)).1
    have hs : (w.alloc (.cells #[.slice none 0 0] 160)).heap.size = w.heap.size + 1 := by simp
    rw [hs, ← hw1] at e
    exact e
  have K : Aside (∀ {v : World}, Below w1.heap.size w1 v → v.cell? ⟨w.heap.size, 0, none⟩ = some (.slice none 0 0) ∧ v.cell? ⟨w.heap.size + 1, 0, none⟩ = some (.slice none 0 0) ∧ v.frozen? ⟨w.heap.size + 1, 0, none⟩ = false ∧ Aside (Below w.heap.size w v)) := by
    intro v hv
    have e0 := (hv.block w.heap.size (by omega)).trans r0
    have e1 := (hv.block (w.heap.size + 1) (by omega)).trans r1
    exact ⟨by simp [World.cell?, e0], by simp [World.cell?, e1], by simp [World.frozen?, e1], b1.trans (hv.mono b1.size)⟩
  clear h r0 r1 b1
  rw [hw1] at K lw1
  clear hw1
  go_enter Tryz.func103, Tryz.ntmps103
  go_wp2_with (go_at_call 169; with_reducible refine hix.mono ?_; rintro e w2 ⟨⟨i, rfl, hix2⟩, b2⟩; have hi2 := hix2.bound; have HI := aside_of hix2; clear hix2; obtain ⟨q0, q1, q2, q3⟩ := K.out b2)
  · refine bodyPost_ret (v := .agg #[.slice none 0 0]) (by simp [results, Tryz.results103, go_sem, World.cell?_setCell_same _ _ _ q1]) rfl ⟨_, rfl, .inl ⟨rfl, rfl⟩, .inl rfl, ?_⟩
    exact q3.out.setCell (by simp) _
  · exfalso
    simp only [List.length_nil] at hi2
    omega

/-- snap.Without, over a list. -/
theorem snap_without {w : World} {L : Value} {ns : List Int} (h : ListAt w L ns) (y : Int) (hl : ns.length ≤ 100000) :
    Calls Tryz.prog 103 #[.agg #[L], .int .u64 y] w fun e w' => ∃ L', e = .returned (.agg #[L']) ∧ ListAt w' L' (woL ns y) ∧ FreshL w L L' ∧ Below w.heap.size w w' := by
  have h0 := h
  rcases h with ⟨rfl, rfl⟩ | ⟨g, cap, cs, rfl, _⟩
  · exact without_none y
  · exact without_some h0 y hl

set_option maxHeartbeats 1000000 in
theorem unlist_calls {w : World} {b m : Nat} {L : Value} {es : List (Int × Pl)} {ns : List Int} (h : BagAt w b m L es) (hbm : b ≠ m) (hl : ListAt w L ns) (hn : ns.length ≤ 100000) (id : Int) :
    Calls Tryz.prog 39 #[.pointer (some ⟨b, 0, none⟩), .int .u64 id] w fun e w' => e = .returned (.int .i64 (if (aget id es).isSome then 0 else 9)) ∧ Listed w b m L es (if (aget id es).isSome then woL ns id else ns) w' := by
  have hk := known_calls h id
  have W1 : Aside (∀ {v : World}, Below w.heap.size w v → BagAt v b m L es ∧ ListAt v L ns) := fun hv => ⟨h.below hv h.lt.1 h.lt.2, hl.below hv⟩
  cases hs : (aget id es).isSome with
  | false =>
    rw [hs] at hk
    clear h hs
    go_enter Tryz.func39, Tryz.ntmps39
    go_wp2_with (go_at_call 97; with_reducible refine hk.mono ?_; rintro e w1 ⟨rfl, b1⟩)
    go_ret
    obtain ⟨k1, k2⟩ := W1.out b1
    exact ⟨rfl, L, .of_below b1, k1, k2, .inl rfl⟩
  | true =>
    rw [hs] at hk
    obtain ⟨a, n, c, rfl⟩ := hl.shape
    have hw : Aside (∀ {v : World}, ListAt v (.slice a n c) ns → Calls Tryz.prog 103 #[.agg #[.slice a n c], .int .u64 id] v fun e w' => ∃ L', e = .returned (.agg #[L']) ∧ ListAt w' L' (woL ns id) ∧ FreshL v (.slice a n c) L' ∧ Below v.heap.size v w') := fun hv => snap_without hv id hn
    clear h hs hl
    go_enter Tryz.func39, Tryz.ntmps39
    go_wp2_with (first
      | (go_at_call 97; with_reducible refine hk.mono ?_; rintro e w1 ⟨rfl, b1⟩; obtain ⟨k1, k2⟩ := W1.out b1; have c1 := k1.cell1)
      | (go_at_call 103; have h5 := hw.out k2; with_reducible refine h5.mono ?_; clear h5 c1; rintro e w2 ⟨L', rfl, l2, fr2, b2⟩; have k3 := k1.below b2 k1.lt.1 k1.lt.2; have c2 := k3.cell1; have f2 := k3.free1; obtain ⟨a', n', c', rfl⟩ := l2.shape))
    go_ret
    exact ⟨rfl, _, (Upto.of_below (S := (· = b)) (b1.trans (b2.mono b1.size))).setCell (p := ⟨b, 1, none⟩) (.inl rfl) _, k3.setList hbm, l2.setBag k3, fr2.mono b1.size⟩

end Go.Proofs.YtbdnlaepeladbaaGreatDoor
