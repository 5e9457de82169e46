/- What words, cells and a bag's Load hand back. Conditions: how the bag lies in memory. -/
import Derived.Test.YtacbhdoeadpncaaGreatDoorProg
import Derived.WalkKit
import Derived.ProofKit
import Derived.OpenShut
import Derived.LoopN
import Derived.KernelRfl
import Derived.WalkSmall
import Derived.Laws.LoneSync
import Derived.Test.YtacbhdoeadpncaaGreatDoorMo
import Derived.RegionTactic
import Derived.StillTailTactics
import Derived.ChangeAlike
import Derived.BigRegion
import Derived.BigQuiet
import Derived.Deep.QuietTactic
import Derived.Deep.RegionWith
import Derived.Deep.RegionLaw
namespace Go.Proofs.YtacbhdoeadpncaaGreatDoor
open Go.ChangeShapes Go.WideShapes Go.ChangeAt Go.RowKit

theorem and3 {n : Nat} (h : n < 18446744073709551616) : bits BinOp.and IntKind.u64 (n : Int) 3 = ((n % 4 : Nat) : Int) := by
  have := bits_and_u64_nat n 3 (by omega) (by omega)
  rw [show (3 : Nat) = 2 ^ 2 - 1 from rfl, Nat.and_two_pow_sub_one_eq_mod] at this
  exact this

theorem or4 {x s : Nat} (hx : x < 18446744073709551616) (h4 : x % 4 = 0) (hs : s < 4) : bits BinOp.or IntKind.u64 (x : Int) (s : Int) = ((x + s : Nat) : Int) := by
  have := bits_or_u64_nat x s (by omega) (by omega)
  rw [this]
  congr 1
  have h : x = 2 ^ 2 * (x / 4) := by omega
  rw [h, ← Nat.two_pow_add_eq_or_of_lt (by omega)]

theorem state_calls (n : Nat) (h : n < 18446744073709551616) (w : World) : Calls Tryz.prog 15 #[.int .u64 n] w fun e w' => e = .returned (.int .i64 ((n % 4 : Nat) : Int)) ∧ w' = w := by
  have h3 := and3 h
  have hw : wrap64 ((n % 4 : Nat) : Int) = ((n % 4 : Nat) : Int) := by unfold wrap64; omega
  go_enter Tryz.func15, Tryz.ntmps15
  go_wp2
  go_ret
  exact ⟨by first | rfl | simp [h3] | simp [h3, hw], rfl⟩

theorem version_calls (n : Nat) (w : World) : Calls Tryz.prog 41 #[.int .u64 n] w fun e w' => e = .returned (.int .u64 ((n / 4 : Nat) : Int)) ∧ w' = w := by
  go_enter Tryz.func41, Tryz.ntmps41
  go_wp2
  go_ret
  exact ⟨rfl, rfl⟩

/-- A word of a state and a version. -/
def ofN (s v : Nat) : Nat := v * 4 % 18446744073709551616 + s

theorem of_calls (s v : Nat) (hs : s < 4) (w : World) : Calls Tryz.prog 19 #[.int .i64 s, .int .u64 v] w fun e w' => e = .returned (.int .u64 (ofN s v : Nat)) ∧ w' = w := by
  have h1 : IntKind.u64.wrap ((v : Int) * 4) = ((v * 4 % 18446744073709551616 : Nat) : Int) := by simp [IntKind.wrap, IntKind.bits, IntKind.signed]
  have h2 : IntKind.u64.wrap (s : Int) = (s : Int) := by simp [IntKind.wrap, IntKind.bits, IntKind.signed]; omega
  have h3 := and3 (n := s) (by omega)
  rw [Nat.mod_eq_of_lt hs] at h3
  have h4 := or4 (x := v * 4 % 18446744073709551616) (s := s) (Nat.mod_lt _ (by decide)) (by omega) hs
  have h5 : ((v * 4 % 18446744073709551616 : Nat) : Int) = (v : Int) * 4 % 18446744073709551616 := by omega
  rw [h5] at h4
  clear hs h5
  unfold ofN
  go_enter Tryz.func19, Tryz.ntmps19
  go_wp2
  go_ret
  exact ⟨congrArg (fun x => Ending.returned (Value.int .u64 x)) (by omega), rfl⟩

def mayB (f t : Int) : Bool := (f == 0 && (t == 1 || t == 2)) || (f == 1 && (t == 0 || t == 3)) || (f == 2 && (t == 0 || t == 1 || t == 3))

theorem may_calls (f t : Int) (w : World) : Calls Tryz.prog 14 #[.int .i64 f, .int .i64 t] w fun e w' => e = .returned (.bool (mayB f t)) ∧ w' = w := by
  unfold mayB
  by_cases f0 : f = 0
  · subst f0
    go_enter Tryz.func14, Tryz.ntmps14
    go_wp2
    all_goals go_ret
    all_goals exact ⟨by simp [*], rfl⟩
  · by_cases f1 : f = 1
    · subst f1
      go_enter Tryz.func14, Tryz.ntmps14
      go_wp2
      all_goals go_ret
      all_goals exact ⟨by simp [*], rfl⟩
    · by_cases f2 : f = 2
      · subst f2
        go_enter Tryz.func14, Tryz.ntmps14
        go_wp2
        all_goals go_ret
        all_goals exact ⟨by simp [*], rfl⟩
      · go_enter Tryz.func14, Tryz.ntmps14
        go_wp2
        all_goals go_ret
        all_goals exact ⟨by simp [*], rfl⟩
end Go.Proofs.YtacbhdoeadpncaaGreatDoor

namespace Go.Proofs.YtacbhdoeadpncaaGreatDoor
open Go.ChangeShapes Go.WideShapes Go.ChangeAt Go.RowKit

/-- The word that goes on. -/
def toN (n : Nat) (st : Int) : Nat := ofN st.toNat (n / 4 + 1)

theorem ofN_lt {s v : Nat} (hs : s < 4) : ofN s v < 18446744073709551616 := by unfold ofN; omega
theorem may_range {f t : Int} (h : mayB f t = true) : 0 ≤ t ∧ t < 4 := by
  unfold mayB at h
  simp only [Bool.or_eq_true, Bool.and_eq_true, beq_iff_eq] at h
  omega

theorem to_no (n : Nat) (hn : n < 18446744073709551616) (st : Int) (h : mayB ((n % 4 : Nat) : Int) st = false) (w : World) :
    Calls Tryz.prog 32 #[.int .u64 n, .int .i64 st] w fun e w' => e = .returned (.tuple #[.int .u64 n, .bool false]) ∧ w' = w := by
  have c1 := fun w => state_calls n hn w
  have c2 := fun w => may_calls ((n % 4 : Nat) : Int) st w
  rw [h] at c2
  clear h hn
  generalize ((n % 4 : Nat) : Int) = f at c1 c2
  go_enter Tryz.func32, Tryz.ntmps32
  go_wp2_with (first | (go_at_call 15; with_reducible refine (c1 _).mono ?_; rintro e w' ⟨rfl, rfl⟩) | (go_at_call 14; with_reducible refine (c2 _).mono ?_; rintro e w' ⟨rfl, rfl⟩))
  go_ret2
  exact ⟨rfl, rfl⟩

theorem to_yes (n : Nat) (hn : n < 18446744073709551616) (s : Nat) (hs : s < 4) (h : mayB ((n % 4 : Nat) : Int) s = true) (w : World) :
    Calls Tryz.prog 32 #[.int .u64 n, .int .i64 s] w fun e w' => e = .returned (.tuple #[.int .u64 (ofN s (n / 4 + 1) : Nat), .bool true]) ∧ w' = w := by
  have c1 := fun w => state_calls n hn w
  have c2 := fun w => may_calls ((n % 4 : Nat) : Int) s w
  have c3 := fun w => version_calls n w
  have c4 := fun w => of_calls s (n / 4 + 1) hs w
  rw [h] at c2
  have hw : IntKind.u64.wrap (((n / 4 : Nat) : Int) + 1) = ((n / 4 + 1 : Nat) : Int) := by simp [IntKind.wrap, IntKind.bits, IntKind.signed]; omega
  clear h hn hs
  generalize ((n % 4 : Nat) : Int) = f at c1 c2
  generalize ((n / 4 + 1 : Nat) : Int) = v1 at hw c4
  generalize ((n / 4 : Nat) : Int) = v at hw c3
  generalize ((ofN s (n / 4 + 1) : Nat) : Int) = r at c4 ⊢
  go_enter Tryz.func32, Tryz.ntmps32
  go_wp2_with (first | (go_at_call 15; with_reducible refine (c1 _).mono ?_; rintro e w' ⟨rfl, rfl⟩) | (go_at_call 14; with_reducible refine (c2 _).mono ?_; rintro e w' ⟨rfl, rfl⟩) | (go_at_call 41; with_reducible refine (c3 _).mono ?_; rintro e w' ⟨rfl, rfl⟩) | (go_at_call 19; with_reducible refine (c4 _).mono ?_; rintro e w' ⟨rfl, rfl⟩))
  go_ret2
  exact ⟨rfl, rfl⟩

/-! ### cells -/

theorem st_calls (a : Addr) (y : Int) (u : Value) (w : World) (hc : w.cell? a = some u) (hz : w.frozen? a = false) :
    Calls Tryz.prog 27 #[.pointer (some a), .int .u64 y] w fun e w' => e = .returned (.tuple #[]) ∧ w' = w.setCell a (.int .u64 y) := by
  obtain ⟨b, off, spot⟩ := a
  have hspot : spot = none := World.cell?_spot hc
  subst hspot
  have hs := fun a w hc hz => run_call_store (P := Tryz.prog) Tryz.func38 (by kernel_rfl) (by kernel_rfl) (by kernel_rfl) (by kernel_rfl) (a := a) (k := .u64) (y := y) (u := u) (w := w) hc hz
  have h1 := hs ⟨b, off, none⟩ w hc hz
  clear hs
  go_enter Tryz.func27, Tryz.ntmps27
  go_wp2
  go_end0
  exact ⟨rfl, rfl⟩

theorem ld_calls (b off : Nat) (x : Int) (w : World) (hc : w.cell? ⟨b, off, none⟩ = some (.int .u64 x)) :
    Calls Tryz.prog 31 #[.pointer (some ⟨b, off, none⟩)] w fun e w' => e = .returned (.int .u64 x) ∧ w' = w := by
  have h1 := run_call_load (P := Tryz.prog) Tryz.func40 (by kernel_rfl) (by kernel_rfl) (by kernel_rfl) .u64 (by kernel_rfl) hc
  go_enter Tryz.func31, Tryz.ntmps31
  go_wp2
  go_ret
  exact ⟨rfl, rfl⟩

theorem cas_hit (b off : Nat) (x y : Int) (w : World) (hc : w.cell? ⟨b, off, none⟩ = some (.int .u64 x)) (hz : w.frozen? ⟨b, off, none⟩ = false) :
    Calls Tryz.prog 33 #[.pointer (some ⟨b, off, none⟩), .int .u64 x, .int .u64 y] w fun e w' => e = .returned (.bool true) ∧ w' = w.setCell ⟨b, off, none⟩ (.int .u64 y) := by
  have h1 := run_call_cas_hit (P := Tryz.prog) Tryz.func42 (by kernel_rfl) (by kernel_rfl) (by kernel_rfl) .u64 (by kernel_rfl) (y := y) hc hz
  go_enter Tryz.func33, Tryz.ntmps33
  go_wp2
  go_ret
  exact ⟨rfl, rfl⟩

theorem cas_miss (b off : Nat) (x o y : Int) (w : World) (hc : w.cell? ⟨b, off, none⟩ = some (.int .u64 x)) (hz : w.frozen? ⟨b, off, none⟩ = false) (hne : ¬ x = o) :
    Calls Tryz.prog 33 #[.pointer (some ⟨b, off, none⟩), .int .u64 o, .int .u64 y] w fun e w' => e = .returned (.bool false) ∧ w' = w := by
  have h1 := run_call_cas_miss (P := Tryz.prog) Tryz.func42 (by kernel_rfl) (by kernel_rfl) (by kernel_rfl) .u64 (by kernel_rfl) (y := y) hc hz hne
  go_enter Tryz.func33, Tryz.ntmps33
  go_wp2
  go_ret
  exact ⟨rfl, rfl⟩

theorem cell_load (b : Nat) (x : Int) (w : World) (hc : w.cell? ⟨b, 0, none⟩ = some (.int .u64 x)) :
    Calls Tryz.prog 24 #[.pointer (some ⟨b, 0, none⟩)] w fun e w' => e = .returned (.int .u64 x) ∧ w' = w := by
  have c := ld_calls b 0 x w hc
  go_enter Tryz.func24, Tryz.ntmps24
  go_wp2_with (go_at_call 31; with_reducible refine c.mono ?_; rintro e w' ⟨rfl, rfl⟩)
  go_ret
  exact ⟨rfl, rfl⟩

theorem cell_load_nil (w : World) : Calls Tryz.prog 24 #[.pointer none] w fun e w' => e = .returned (.int .u64 0) ∧ w' = w := by
  go_enter Tryz.func24, Tryz.ntmps24
  go_wp2
  go_ret
  exact ⟨rfl, rfl⟩

end Go.Proofs.YtacbhdoeadpncaaGreatDoor

namespace Go.Proofs.YtacbhdoeadpncaaGreatDoor
open Go.ChangeShapes Go.WideShapes Go.ChangeAt Go.RowKit

theorem alloc_set (w : World) (u v : Value) (t : TypeId) : (w.alloc (.cells #[u] t)).setCell ⟨w.heap.size, 0, none⟩ v = w.alloc (.cells #[v] t) := by
  unfold World.setCell World.alloc
  simp only [World.mk.injEq, and_true]
  apply Array.ext_getElem?
  intro k
  simp only [Array.getElem?_modify, Array.getElem?_push]
  by_cases h : w.heap.size = k
  · subst h; simp
  · have h' : ¬ k = w.heap.size := fun e => h e.symm
    simp [h, h']

theorem cell_made (x : Int) (w : World) : Calls Tryz.prog 18 #[.int .u64 x] w fun e w' => e = .returned (.pointer (some ⟨w.heap.size, 0, none⟩)) ∧ w' = w.alloc (.cells #[.int .u64 x] 66) := by
  have c := st_calls ⟨w.heap.size, 0, none⟩ x (.int .u64 0) (w.alloc (.cells #[.int .u64 0] 66)) (by simp) (by simp)
  rw [alloc_set] at c
  go_enter Tryz.func18, Tryz.ntmps18
  go_wp2_with (go_at_call 27; with_reducible refine c.mono ?_; rintro e w' ⟨rfl, rfl⟩)
  go_ret
  exact ⟨rfl, rfl⟩

theorem swap_no (b n x : Nat) (hn : n < 18446744073709551616) (st : Int) (h : mayB ((n % 4 : Nat) : Int) st = false) (w : World) (hc : w.cell? ⟨b, 0, none⟩ = some (.int .u64 x)) :
    Calls Tryz.prog 25 #[.pointer (some ⟨b, 0, none⟩), .int .u64 n, .int .i64 st] w fun e w' => e = .returned (.tuple #[.int .u64 x, .bool false]) ∧ w' = w := by
  have c1 := to_no n hn st h w
  have c2 := cell_load b x w hc
  clear h hn hc
  go_enter Tryz.func25, Tryz.ntmps25
  go_wp2_with (first | (go_at_call 32; with_reducible refine c1.mono ?_; rintro e w' ⟨rfl, rfl⟩) | (go_at_call 24; with_reducible refine c2.mono ?_; rintro e w' ⟨rfl, rfl⟩))
  go_ret2
  exact ⟨rfl, rfl⟩

theorem swap_hit (b n : Nat) (hn : n < 18446744073709551616) (s : Nat) (hs : s < 4) (h : mayB ((n % 4 : Nat) : Int) s = true) (w : World) (hc : w.cell? ⟨b, 0, none⟩ = some (.int .u64 n)) (hz : w.frozen? ⟨b, 0, none⟩ = false) :
    Calls Tryz.prog 25 #[.pointer (some ⟨b, 0, none⟩), .int .u64 n, .int .i64 s] w fun e w' => e = .returned (.tuple #[.int .u64 (ofN s (n / 4 + 1) : Nat), .bool true]) ∧ w' = w.setCell ⟨b, 0, none⟩ (.int .u64 (ofN s (n / 4 + 1) : Nat)) := by
  have c1 := to_yes n hn s hs h w
  generalize ((ofN s (n / 4 + 1) : Nat) : Int) = r at c1 ⊢
  have c2 := cas_hit b 0 n r w hc hz
  clear h hn hc hz hs
  go_enter Tryz.func25, Tryz.ntmps25
  go_wp2_with (first | (go_at_call 32; with_reducible refine c1.mono ?_; rintro e w' ⟨rfl, rfl⟩) | (go_at_call 33; with_reducible refine c2.mono ?_; rintro e w' ⟨rfl, rfl⟩))
  go_ret2
  exact ⟨rfl, rfl⟩

theorem swap_miss (b n x : Nat) (hn : n < 18446744073709551616) (s : Nat) (hs : s < 4) (h : mayB ((n % 4 : Nat) : Int) s = true) (w : World) (hc : w.cell? ⟨b, 0, none⟩ = some (.int .u64 x)) (hz : w.frozen? ⟨b, 0, none⟩ = false) (hne : x ≠ n) :
    Calls Tryz.prog 25 #[.pointer (some ⟨b, 0, none⟩), .int .u64 n, .int .i64 s] w fun e w' => e = .returned (.tuple #[.int .u64 x, .bool false]) ∧ w' = w := by
  have c1 := to_yes n hn s hs h w
  generalize ((ofN s (n / 4 + 1) : Nat) : Int) = r at c1
  have c2 := cas_miss b 0 x n r w hc hz (by omega)
  have c3 := cell_load b x w hc
  clear h hn hc hz hs hne
  go_enter Tryz.func25, Tryz.ntmps25
  go_wp2_with (first | (go_at_call 32; with_reducible refine c1.mono ?_; rintro e w' ⟨rfl, rfl⟩) | (go_at_call 33; with_reducible refine c2.mono ?_; rintro e w' ⟨rfl, rfl⟩) | (go_at_call 24; with_reducible refine c3.mono ?_; rintro e w' ⟨rfl, rfl⟩))
  go_ret2
  exact ⟨rfl, rfl⟩

/-- What a cell's swap does: the word that it then holds, and whether it went on. -/
def swapN (x n : Nat) (st : Int) : Option Nat := if mayB ((n % 4 : Nat) : Int) st = true ∧ x = n then some (toN n st) else none

theorem cell_swap (b n x : Nat) (hn : n < 18446744073709551616) (st : Int) (w : World) (hc : w.cell? ⟨b, 0, none⟩ = some (.int .u64 x)) (hz : w.frozen? ⟨b, 0, none⟩ = false) :
    Calls Tryz.prog 25 #[.pointer (some ⟨b, 0, none⟩), .int .u64 n, .int .i64 st] w fun e w' =>
      match swapN x n st with
      | some r => e = .returned (.tuple #[.int .u64 r, .bool true]) ∧ w' = w.setCell ⟨b, 0, none⟩ (.int .u64 r)
      | none => e = .returned (.tuple #[.int .u64 x, .bool false]) ∧ w' = w := by
  unfold swapN
  cases h : mayB ((n % 4 : Nat) : Int) st with
  | false =>
    rw [if_neg (by simp)]
    exact swap_no b n x hn st h w hc
  | true =>
    obtain ⟨h0, h4⟩ := may_range h
    obtain ⟨s, rfl⟩ : ∃ s : Nat, st = s := ⟨st.toNat, by omega⟩
    have hs : s < 4 := by omega
    by_cases e : x = n
    · subst e
      rw [if_pos ⟨rfl, rfl⟩]
      exact swap_hit b x hn s hs h w hc hz
    · rw [if_neg (fun g => e g.2)]
      exact swap_miss b n x hn s hs h w hc hz e

theorem swap_nil (n : Nat) (hn : n < 18446744073709551616) (st : Int) (w : World) :
    Calls Tryz.prog 25 #[.pointer none, .int .u64 n, .int .i64 st] w fun e w' => e = .returned (.tuple #[.int .u64 0, .bool false]) ∧ w' = w := by
  have c3 := cell_load_nil w
  cases h : mayB ((n % 4 : Nat) : Int) st with
  | false =>
    have c1 := to_no n hn st h w
    clear h hn
    go_enter Tryz.func25, Tryz.ntmps25
    go_wp2_with (first | (go_at_call 32; with_reducible refine c1.mono ?_; rintro e w' ⟨rfl, rfl⟩) | (go_at_call 24; with_reducible refine c3.mono ?_; rintro e w' ⟨rfl, rfl⟩))
    go_ret2
    exact ⟨rfl, rfl⟩
  | true =>
    obtain ⟨h0, h4⟩ := may_range h
    obtain ⟨s, rfl⟩ : ∃ s : Nat, st = s := ⟨st.toNat, by omega⟩
    have c1 := to_yes n hn s (by omega) h w
    generalize ((ofN s (n / 4 + 1) : Nat) : Int) = r at c1
    clear h hn
    go_enter Tryz.func25, Tryz.ntmps25
    go_wp2_with (first | (go_at_call 32; with_reducible refine c1.mono ?_; rintro e w' ⟨rfl, rfl⟩) | (go_at_call 24; with_reducible refine c3.mono ?_; rintro e w' ⟨rfl, rfl⟩))
    go_ret2
    exact ⟨rfl, rfl⟩

end Go.Proofs.YtacbhdoeadpncaaGreatDoor

namespace Go.Proofs.YtacbhdoeadpncaaGreatDoor
open Go.ChangeShapes Go.WideShapes Go.ChangeAt Go.RowKit Go.Eng

structure Pl where
  c : Nat
  born : Nat
  since : Nat
  proved : Nat

def plV (p : Pl) : Value := .agg #[.pointer (some ⟨p.c, 0, none⟩), .int .u64 p.born, .int .u64 p.since, .int .u64 p.proved]
def plZ : Value := .agg #[.pointer none, .int .u64 0, .int .u64 0, .int .u64 0]
def got (o : Option Pl) : Value := (o.map plV).getD plZ

theorem got_shape (o : Option Pl) : ∃ p x y z, got o = .agg #[.pointer p, .int .u64 x, .int .u64 y, .int .u64 z] := by
  cases o with
  | none => exact ⟨_, _, _, _, rfl⟩
  | some p => exact ⟨_, _, _, _, rfl⟩

/-- A bag: its two cells; its map. -/
def BagAt (w : World) (b m : Nat) (L : Value) (es : List (Int × Pl)) : Prop :=
  w.heap[b]? = some (.cells #[.map (some m), L] 48 (0, 0)) ∧ MapIs .u64 plV w m es

theorem BagAt.below {w w' : World} {b m B : Nat} {L : Value} {es : List (Int × Pl)} (h : BagAt w b m L es) (hb : Below B w w') (h1 : b < B) (h2 : m < B) : BagAt w' b m L es :=
  ⟨(hb.block b h1).trans h.1, h.2.below hb h2⟩
theorem BagAt.lt {w : World} {b m : Nat} {L : Value} {es : List (Int × Pl)} (h : BagAt w b m L es) : b < w.heap.size ∧ m < w.heap.size := ⟨(Array.getElem?_eq_some_iff.1 h.1).1, h.2.lt⟩
theorem BagAt.cell {w : World} {b m : Nat} {L : Value} {es : List (Int × Pl)} (h : BagAt w b m L es) : w.cell? ⟨b, 0, none⟩ = some (.map (some m)) := by simp [World.cell?, h.1]

theorem lookup_bag {w : World} {m : Nat} {es : List (Int × Pl)} (h : MapIs .u64 plV w m es) (id : Int) :
    (Instr.lookup 46 (.map (some m)) (.int .u64 id) true).run Tryz.prog w = .ok (.tuple #[got (aget id es), .bool (aget id es).isSome]) w := by
  have := run_lookup_ents (P := Tryz.prog) Tryz.underlying46 Tryz.underlying27 Tryz.zeroValue51 h id true
  exact this

theorem get_calls {w : World} {b m : Nat} {L : Value} {es : List (Int × Pl)} (h : BagAt w b m L es) (id : Int) :
    Calls Tryz.prog 17 #[.pointer (some ⟨b, 0, none⟩), .int .u64 id] w fun e w' => e = .returned (.tuple #[got (aget id es), .bool (aget id es).isSome]) ∧ Below w.heap.size w w' := by
  obtain ⟨w1, hw1⟩ : ∃ w1, w1 = w.alloc (.cells #[.pointer none, .int .u64 0, .int .u64 0, .int .u64 0] 51) := ⟨_, rfl⟩
  have b1 : Below w.heap.size w w1 := by rw [hw1]; exact (Below.refl _ w).alloc (Nat.le_refl _) _
  have h1 := h.below b1 h.lt.1 h.lt.2
  have hl := lookup_bag h1.2 id
  have hc := h1.cell
  obtain ⟨p, x, y, z, hg⟩ := got_shape (aget id es)
  rw [hg] at hl ⊢
  rw [hw1] at hl hc
  generalize (aget id es).isSome = ok at hl ⊢
  clear h h1 hg b1 hw1
  go_enter Tryz.func17, Tryz.ntmps17
  go_wp2
  refine bodyPost_ret (v := .tuple #[.agg #[.pointer p, .int .u64 x, .int .u64 y, .int .u64 z], .bool ok]) (by simp [results, Tryz.results17, go_sem]) rfl ⟨rfl, ?_⟩
  exact ((Below.refl _ _).alloc (Nat.le_refl _) _).alloc (by simp) _

/-- A word lies in cell c. -/
def WordAt (w : World) (c n : Nat) : Prop := w.heap[c]? = some (.cells #[.int .u64 n] 66 (0, 0))

theorem WordAt.cell {w : World} {c n : Nat} (h : WordAt w c n) : w.cell? ⟨c, 0, none⟩ = some (.int .u64 n) := by unfold WordAt at h; simp [World.cell?, h]
theorem WordAt.free {w : World} {c n : Nat} (h : WordAt w c n) : w.frozen? ⟨c, 0, none⟩ = false := by unfold WordAt at h; simp [World.frozen?, h]
theorem WordAt.lt {w : World} {c n : Nat} (h : WordAt w c n) : c < w.heap.size := (Array.getElem?_eq_some_iff.1 h).1
theorem WordAt.below {w w' : World} {c n B : Nat} (h : WordAt w c n) (hb : Below B w w') (h1 : c < B) : WordAt w' c n := (hb.block c h1).trans h

theorem load_none {w : World} {b m : Nat} {L : Value} {es : List (Int × Pl)} (h : BagAt w b m L es) (id : Int) (hid : aget id es = none) :
    Calls Tryz.prog 12 #[.pointer (some ⟨b, 0, none⟩), .int .u64 id] w fun e w' => e = .returned (.tuple #[.int .u64 0, .bool false]) ∧ Below w.heap.size w w' := by
  have hg := get_calls h id
  rw [hid] at hg
  change Calls Tryz.prog 17 _ w fun e w' => e = .returned (.tuple #[.agg #[.pointer none, .int .u64 0, .int .u64 0, .int .u64 0], .bool false]) ∧ Below w.heap.size w w' at hg
  clear h hid
  go_enter Tryz.func12, Tryz.ntmps12
  go_wp2_with (first | (go_at_call 17; with_reducible refine hg.mono ?_; rintro e w1 ⟨rfl, b1⟩) | (go_at_call 24; with_reducible refine (cell_load_nil _).mono ?_; rintro e w2 ⟨rfl, rfl⟩))
  go_ret2
  exact ⟨rfl, b1.alloc b1.size _⟩

theorem load_some {w : World} {b m : Nat} {L : Value} {es : List (Int × Pl)} (h : BagAt w b m L es) (id : Int) {p : Pl} {n : Nat} (hid : aget id es = some p) (hn : WordAt w p.c n) :
    Calls Tryz.prog 12 #[.pointer (some ⟨b, 0, none⟩), .int .u64 id] w fun e w' => e = .returned (.tuple #[.int .u64 n, .bool true]) ∧ Below w.heap.size w w' := by
  have hg := get_calls h id
  rw [hid] at hg
  change Calls Tryz.prog 17 _ w fun e w' => e = .returned (.tuple #[.agg #[.pointer (some ⟨p.c, 0, none⟩), .int .u64 p.born, .int .u64 p.since, .int .u64 p.proved], .bool true]) ∧ Below w.heap.size w w' at hg
  clear h hid
  go_enter Tryz.func12, Tryz.ntmps12
  go_wp2_with (first | (go_at_call 17; with_reducible refine hg.mono ?_; rintro e w1 ⟨rfl, b1⟩) | (go_at_call 24; have hc := cell_load p.c n _ (((hn.below b1 hn.lt).below ((Below.refl _ w1).alloc (Nat.le_refl _) (.cells #[.pointer (some ⟨p.c, 0, none⟩), .int .u64 p.born, .int .u64 p.since, .int .u64 p.proved] 51)) (hn.below b1 hn.lt).lt).cell); with_reducible refine hc.mono ?_; clear hc; rintro e w2 ⟨rfl, rfl⟩))
  go_ret2
  exact ⟨rfl, b1.alloc b1.size _⟩

end Go.Proofs.YtacbhdoeadpncaaGreatDoor

namespace Go.Proofs.YtacbhdoeadpncaaGreatDoor
open Go.ChangeShapes Go.WideShapes Go.ChangeAt Go.RowKit Go.Eng

end Go.Proofs.YtacbhdoeadpncaaGreatDoor
