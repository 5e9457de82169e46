/- The law's walk, at whatever acts and id. Conditions: how the argument lies in memory; that the example is found true. -/
import Derived.Test.YtkmenkanochelaaGreatDoorBgB
import Derived.Test.YtkmenkanochelaaGreatDoorMo
import Derived.Deep.LoopGhost
namespace Go.Proofs.YtkmenkanochelaaGreatDoor
open Go.ChangeShapes Go.WideShapes Go.ChangeAt Go.RowKit Go.Eng Go.Deep

theorem enter0 {W v : World} {B b m : Nat} {L : Value} (h : BagAt v b m L []) (hbm : b ≠ m) (id : Int) (hi : (id == 0) = false) (hl : Below B W v) (hb : B ≤ b) (hm : B ≤ m) :
    Calls Tryz.prog 6 #[.pointer (some ⟨b, 0, none⟩), .int .u64 id, .int .i64 0, .int .u64 0] v fun e w' => e = .returned (.int .i64 0) ∧ ∃ c, In W B b m c L id 0 0 w' := by
  have := enter_new h hbm id rfl hi 0 (by omega) 0
  refine Calls.mono this ?_
  rintro e w' ⟨rfl, c, k1, k2, k3, hu, hw, hbag⟩
  have hB : B ≤ v.heap.size := Nat.le_trans hb (Nat.le_of_lt h.lt.1)
  exact ⟨rfl, c, hbag, hw, hl.trans (hu.below hB (fun k hk => by rw [hk]; exact hm)), hb, hm, Nat.le_trans hB k1, hbm, fun e => k3 e.symm, fun e => k2 e.symm⟩

/-- In a round: the bag, and the act that is looked at, in a block of its own. -/
structure Rd (W : World) (B b m c : Nat) (L : Value) (id : Int) (x sn : Nat) (Z : Nat) (a0 a1 a2 a3 a4 : Int) (v : World) : Prop where
  inn : In W B b m c L id x sn v
  row : v.heap[Z]? = some (.cells #[.int .u8 a0, .int .u64 a1, .int .u64 a2, .int .u64 a3, .int .i64 a4] 30 (0, 0))
  zc : Z ≠ c
  zm : Z ≠ m

variable {W v : World} {B b m c : Nat} {L : Value} {id : Int} {x sn Z : Nat} {a0 a1 a2 a3 a4 : Int}

theorem Rd.q0 (h : Rd W B b m c L id x sn Z a0 a1 a2 a3 a4 v) : v.cell? ⟨Z, 0, none⟩ = some (.int .u8 a0) := by simp [World.cell?, h.row]
theorem Rd.q2 (h : Rd W B b m c L id x sn Z a0 a1 a2 a3 a4 v) : v.cell? ⟨Z, 2, none⟩ = some (.int .u64 a2) := by simp [World.cell?, h.row]
theorem Rd.q3 (h : Rd W B b m c L id x sn Z a0 a1 a2 a3 a4 v) : v.cell? ⟨Z, 3, none⟩ = some (.int .u64 a3) := by simp [World.cell?, h.row]
theorem Rd.q4 (h : Rd W B b m c L id x sn Z a0 a1 a2 a3 a4 v) : v.cell? ⟨Z, 4, none⟩ = some (.int .i64 a4) := by simp [World.cell?, h.row]
theorem Rd.lt (h : Rd W B b m c L id x sn Z a0 a1 a2 a3 a4 v) : Z < v.heap.size := (Array.getElem?_eq_some_iff.1 h.row).1

theorem Rd.start (h : In W B b m c L id x sn v) : Rd W B b m c L id x sn v.heap.size a0 a1 a2 a3 a4 (v.alloc (.cells #[.int .u8 a0, .int .u64 a1, .int .u64 a2, .int .u64 a3, .int .i64 a4] 30)) :=
  ⟨h.grow ((Below.refl _ v).alloc (Nat.le_refl _) _), (Go.MapKept.heap_alloc v _).1, by have := h.word.lt; omega, by have := h.bag.lt.2; omega⟩

theorem Rd.grow {v' : World} (h : Rd W B b m c L id x sn Z a0 a1 a2 a3 a4 v) (hB : Below v.heap.size v v') : Rd W B b m c L id x sn Z a0 a1 a2 a3 a4 v' :=
  ⟨h.inn.grow hB, (hB.block Z h.lt).trans h.row, h.zc, h.zm⟩

theorem rd_load (h : Rd W B b m c L id x sn Z a0 a1 a2 a3 a4 v) :
    Calls Tryz.prog 7 #[.pointer (some ⟨b, 0, none⟩), .int .u64 id] v fun e w' => e = .returned (.tuple #[.int .u64 x, .bool true]) ∧ Rd W B b m c L id x sn Z a0 a1 a2 a3 a4 w' :=
  (load_some h.inn.bag id (aget_one _) h.inn.word).mono fun _ _ ⟨he, hb⟩ => ⟨he, h.grow hb⟩

theorem rd_swap_no (h : Rd W B b m c L id x sn Z a0 a1 a2 a3 a4 v) {n : Nat} (hn : n < 18446744073709551616) {st : Int} (now : Nat) (hN : swapN x n st = none) :
    Calls Tryz.prog 8 #[.pointer (some ⟨b, 0, none⟩), .int .u64 id, .int .u64 n, .int .i64 st, .int .u64 now] v fun e w' => e = .returned (.tuple #[.int .u64 x, .bool false]) ∧ Rd W B b m c L id x sn Z a0 a1 a2 a3 a4 w' :=
  (bag_swap_no h.inn.bag id (aget_one _) h.inn.word n hn st now hN).mono fun _ _ ⟨he, hb⟩ => ⟨he, h.grow hb⟩

theorem rd_swap_on (h : Rd W B b m c L id x sn Z a0 a1 a2 a3 a4 v) {n r : Nat} (hn : n < 18446744073709551616) {st : Int} (now : Nat) (hN : swapN x n st = some r) (h0 : (st == 0) = false) :
    Calls Tryz.prog 8 #[.pointer (some ⟨b, 0, none⟩), .int .u64 id, .int .u64 n, .int .i64 st, .int .u64 now] v fun e w' => e = .returned (.tuple #[.int .u64 r, .bool true]) ∧ Rd W B b m c L id r sn Z a0 a1 a2 a3 a4 w' :=
  (bag_swap_on h.inn.bag id (aget_one _) h.inn.word n hn st now hN h0).mono fun _ w' ⟨he, hu, hw⟩ =>
    have g := h.inn
    ⟨he, ⟨g.bag.upto hu g.bc g.mc, hw, g.low.trans (hu.below (Nat.le_of_lt (Nat.lt_of_le_of_lt g.hb g.bag.lt.1)) (fun k hk => by rw [hk]; exact g.hc)), g.hb, g.hm, g.hc, g.bm, g.bc, g.mc⟩, (hu.block Z h.lt h.zc).trans h.row, h.zc, h.zm⟩

theorem rd_swap_free (h : Rd W B b m c L id x sn Z a0 a1 a2 a3 a4 v) {n r : Nat} (hn : n < 18446744073709551616) (now : Nat) (hN : swapN x n 0 = some r) :
    Calls Tryz.prog 8 #[.pointer (some ⟨b, 0, none⟩), .int .u64 id, .int .u64 n, .int .i64 0, .int .u64 now] v fun e w' => e = .returned (.tuple #[.int .u64 r, .bool true]) ∧ Rd W B b m c L id r now Z a0 a1 a2 a3 a4 w' :=
  (bag_swap_free h.inn.bag id (aget_one _) h.inn.word h.inn.bc h.inn.mc h.inn.bm n hn now hN).mono fun _ w' ⟨he, hu, hw, hb⟩ => by
    have g := h.inn
    rw [aput_one] at hb
    exact ⟨he, ⟨hb, hw, g.low.trans (hu.below (Nat.le_of_lt (Nat.lt_of_le_of_lt g.hb g.bag.lt.1)) (fun k hk => by rcases hk with rfl | rfl; exact g.hc; exact g.hm)), g.hb, g.hm, g.hc, g.bm, g.bc, g.mc⟩, (hu.block Z h.lt (by rintro (e | e); exact h.zc e; exact h.zm e)).trans h.row, h.zc, h.zm⟩

theorem rd_entry (h : Rd W B b m c L id x sn Z a0 a1 a2 a3 a4 v) :
    Calls Tryz.prog 9 #[.pointer (some ⟨b, 0, none⟩), .int .u64 id] v fun e w' => e = .returned (.tuple #[.agg #[.int .u64 id, .int .u64 x, .int .u64 0, .int .u64 sn, .int .u64 0], .bool true]) ∧ Rd W B b m c L id x sn Z a0 a1 a2 a3 a4 w' :=
  (entry_some h.inn.bag id (aget_one _) h.inn.word).mono fun _ _ ⟨he, hb⟩ => ⟨he, h.grow hb⟩

theorem u64_nat {a : Int} (h : (Lit.int .u64 a).wf = true) : ∃ n : Nat, a = n ∧ n < 18446744073709551616 := by
  simp only [Lit.wf, Bool.and_eq_true, decide_eq_true_eq] at h
  have hmin : IntKind.u64.min = 0 := by decide
  have hmax : IntKind.u64.max = 18446744073709551615 := by decide
  rw [hmin, hmax] at h
  exact ⟨a.toNat, by omega, by omega⟩

set_option maxHeartbeats 4000000 in
set_option maxRecDepth 1000000 in
theorem law_some (W : World) (B : Nat) (hB : B = W.heap.size) (haw : Calls Tryz.prog 4 #[] W fun e w' => e = .returned (.bool true) ∧ Below B W w') (blk off n cap : Nat) (hn : n ≤ 80) (hblk : blk < B)
    (F : ∀ k, k < n → FiveAt W blk (off + k * 5) .u8 .u64 .u64 .u64 .i64) (id : Int) (hid : (id == 0) = false) :
    Calls Tryz.prog 3 #[.slice (some ⟨blk, off, none⟩) n cap, .int .u64 id] W fun e w' => e = .returned (.bool true) ∧ Below B W w' := by
  have hBl : B ≤ W.heap.size := Nat.le_of_eq hB
  have F' : Aside (∀ k, k < n → FiveAt W blk (off + k * 5) .u8 .u64 .u64 .u64 .i64) := F
  have en : Aside (∀ {v : World} {b m : Nat} {L : Value} (_ : BagAt v b m L []) (_ : b ≠ m) (_ : Below B W v) (_ : B ≤ b) (_ : B ≤ m), Calls Tryz.prog 6 #[.pointer (some ⟨b, 0, none⟩), .int .u64 id, .int .i64 0, .int .u64 0] v fun e w' => e = .returned (.int .i64 0) ∧ ∃ c, In W B b m c L id 0 0 w') := fun h hbm hl hb hm => enter0 h hbm id hid hl hb hm
  clear F hB
  go_enter Tryz.func3, Tryz.ntmps3
  go_wp2_with (first
    | (go_at_call 4; with_reducible refine haw.mono ?_; rintro e w1 ⟨rfl, b1⟩; have s1 := Nat.le_trans hBl b1.size)
    | (go_at_call 5; have h5 := new_calls w1; with_reducible refine h5.mono ?_; clear h5; rintro e w2 ⟨b, m, rfl, k1, k2, hbm, hbag, b2⟩)
    | (go_at_call 6; have h6 := en.out hbag hbm (b1.trans (b2.mono s1)) (Nat.le_trans s1 k1) (Nat.le_trans s1 k2); with_reducible refine h6.mono ?_; clear h6; rintro e w3 ⟨rfl, c, hin⟩))
  clear en hbag b2 b1 k1 k2 s1 haw
  go_loopw [41, 6, 7] (fun i nn ss wr => ∃ k x sn : Nat, k ≤ n ∧ i = .int .i64 k ∧ x / 4 ≤ k ∧ nn = .int .u64 ((x / 4 : Nat) : Int) ∧ ss = .int .u64 sn ∧ In W B b m c (.slice none 0 0) id x sn wr) (fun i _ _ _ => n - (intOf i).toNat)
  case atStart => exact ⟨0, 0, 0, Nat.zero_le _, rfl, Nat.le_refl _, rfl, rfl, hin⟩
  case round =>
    obtain ⟨k, x, sn, hk, rfl, hxk, rfl, rfl, hv⟩ := hrel
    by_cases hlt : k < n
    · obtain ⟨x0, x1, x2, x3, x4, ⟨c0, c1, c2, c3, c4⟩, w0, w1', w2', w3', w4'⟩ := F'.out k hlt
      have tr : ∀ {j : Nat} {u : Value}, W.cell? ⟨blk, j, none⟩ = some u → wr.cell? ⟨blk, j, none⟩ = some u := fun h => (hv.low.cell (by exact hblk)).trans h
      have d0 := tr c0
      have d1 := tr c1
      have d2 := tr c2
      have d3 := tr c3
      have d4 := tr c4
      clear c0 c1 c2 c3 c4 tr
      obtain ⟨q, hq⟩ : ∃ q, q = x / 4 := ⟨_, rfl⟩
      rw [← hq]
      obtain ⟨N, rfl, hN⟩ := u64_nat w2'
      obtain ⟨T, rfl, _⟩ := u64_nat w3'
      have R := Rd.start (a0 := x0) (a1 := x1) (a2 := (N : Int)) (a3 := (T : Int)) (a4 := x4) hv
      generalize hZ : wr.heap.size = Z at R
      have hx64 : x < 18446744073709551616 := by omega
      have hqk : q ≤ k := by omega
      have hx1000 : x / 4 < 1000 := by omega
      by_cases h3 : (x0.tmod 3 == 0) = true
      · skip
        cases hS : swapN x N x4 with
        | none =>
          have hve := version_calls x
          go_wp2_with (first
                    | (go_at_call 7; have h7 := rd_load R; with_reducible refine h7.mono ?_; clear h7; rintro e w5 ⟨rfl, v5⟩; have e0 := v5.q0; have e2 := v5.q2; have e3 := v5.q3; have e4 := v5.q4)
                    | (go_at_call 8; have h8 := rd_swap_no v5 hN T hS; with_reducible refine h8.mono ?_; clear h8 e0 e2 e3 e4; rintro e w6 ⟨rfl, v6⟩; have g3 := v6.q3; have g4 := v6.q4)
                    | (go_at_call 9; have h9 := rd_entry v6; with_reducible refine h9.mono ?_; clear h9; rintro e w7 ⟨rfl, v7⟩)
                    | (go_at_call 10; with_reducible refine (hve _).mono ?_; rintro e w8 ⟨rfl, rfl⟩))
          go_roundw
          case rel => exact ⟨k + 1, x, sn, by omega, by go_num, by omega, by first | rfl | go_num, rfl, v7.inn.grow ((Below.refl _ _).alloc (Nat.le_refl _) _)⟩
          case measure => simp [intOf]; omega
        | some r =>
          obtain ⟨hr, hxo⟩ := swap_next hS hx1000
          have hve := version_calls r
          rw [hr] at hve
          by_cases h4 : x4 = 0
          · subst h4
            go_wp2_with (first
                    | (go_at_call 7; have h7 := rd_load R; with_reducible refine h7.mono ?_; clear h7; rintro e w5 ⟨rfl, v5⟩; have e0 := v5.q0; have e2 := v5.q2; have e3 := v5.q3; have e4 := v5.q4)
                    | (go_at_call 8; have h8 := rd_swap_free v5 hN T hS; with_reducible refine h8.mono ?_; clear h8 e0 e2 e3 e4; rintro e w6 ⟨rfl, v6⟩; have g3 := v6.q3; have g4 := v6.q4)
                    | (go_at_call 9; have h9 := rd_entry v6; with_reducible refine h9.mono ?_; clear h9; rintro e w7 ⟨rfl, v7⟩)
                    | (go_at_call 10; with_reducible refine (hve _).mono ?_; rintro e w8 ⟨rfl, rfl⟩))
            go_roundw
            case rel => exact ⟨k + 1, r, T, by omega, by go_num, by omega, by rw [hr]; first | rfl | go_num, rfl, v7.inn.grow ((Below.refl _ _).alloc (Nat.le_refl _) _)⟩
            case measure => simp [intOf]; omega
          · have h4b : (x4 == 0) = false := by simpa using h4
            go_wp2_with (first
                    | (go_at_call 7; have h7 := rd_load R; with_reducible refine h7.mono ?_; clear h7; rintro e w5 ⟨rfl, v5⟩; have e0 := v5.q0; have e2 := v5.q2; have e3 := v5.q3; have e4 := v5.q4)
                    | (go_at_call 8; have h8 := rd_swap_on v5 hN T hS h4b; with_reducible refine h8.mono ?_; clear h8 e0 e2 e3 e4; rintro e w6 ⟨rfl, v6⟩; have g3 := v6.q3; have g4 := v6.q4)
                    | (go_at_call 9; have h9 := rd_entry v6; with_reducible refine h9.mono ?_; clear h9; rintro e w7 ⟨rfl, v7⟩)
                    | (go_at_call 10; with_reducible refine (hve _).mono ?_; rintro e w8 ⟨rfl, rfl⟩))
            go_roundw
            case rel => exact ⟨k + 1, r, sn, by omega, by go_num, by omega, by rw [hr]; first | rfl | go_num, rfl, v7.inn.grow ((Below.refl _ _).alloc (Nat.le_refl _) _)⟩
            case measure => simp [intOf]; omega
      · have h3b : (x0.tmod 3 == 0) = false := by simpa using h3
        cases hS : swapN x x x4 with
        | none =>
          have hve := version_calls x
          go_wp2_with (first
                    | (go_at_call 7; have h7 := rd_load R; with_reducible refine h7.mono ?_; clear h7; rintro e w5 ⟨rfl, v5⟩; have e0 := v5.q0; have e2 := v5.q2; have e3 := v5.q3; have e4 := v5.q4)
                    | (go_at_call 8; have h8 := rd_swap_no v5 hx64 T hS; with_reducible refine h8.mono ?_; clear h8 e0 e2 e3 e4; rintro e w6 ⟨rfl, v6⟩; have g3 := v6.q3; have g4 := v6.q4)
                    | (go_at_call 9; have h9 := rd_entry v6; with_reducible refine h9.mono ?_; clear h9; rintro e w7 ⟨rfl, v7⟩)
                    | (go_at_call 10; with_reducible refine (hve _).mono ?_; rintro e w8 ⟨rfl, rfl⟩))
          go_roundw
          case rel => exact ⟨k + 1, x, sn, by omega, by go_num, by omega, by first | rfl | go_num, rfl, v7.inn.grow ((Below.refl _ _).alloc (Nat.le_refl _) _)⟩
          case measure => simp [intOf]; omega
        | some r =>
          obtain ⟨hr, hxo⟩ := swap_next hS hx1000
          have hve := version_calls r
          rw [hr] at hve
          by_cases h4 : x4 = 0
          · subst h4
            go_wp2_with (first
                    | (go_at_call 7; have h7 := rd_load R; with_reducible refine h7.mono ?_; clear h7; rintro e w5 ⟨rfl, v5⟩; have e0 := v5.q0; have e2 := v5.q2; have e3 := v5.q3; have e4 := v5.q4)
                    | (go_at_call 8; have h8 := rd_swap_free v5 hx64 T hS; with_reducible refine h8.mono ?_; clear h8 e0 e2 e3 e4; rintro e w6 ⟨rfl, v6⟩; have g3 := v6.q3; have g4 := v6.q4)
                    | (go_at_call 9; have h9 := rd_entry v6; with_reducible refine h9.mono ?_; clear h9; rintro e w7 ⟨rfl, v7⟩)
                    | (go_at_call 10; with_reducible refine (hve _).mono ?_; rintro e w8 ⟨rfl, rfl⟩))
            go_roundw
            case rel => exact ⟨k + 1, r, T, by omega, by go_num, by omega, by rw [hr]; first | rfl | go_num, rfl, v7.inn.grow ((Below.refl _ _).alloc (Nat.le_refl _) _)⟩
            case measure => simp [intOf]; omega
          · have h4b : (x4 == 0) = false := by simpa using h4
            go_wp2_with (first
                    | (go_at_call 7; have h7 := rd_load R; with_reducible refine h7.mono ?_; clear h7; rintro e w5 ⟨rfl, v5⟩; have e0 := v5.q0; have e2 := v5.q2; have e3 := v5.q3; have e4 := v5.q4)
                    | (go_at_call 8; have h8 := rd_swap_on v5 hx64 T hS h4b; with_reducible refine h8.mono ?_; clear h8 e0 e2 e3 e4; rintro e w6 ⟨rfl, v6⟩; have g3 := v6.q3; have g4 := v6.q4)
                    | (go_at_call 9; have h9 := rd_entry v6; with_reducible refine h9.mono ?_; clear h9; rintro e w7 ⟨rfl, v7⟩)
                    | (go_at_call 10; with_reducible refine (hve _).mono ?_; rintro e w8 ⟨rfl, rfl⟩))
            go_roundw
            case rel => exact ⟨k + 1, r, sn, by omega, by go_num, by omega, by rw [hr]; first | rfl | go_num, rfl, v7.inn.grow ((Below.refl _ _).alloc (Nat.le_refl _) _)⟩
            case measure => simp [intOf]; omega
    · have hkn : k = n := by omega
      subst hkn
      go_wp2
      go_ret
      exact ⟨rfl, hv.low⟩

end Go.Proofs.YtkmenkanochelaaGreatDoor

namespace Go.Proofs.YtkmenkanochelaaGreatDoor
open Go.ChangeShapes Go.WideShapes Go.ChangeAt Go.RowKit Go.Eng Go.Deep

theorem law_long (W : World) (B : Nat) (hB : B = W.heap.size) (haw : Calls Tryz.prog 4 #[] W fun e w' => e = .returned (.bool true) ∧ Below B W w') (p : Option Addr) (n cap : Nat) (hn : 80 < n) (id : Int) :
    Calls Tryz.prog 3 #[.slice p n cap, .int .u64 id] W fun e w' => e = .returned (.bool true) ∧ Below B W w' := by
  have hBl : B ≤ W.heap.size := Nat.le_of_eq hB
  clear hB
  go_enter Tryz.func3, Tryz.ntmps3
  go_wp2_with (first
    | (go_at_call 4; with_reducible refine haw.mono ?_; rintro e w1 ⟨rfl, b1⟩; have s1 := Nat.le_trans hBl b1.size)
    | (go_at_call 5; have h5 := new_calls w1; with_reducible refine h5.mono ?_; clear h5; rintro e w2 ⟨b, m, rfl, k1, k2, hbm, hbag, b2⟩))
  go_ret
  exact ⟨rfl, b1.trans (b2.mono s1)⟩

theorem law_zero (W : World) (B : Nat) (hB : B = W.heap.size) (haw : Calls Tryz.prog 4 #[] W fun e w' => e = .returned (.bool true) ∧ Below B W w') (p : Option Addr) (n cap : Nat) (hn : ¬ 80 < n) :
    Calls Tryz.prog 3 #[.slice p n cap, .int .u64 0] W fun e w' => e = .returned (.bool true) ∧ Below B W w' := by
  have hBl : B ≤ W.heap.size := Nat.le_of_eq hB
  clear hB
  go_enter Tryz.func3, Tryz.ntmps3
  go_wp2_with (first
    | (go_at_call 4; with_reducible refine haw.mono ?_; rintro e w1 ⟨rfl, b1⟩; have s1 := Nat.le_trans hBl b1.size)
    | (go_at_call 5; have h5 := new_calls w1; with_reducible refine h5.mono ?_; clear h5; rintro e w2 ⟨b, m, rfl, k1, k2, hbm, hbag, b2⟩))
  go_ret
  exact ⟨rfl, b1.trans (b2.mono s1)⟩

theorem law_empty (W : World) (B : Nat) (hB : B = W.heap.size) (haw : Calls Tryz.prog 4 #[] W fun e w' => e = .returned (.bool true) ∧ Below B W w') (p : Option Addr) (cap : Nat) (id : Int) (hid : (id == 0) = false) :
    Calls Tryz.prog 3 #[.slice p 0 cap, .int .u64 id] W fun e w' => e = .returned (.bool true) ∧ Below B W w' := by
  have hBl : B ≤ W.heap.size := Nat.le_of_eq hB
  have en : Aside (∀ {v : World} {b m : Nat} {L : Value} (_ : BagAt v b m L []) (_ : b ≠ m) (_ : Below B W v) (_ : B ≤ b) (_ : B ≤ m), Calls Tryz.prog 6 #[.pointer (some ⟨b, 0, none⟩), .int .u64 id, .int .i64 0, .int .u64 0] v fun e w' => e = .returned (.int .i64 0) ∧ ∃ c, In W B b m c L id 0 0 w') := fun h hbm hl hb hm => enter0 h hbm id hid hl hb hm
  clear hB
  go_enter Tryz.func3, Tryz.ntmps3
  go_wp2_with (first
    | (go_at_call 4; with_reducible refine haw.mono ?_; rintro e w1 ⟨rfl, b1⟩; have s1 := Nat.le_trans hBl b1.size)
    | (go_at_call 5; have h5 := new_calls w1; with_reducible refine h5.mono ?_; clear h5; rintro e w2 ⟨b, m, rfl, k1, k2, hbm, hbag, b2⟩)
    | (go_at_call 6; have h6 := en.out hbag hbm (b1.trans (b2.mono s1)) (Nat.le_trans s1 k1) (Nat.le_trans s1 k2); with_reducible refine h6.mono ?_; clear h6; rintro e w3 ⟨rfl, c, hin⟩))
  refine wp_loop_rounds 1 ?_
  rw [rounds_succ]
  go_wp2
  go_ret
  exact ⟨rfl, hin.low⟩

/-- The law, at whatever slice of acts and whatever id. -/
theorem law_all (W : World) (haw : Calls Tryz.prog 4 #[] W fun e w' => e = .returned (.bool true) ∧ Below W.heap.size W w') (a0 : Option Addr) (n cap : Nat) (id : Int)
    (F : n = 0 ∨ ∃ b off, a0 = some ⟨b, off, none⟩ ∧ b < W.heap.size ∧ ∀ i, i < n → FiveAt W b (off + i * 5) .u8 .u64 .u64 .u64 .i64) :
    Calls Tryz.prog 3 #[.slice a0 n cap, .int .u64 id] W fun e w' => e = .returned (.bool true) ∧ Below W.heap.size W w' := by
  by_cases h80 : 80 < n
  · exact law_long W _ rfl haw a0 n cap h80 id
  · by_cases hid : id = 0
    · subst hid
      exact law_zero W _ rfl haw a0 n cap h80
    · have hid' : (id == 0) = false := by simpa using hid
      rcases F with rfl | ⟨b, off, rfl, hb, hF⟩
      · exact law_empty W _ rfl haw a0 cap id hid'
      · exact law_some W _ rfl haw b off n cap (by omega) hb hF id hid'

end Go.Proofs.YtkmenkanochelaaGreatDoor
