/- The law's walk over a slice of one to sixty floats, and over none. Conditions: how the argument lies in memory. -/
import Derived.Test.YticoedgefeeikaaGreatPl
import Derived.Test.YticoedgefeeikaaGreatAw
namespace Go.Proofs.YticoedgefeeikaaGreat
open Go.ChangeShapes Go.WideShapes Go.ChangeAt Go.RowKit Go.Eng

set_option maxHeartbeats 4000000 in
set_option maxRecDepth 1000000 in
theorem law_some (b off n c : Nat) (zs : List Int) (W : World) (hz : n ≤ zs.length) (hn : n ≤ 60) (h0 : 0 < n) (hb : b < W.heap.size) (hw : ∀ z ∈ zs, 0 ≤ z ∧ z < 18446744073709551616)
    (hc : ∀ j, j < zs.length → W.cell? ⟨b, off + j, none⟩ = some (.int .u64 (zs.getD j 0))) :
    Calls Tryz.prog 3 #[.slice (some ⟨b, off, none⟩) n c] W fun e w' => e = .returned (.bool true) ∧ Below W.heap.size W w' := by
  obtain ⟨B, hB⟩ : ∃ B, B = W.heap.size := ⟨_, rfl⟩
  rw [← hB] at hb ⊢
  have haw : Calls Tryz.prog 4 #[] W fun e w' => e = .returned (.bool true) ∧ Below B W w' := by rw [hB]; exact awake_true W
  have st1 := fun {w : World} (h : Below B W w) => stage1 (c := c) hB hz hn h0 hb hw hc h
  have wl : (words zs n).toArray.size = n := by simpa using words_length hz
  generalize (words zs n).toArray = D at st1 wl
  have hBl : B ≤ W.heap.size := Nat.le_of_eq hB
  clear hc hw hB
  go_enter Tryz.func3, Tryz.ntmps3
  go_wp2_with (first
    | (go_at_call 4; refine haw.mono ?_; rintro e w1 ⟨rfl, b1⟩)
    | (go_at_call 5; refine (st1 b1).mono ?_; rintro e w2 ⟨g1, cap1, rfl, k1, kc, r2, b2⟩; have s2 := Nat.le_trans hBl b2.size)
    | (go_at_call 6; refine (stage2 s2 wl hn h0 r2 b2).mono ?_; rintro e w3 ⟨g2, cap2, rfl, k2, hne, q3, r3, b3⟩; have s3 := Nat.le_trans hBl b3.size)
    | (go_at_call 7; refine (stage3 s3 k2 hne wl hn q3 r3 b3).mono ?_; rintro e w4 ⟨rfl, q4, r4, b4, s4⟩)
    | (go_at_call 8; have h8 := stage4 (cap := cap1) s4 k1 (fun h => hne h.symm) wl hn r4 q4 b4; with_reducible refine h8.mono ?_; clear h8; rintro e w5 ⟨rfl, d1, z1, p1, o1, r5, q5, b5, s5⟩; have z5 : D.reverse.size = n := by rw [Array.size_reverse, wl])
    | (go_at_call 8; have h8 := stage4 (cap := cap2) s5 k2 hne z5 hn q5 r5 b5; with_reducible refine h8.mono ?_; clear h8; rintro e w6 ⟨rfl, d2, z2, p2, o2, q6, r6, b6, s6⟩))
  obtain ⟨C, hC⟩ : ∃ C, C = w6.heap.size := ⟨_, rfl⟩
  obtain ⟨X, hX⟩ : ∃ X : Nat → Nat, X = fun j => d1[j]!.toNat := ⟨_, rfl⟩
  obtain ⟨Y, hY⟩ : ∃ Y : Nat → Nat, Y = fun j => d2[j]!.toNat := ⟨_, rfl⟩
  have cA : Aside (∀ {wr : World}, Below C w6 wr → ∀ j, j < n → wr.cell? ⟨g1, j, none⟩ = some (.float .f64 (X j))) :=
    fun h j hj => by rw [hX]; exact (r6.below h (by rw [hC]; exact r6.2)).cell j (by omega)
  have cB : Aside (∀ {wr : World}, Below C w6 wr → ∀ j, j < n → wr.cell? ⟨g2, j, none⟩ = some (.float .f64 (Y j))) :=
    fun h j hj => by rw [hY]; exact (q6.below h (by rw [hC]; exact q6.2)).cell j (by omega)
  have hle : Aside (∀ i j, i ≤ j → j < n → keyN (X i) ≤ keyN (X j)) := fun i j hij hj => by rw [hX]; exact sorted_keys z1 o1 hij hj
  have hXY : Aside (∀ j, j < n → keyN (X j) = keyN (Y j)) := fun j hj => by rw [hX, hY]; exact keys_one wl p1 o1 p2 o2 j hj
  have bX : Aside (∀ j, X j < 18446744073709551616) := fun j => by rw [hX]; exact d1[j]!.toNat_lt
  have bY : Aside (∀ j, Y j < 18446744073709551616) := fun j => by rw [hY]; exact d2[j]!.toNat_lt
  have hCl : C ≤ w6.heap.size := Nat.le_of_eq hC
  have hBC : B ≤ C := by rw [hC]; exact s6
  clear hX hY hC p1 o1 p2 o2 q6 r6 q5 r5 b5 s5 q4 r4 b4 s4 q3 r3 b3 s3 r2 b2 s2 b1 st1 haw z5 z1 z2 wl hne
  go_loopw [26] (fun i wr => ∃ k : Nat, k ≤ n ∧ i = .int .i64 k ∧ Below C w6 wr) (fun i _ => n - (intOf i).toNat)
  case atStart => exact ⟨0, Nat.zero_le _, rfl, Below.refl _ _⟩
  case round =>
    obtain ⟨k, hk, rfl, hx⟩ := hrel
    by_cases hlt : k < n
    · have a1 := cA.out hx k hlt
      have hcp : ¬ cap1 = k := by omega
      go_wp2
      go_loopw [35] (fun j wi => ∃ m : Nat, m ≤ n - k ∧ j = .int .i64 m ∧ Below C w6 wi) (fun j _ => (n - k) - (intOf j).toNat)
      case atStart => exact ⟨0, Nat.zero_le _, rfl, hx⟩
      case round =>
        obtain ⟨m, hm, rfl, hy⟩ := hrel
        by_cases hmt : m < n - k
        · have a2 := cA.out hy (k + m) (by omega)
          have hkm := hle.out k (k + m) (by omega) (by omega)
          obtain ⟨r, hr⟩ : ∃ r, cmpI (X k) (X (k + m)) = r := ⟨_, rfl⟩
          obtain ⟨s, hs⟩ : ∃ s, cmpI (X (k + m)) (X k) = s := ⟨_, rfl⟩
          have hrs : (r = -1 ∧ s = 1) ∨ (r = 0 ∧ s = 0) := by
            rw [← hr, ← hs]; unfold cmpI
            rcases Int.lt_or_eq_of_le hkm with g | g
            · rw [compareInt_lt g, compareInt_gt g]; exact .inl ⟨rfl, rfl⟩
            · rw [compareInt_eq g, compareInt_eq g.symm]; exact .inr ⟨rfl, rfl⟩
          have c1 : Aside (∀ {v : World}, Below C w6 v → Calls Tryz.prog 9 #[.float .f64 (X k), .float .f64 (X (k + m))] v fun e w' => e = .returned (.int .i64 r) ∧ Below C w6 w') := fun h => cmp_keeps (bX.out k) (bX.out (k + m)) hr h hCl
          have c2 : Aside (∀ {v : World}, Below C w6 v → Calls Tryz.prog 9 #[.float .f64 (X (k + m)), .float .f64 (X k)] v fun e w' => e = .returned (.int .i64 s) ∧ Below C w6 w') := fun h => cmp_keeps (bX.out (k + m)) (bX.out k) hs h hCl
          clear hr hs hkm
          rcases hrs with ⟨rfl, rfl⟩ | ⟨rfl, rfl⟩
          all_goals
            go_wp2_with (first
              | (go_at_call 9; have h9 := c1.out (by assumption); with_reducible refine h9.mono ?_; clear h9; rintro e w7 ⟨rfl, q7⟩)
              | (go_at_call 9; have h9 := c2.out (by assumption); with_reducible refine h9.mono ?_; clear h9; rintro e w7 ⟨rfl, q7⟩))
            go_roundw
            case rel => exact ⟨m + 1, by omega, by go_num, by assumption⟩
            case measure => simp [intOf]; omega
        · go_wp2
          go_roundw
          case rel => exact ⟨k + 1, by omega, by go_num, hy⟩
          case measure => simp [intOf]; omega
    · have hkn : k = n := by omega
      subst hkn
      have e10 := equal_calls g1 g2 k cap1 cap2 X Y wr hn (cA.out hx) (cB.out hx) bX.out bY.out hXY.out
      go_wp2_with (go_at_call 10; with_reducible refine e10.mono ?_; rintro e w8 ⟨rfl, rfl⟩)
      go_ret
      exact ⟨rfl, b6.trans (hx.mono hBC)⟩

end Go.Proofs.YticoedgefeeikaaGreat

namespace Go.Proofs.YticoedgefeeikaaGreat
open Go.ChangeShapes Go.WideShapes Go.ChangeAt Go.RowKit Go.Eng

theorem floats_none (p : Option Addr) (c : Nat) (w : World) : Calls Tryz.prog 5 #[.slice p 0 c] w fun e w' => e = .returned (.slice none 0 0) ∧ w' = w := by
  go_enter Tryz.func5, Tryz.ntmps5
  go_wp2
  refine wp_loop_rounds 1 ?_
  rw [rounds_succ]
  go_wp2
  go_ret
  exact ⟨rfl, rfl⟩

theorem equal_none (w : World) : Calls Tryz.prog 10 #[.slice none 0 0, .slice none 0 0, .func (.func 11) #[] #[]] w fun e w' => e = .returned (.bool true) ∧ w' = w := by
  go_enter Tryz.func10, Tryz.ntmps10
  go_wp2
  refine wp_loop_rounds 1 ?_
  rw [rounds_succ]
  go_wp2
  go_ret
  exact ⟨rfl, rfl⟩

theorem law_none (p : Option Addr) (c : Nat) (W : World) : Calls Tryz.prog 3 #[.slice p 0 c] W fun e w' => e = .returned (.bool true) ∧ Below W.heap.size W w' := by
  have st5 := fun w => floats_none p c w
  have st6 : ∀ w, Calls Tryz.prog 6 #[.slice none 0 0] w fun e w' => e = .returned (.slice none 0 0) ∧ w' = w := fun w => AnyE.slices_Clone_nil Tryz.cloneL 0 0 w
  have st7 : ∀ w, Calls Tryz.prog 7 #[.slice none 0 0] w fun e w' => e = .returned (.tuple #[]) ∧ w' = w := fun w => AnyE.slices_Reverse_empty Tryz.revL none 0 w
  have st8 : ∀ w, Calls Tryz.prog 8 #[.slice none 0 0, .func (.func 9) #[] #[]] w fun e w' => e = .returned (.tuple #[]) ∧ w' = w := fun w => AnyF.slices_SortFunc_none (P := Tryz.prog) (ρ := Tryz.sortL_ren) { Tryz.sortL with } none 0 (.func (.func 9) #[] #[]) w
  have haw := awake_true W
  go_enter Tryz.func3, Tryz.ntmps3
  go_wp2_with (first
    | (go_at_call 4; refine haw.mono ?_; rintro e w1 ⟨rfl, b1⟩)
    | (go_at_call 5; with_reducible refine (st5 _).mono ?_; rintro e w2 ⟨rfl, rfl⟩)
    | (go_at_call 6; with_reducible refine (st6 _).mono ?_; rintro e w3 ⟨rfl, rfl⟩)
    | (go_at_call 7; with_reducible refine (st7 _).mono ?_; rintro e w4 ⟨rfl, rfl⟩)
    | (go_at_call 8; with_reducible refine (st8 _).mono ?_; rintro e w5 ⟨rfl, rfl⟩))
  refine wp_loop_rounds 1 ?_
  rw [rounds_succ]
  go_wp2_with (go_at_call 10; with_reducible refine (equal_none _).mono ?_; rintro e w8 ⟨rfl, rfl⟩)
  go_ret
  exact ⟨rfl, b1⟩

end Go.Proofs.YticoedgefeeikaaGreat
