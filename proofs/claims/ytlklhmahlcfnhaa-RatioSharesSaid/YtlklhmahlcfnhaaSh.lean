/- What 'ratio.Share', 'Mean', 'Clean', 'Cmp' and the functions beneath hand back. Conditions: none but that the arguments fit their kinds. -/
import Derived.Test.YtlklhmahlcfnhaaFlB
import Derived.Test.YtlklhmahlcfnhaaAw
import Derived.WalkKit
import Derived.ProofKit
import Derived.OpenShut
import Derived.LoopN
namespace Go.Proofs.Ytlklhmahlcfnhaa.shares
open Go.ChangeShapes Go.WideShapes Go.ChangeAt Go.RowKit Go.Eng

theorem f64_double : FloatKind.f64.format = Ieee.double := rfl

theorem below_drawn (w : World) (d : Nat) : Below w.heap.size w { w with drawn := d } := ⟨rfl, rfl, rfl, Nat.le_refl _, fun _ _ => rfl⟩

theorem run_quo_nan {P : Program} (w : World) (t : TypeId) (x y : Nat) (h : floatBits .quo .f64 x y = none) :
    ∃ z, isNanN z = true ∧ z < 18446744073709551616 ∧ (binOp .quo t (.float .f64 x) (.float .f64 y)).run P w = .ok (.float .f64 z) w.drew := by
  refine ⟨(Question.nanBits .f64 x y).cut (w.tape w.drawn (.nanBits .f64 x y)), (nan_drawn _ _ _).1, (nan_drawn _ _ _).2, ?_⟩
  have h' : FloatKind.f64.format.div x y = none := h
  simp [binOp, Op.floatArith, h', choose, Sem.run, Question.forced]

theorem run_add_nan {P : Program} (w : World) (t : TypeId) (x y : Nat) (h : floatBits .add .f64 x y = none) :
    ∃ z, isNanN z = true ∧ z < 18446744073709551616 ∧ (binOp .add t (.float .f64 x) (.float .f64 y)).run P w = .ok (.float .f64 z) w.drew := by
  refine ⟨(Question.nanBits .f64 x y).cut (w.tape w.drawn (.nanBits .f64 x y)), (nan_drawn _ _ _).1, (nan_drawn _ _ _).2, ?_⟩
  have h' : FloatKind.f64.format.add x y = none := h
  simp [binOp, Op.floatArith, h', choose, Sem.run, Question.forced]

theorem share_some (a b : Int) (r : Nat) (w : World) (h : floatBits .quo .f64 (floatOfInt .f64 a) (floatOfInt .f64 b) = some r) :
    Calls Try.prog 8 #[.int .u64 a, .int .u64 b] w fun e w' => e = .returned (.float .f64 r) ∧ w' = w := by
  have hq := fun w => run_float_arith (P := Try.prog) w .quo 24 .f64 _ _ _ h
  go_enter Try.func8, Try.ntmps8
  go_wp2
  go_ret
  exact ⟨rfl, rfl⟩

theorem share_nan (a b : Int) (w : World) (h : floatBits .quo .f64 (floatOfInt .f64 a) (floatOfInt .f64 b) = none) :
    Calls Try.prog 8 #[.int .u64 a, .int .u64 b] w fun e w' => ∃ z, e = .returned (.float .f64 z) ∧ isNanN z = true ∧ z < 18446744073709551616 ∧ w' = w.drew := by
  obtain ⟨z, h1, h2, h3⟩ := run_quo_nan (P := Try.prog) w 24 _ _ h
  go_enter Try.func8, Try.ntmps8
  go_wp2
  go_ret
  exact ⟨z, rfl, h1, h2, rfl⟩

theorem isnan_calls (x : Nat) (hx : x < 18446744073709551616) (w : World) :
    Calls Try.prog 9 #[.float .f64 x] w fun e w' => e = .returned (.bool (isNanN x)) ∧ w' = w := by
  have ho := order_self hx
  rw [← f64_double] at ho
  cases hn : isNanN x with
  | true =>
    have ho : FloatKind.f64.format.order x x = none := by rw [ho, hn]; rfl
    go_enter Try.func9, Try.ntmps9
    go_wp2
    go_ret
    exact ⟨by simp, rfl⟩
  | false =>
    have ho : FloatKind.f64.format.order x x = some .eq := by rw [ho, hn]; rfl
    go_enter Try.func9, Try.ntmps9
    go_wp2
    go_ret
    exact ⟨by simp, rfl⟩

theorem isinf_calls (x : Nat) (w : World) :
    Calls Try.prog 10 #[.float .f64 x, .int .i64 1] w fun e w' => e = .returned (.bool (FloatKind.f64.format.order x 9218868437227405311 == some .gt)) ∧ w' = w := by
  go_enter Try.func10, Try.ntmps10
  go_wp2
  go_ret
  exact ⟨rfl, rfl⟩

theorem clean_calls (x : Nat) (w : World) (hx : x < 18446744073709551616) :
    Calls Try.prog 13 #[.float .f64 x] w fun e w' => e = .returned (.float .f64 (cleanN x)) ∧ w' = w := by
  by_cases h : FloatKind.f64.format.order x 0 = some .eq
  · rw [clean_eq hx h]
    have h : (FloatKind.f64.format.order x 0 == some .eq) = true := by rw [h]; rfl
    go_enter Try.func13, Try.ntmps13
    go_wp2
    go_ret
    exact ⟨rfl, rfl⟩
  · rw [clean_ne h]
    have h : (FloatKind.f64.format.order x 0 == some .eq) = false := by simpa using h
    go_enter Try.func13, Try.ntmps13
    go_wp2
    go_ret
    exact ⟨rfl, rfl⟩

theorem bits_of (x : Nat) (w : World) : (callFunc 17 #[.float .f64 x]).run Try.prog w = .ok (.value (.int .u64 x)) w := by
  rw [run_callFunc_extern (e := Extern.MathFloatBits.float64bits) Try.func17 (by kernel_rfl) (by kernel_rfl) (by kernel_rfl) (by kernel_rfl)]
  rfl

theorem same_nan (x y : Nat) (hx : isNanN x = true) (hy : isNanN y = true) (w : World) :
    Calls Try.prog 11 #[.float .f64 x, .float .f64 y] w fun e w' => e = .returned (.bool true) ∧ w' = w := by
  have h1 := (nan_order hx x).1
  have h2 := (nan_order hy y).1
  rw [← f64_double] at h1 h2
  go_enter Try.func11, Try.ntmps11
  go_wp2
  go_ret
  exact ⟨by simp, rfl⟩

theorem same_self (x : Nat) (hl : x < 18446744073709551616) (hx : isNanN x = false) (w : World) :
    Calls Try.prog 11 #[.float .f64 x, .float .f64 x] w fun e w' => e = .returned (.bool true) ∧ w' = w := by
  have h1 := order_self hl
  rw [← f64_double, hx] at h1
  have hb := bits_of
  go_enter Try.func11, Try.ntmps11
  go_wp2
  go_ret
  exact ⟨by simp, rfl⟩

theorem mean_none_calls (w : World) : Calls Try.prog 12 #[.slice none 0 0] w fun e w' => ∃ z, e = .returned (.float .f64 z) ∧ isNanN z = true ∧ z < 18446744073709551616 ∧ w' = w.drew := by
  have hz : floatBits .quo .f64 0 (floatOfInt .f64 0) = none := by rw [flt_zero_int]; exact mean_none
  obtain ⟨z, h1, h2, h3⟩ := run_quo_nan (P := Try.prog) w 24 _ _ hz
  go_enter Try.func12, Try.ntmps12
  go_wp2
  refine wp_loop_rounds 1 ?_
  rw [rounds_succ]
  go_wp2
  go_ret
  exact ⟨z, rfl, h1, h2, rfl⟩

theorem mean_one_calls (x g cap : Nat) (w : World) (hx : x < 18446744073709551616) (hc : w.cell? ⟨g, 0, none⟩ = some (.float .f64 x)) :
    Calls Try.prog 12 #[.slice (some ⟨g, 0, none⟩) 1 cap] w fun e w' => ∃ z, e = .returned (.float .f64 z) ∧ (isNanN x = true → isNanN z = true) ∧ (isNanN x = false → z = cleanN x) ∧ z < 18446744073709551616 ∧ ∃ d, w' = { w with drawn := d } := by
  cases hn : isNanN x with
  | false =>
    have ha : floatBits .add .f64 0 x = some (cleanN x) := zero_add hx hn
    have hd : floatBits .quo .f64 (cleanN x) (floatOfInt .f64 1) = some (cleanN x) := by
      rw [flt_one_int]; exact div_one (cleanN_lt hx) ((clean_nan x).trans hn) (clean_ne_neg x)
    have hadd := fun w => run_float_arith (P := Try.prog) w .add 24 .f64 _ _ _ ha
    have hdiv := fun w => run_float_arith (P := Try.prog) w .quo 24 .f64 _ _ _ hd
    go_enter Try.func12, Try.ntmps12
    go_wp2
    refine wp_loop_rounds 2 ?_
    rw [rounds_succ]
    go_wp2
    rw [rounds_succ]
    go_wp2
    go_ret
    exact ⟨_, rfl, by simp, fun _ => rfl, cleanN_lt hx, w.drawn, rfl⟩
  | true =>
    have ha : floatBits .add .f64 0 x = none := (nan_ops hn 0).1
    obtain ⟨z1, a1, a2, a3⟩ := run_add_nan (P := Try.prog) w 24 _ _ ha
    have hd : floatBits .quo .f64 z1 (floatOfInt .f64 1) = none := (nan_ops a1 _).2.2
    obtain ⟨z2, b1, b2, b3⟩ := run_quo_nan (P := Try.prog) w.drew 24 _ _ hd
    go_enter Try.func12, Try.ntmps12
    go_wp2
    refine wp_loop_rounds 2 ?_
    rw [rounds_succ]
    go_wp2
    rw [rounds_succ]
    go_wp2
    go_ret
    exact ⟨z2, rfl, fun _ => b1, by simp, b2, w.drawn + 1 + 1, rfl⟩

/-! ### a float against itself -/

theorem rank_calls (x : Nat) (hx : x < 18446744073709551616) (w : World) :
    Calls Try.prog 18 #[.float .f64 x] w fun e w' => e = .returned (.int .i64 (if isNanN x then 1 else 0)) ∧ w' = w := by
  cases hn : isNanN x with
  | true =>
    go_enter Try.func18, Try.ntmps18
    go_wp2_with (go_at_call 9; refine (isnan_calls _ (by assumption) _).mono ?_; rw [hn]; rintro e w' ⟨rfl, rfl⟩)
    go_ret
    exact ⟨rfl, rfl⟩
  | false =>
    go_enter Try.func18, Try.ntmps18
    go_wp2_with (go_at_call 9; refine (isnan_calls _ (by assumption) _).mono ?_; rw [hn]; rintro e w' ⟨rfl, rfl⟩)
    go_ret
    exact ⟨rfl, rfl⟩

theorem cmp_int_self (n : Int) (w : World) : Calls Try.prog 19 #[.int .i64 n, .int .i64 n] w fun e w' => e = .returned (.int .i64 0) ∧ w' = w := by
  go_enter Try.func19, Try.ntmps19
  go_wp2
  go_ret
  exact ⟨rfl, rfl⟩

theorem cmp_float_self (x : Nat) (hx : x < 18446744073709551616) (hn : isNanN x = false) (w : World) : Calls Try.prog 21 #[.float .f64 x, .float .f64 x] w fun e w' => e = .returned (.int .i64 0) ∧ w' = w := by
  have ho : FloatKind.f64.format.order x x = some .eq := by rw [f64_double, order_self hx, hn]; rfl
  go_enter Try.func21, Try.ntmps21
  go_wp2
  go_ret
  exact ⟨rfl, rfl⟩

theorem sign_calls (x : Nat) (w : World) : Calls Try.prog 22 #[.float .f64 x] w fun e w' => e = .returned (.int .i64 (if wrap64 x < 0 then 0 else 1)) ∧ w' = w := by
  have hb := bits_of
  by_cases h : wrap64 x < 0
  · rw [if_pos h]
    go_enter Try.func22, Try.ntmps22
    go_wp2
    go_ret
    exact ⟨rfl, rfl⟩
  · rw [if_neg h]
    go_enter Try.func22, Try.ntmps22
    go_wp2
    go_ret
    exact ⟨rfl, rfl⟩

theorem or_zero (g cap : Nat) (w : World) (h0 : w.cell? ⟨g, 0, none⟩ = some (.int .i64 0)) (h1 : w.cell? ⟨g, 1, none⟩ = some (.int .i64 0)) :
    Calls Try.prog 20 #[.slice (some ⟨g, 0, none⟩) 2 cap] w fun e w' => e = .returned (.int .i64 0) ∧ w' = w := by
  go_enter Try.func20, Try.ntmps20
  go_wp2
  refine wp_loop_rounds 3 ?_
  rw [rounds_succ]
  go_wp2
  rw [rounds_succ]
  go_wp2
  rw [rounds_succ]
  go_wp2
  go_ret
  exact ⟨rfl, rfl⟩

theorem cell_new (w : World) (cs : Array Value) (t : TypeId) (i : Nat) : (w.alloc (.cells cs t)).cell? ⟨w.heap.size, i, none⟩ = cs[i]? := by
  have := (Go.MapKept.heap_alloc w (.cells cs t)).1
  simp only [World.cell?, this]
  simp

theorem cmp_self (x : Nat) (hx : x < 18446744073709551616) (w : World) : Calls Try.prog 14 #[.float .f64 x, .float .f64 x] w fun e w' => e = .returned (.int .i64 0) ∧ Below w.heap.size w w' := by
  cases hn : isNanN x with
  | true =>
    go_enter Try.func14, Try.ntmps14
    go_wp2_with (first | (go_at_call 18; refine (rank_calls _ (by assumption) _).mono ?_; rw [hn]; rintro e w' ⟨rfl, rfl⟩) | (go_at_call 19; refine (cmp_int_self _ _).mono ?_; rintro e w' ⟨rfl, rfl⟩))
    go_ret
    exact ⟨rfl, Below.refl _ _⟩
  | false =>
    go_enter Try.func14, Try.ntmps14
    go_wp2_with (first | (go_at_call 18; refine (rank_calls _ (by assumption) _).mono ?_; rw [hn]; rintro e w' ⟨rfl, rfl⟩) | (go_at_call 19; refine (cmp_int_self _ _).mono ?_; rintro e w' ⟨rfl, rfl⟩) | (go_at_call 21; refine (cmp_float_self _ (by assumption) hn _).mono ?_; rintro e w' ⟨rfl, rfl⟩) | (go_at_call 22; refine (sign_calls _ _).mono ?_; rintro e w' ⟨rfl, rfl⟩) | (go_at_call 20; refine (or_zero _ _ _ (cell_new _ _ _ _) (cell_new _ _ _ _)).mono ?_; rintro e w'' ⟨rfl, rfl⟩))
    all_goals go_ret
    all_goals exact ⟨rfl, (Below.refl _ _).alloc (Nat.le_refl _) _⟩

/-! ### the law -/

theorem int_flt (n : Nat) : floatOfInt .f64 (n : Int) = flt n := nearest_nat n

theorem share_calls (a b : Nat) (ha : a < 18446744073709551616) (hb : b < 18446744073709551616) (w : World) :
    Calls Try.prog 8 #[.int .u64 a, .int .u64 b] w fun e w' => ∃ s, e = .returned (.float .f64 s) ∧ s < 18446744073709551616 ∧ isNanN s = (decide (a = 0) && decide (b = 0)) ∧
      (FloatKind.f64.format.order s 9218868437227405311 == some .gt) = (decide (0 < a) && decide (b = 0)) ∧
      (a ≤ b → 0 < b → (FloatKind.f64.format.order s 0 == some .gt || FloatKind.f64.format.order s 0 == some .eq) = true ∧ (FloatKind.f64.format.order s 4607182418800017408 == some .lt || FloatKind.f64.format.order s 4607182418800017408 == some .eq) = true) ∧
      Below w.heap.size w w' := by
  rcases Nat.eq_zero_or_pos b with rfl | hb0
  · rcases Nat.eq_zero_or_pos a with rfl | ha0
    · refine (share_nan _ _ w (by rw [int_flt]; exact share_none)).mono ?_
      rintro e w' ⟨z, rfl, h1, h2, rfl⟩
      refine ⟨z, rfl, h2, by simp [h1], ?_, fun _ h => absurd h (by decide), below_drawn w _⟩
      rw [f64_double, (nan_order h1 _).1]; rfl
    · refine (share_some _ _ _ w (by rw [int_flt, int_flt]; exact share_inf ha ha0)).mono ?_
      rintro e w' ⟨rfl, rfl⟩
      refine ⟨_, rfl, by decide, ?_, ?_, fun _ h => absurd h (by decide), Below.refl _ _⟩
      · rw [not_nan (Nat.le_refl _)]; simp; omega
      · rw [f64_double, order_word (Nat.le_refl _) (by decide)]
        simp only [decide_eq_true ha0]
        decide
  · obtain ⟨r, h1, h2, h3⟩ := share_fin ha hb hb0
    refine (share_some _ _ _ w (by rw [int_flt, int_flt]; exact h1)).mono ?_
    rintro e w' ⟨rfl, rfl⟩
    have hb1 : b ≠ 0 := by omega
    refine ⟨r, rfl, by omega, ?_, ?_, fun hab _ => ?_, Below.refl _ _⟩
    · rw [not_nan (Nat.le_of_lt h2)]; simp [hb1]
    · rw [f64_double, order_word (Nat.le_of_lt h2) (by decide)]
      have : compare r 9218868437227405311 ≠ .gt := fun h => by have := Nat.compare_eq_gt.1 h; omega
      simp [hb1, this]
    · have h4 := h3 hab
      rw [f64_double, order_word (Nat.le_of_lt h2) (by decide), order_word (Nat.le_of_lt h2) (by decide)]
      refine ⟨?_, ?_⟩
      · rcases Nat.eq_zero_or_pos r with rfl | hr
        · decide
        · rw [Nat.compare_eq_gt.2 hr]; rfl
      · rcases Nat.lt_or_eq_of_le h4 with hr | rfl
        · rw [Nat.compare_eq_lt.2 hr]; rfl
        · decide

theorem same_mean (x z : Nat) (hx : x < 18446744073709551616) (h1 : isNanN x = true → isNanN z = true) (h2 : isNanN x = false → z = cleanN x) (w : World) :
    Calls Try.prog 11 #[.float .f64 z, .float .f64 (cleanN x)] w fun e w' => e = .returned (.bool true) ∧ w' = w := by
  cases hn : isNanN x with
  | true => exact same_nan z (cleanN x) (h1 hn) ((clean_nan x).trans hn) w
  | false =>
    rw [h2 hn]
    exact same_self (cleanN x) (cleanN_lt hx) ((clean_nan x).trans hn) w


end Go.Proofs.Ytlklhmahlcfnhaa.shares
