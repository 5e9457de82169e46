/- What ratio.Cmp, the law's floats, ref.Same and slices.EqualFunc hand back, at whatever floats. Conditions: none but that words fit 64 bits. -/
import Derived.Test.YticoedgefeeikaaGreatProg
import Derived.WalkKit
import Derived.ProofKit
import Derived.OpenShut
import Derived.LoopN
import Derived.KernelRfl
import Derived.Lib.Small
import Derived.Test.YticoedgefeeikaaGreatFlB
namespace Go.Proofs.YticoedgefeeikaaGreat
open Go.ChangeShapes Go.WideShapes Go.ChangeAt Go.RowKit Go.Eng

theorem f64_double : FloatKind.f64.format = Ieee.double := rfl

theorem isnan_calls (x : Nat) (hx : x < 18446744073709551616) (w : World) :
    Calls Tryz.prog 35 #[.float .f64 x] w fun e w' => e = .returned (.bool (isNanN x)) ∧ w' = w := by
  have ho := order_self hx
  rw [← f64_double] at ho
  cases hn : isNanN x with
  | true =>
    have ho : FloatKind.f64.format.order x x = none := by rw [ho, hn]; rfl
    go_enter Tryz.func35, Tryz.ntmps35
    go_wp2
    go_ret
    exact ⟨by simp, rfl⟩
  | false =>
    have ho : FloatKind.f64.format.order x x = some .eq := by rw [ho, hn]; rfl
    go_enter Tryz.func35, Tryz.ntmps35
    go_wp2
    go_ret
    exact ⟨by simp, rfl⟩

def rankI (x : Nat) : Int := if isNanN x then 1 else 0

theorem rank_calls (x : Nat) (hx : x < 18446744073709551616) (w : World) :
    Calls Tryz.prog 18 #[.float .f64 x] w fun e w' => e = .returned (.int .i64 (rankI x)) ∧ w' = w := by
  unfold rankI
  cases hn : isNanN x with
  | true =>
    go_enter Tryz.func18, Tryz.ntmps18
    go_wp2_with (go_at_call 35; refine (isnan_calls _ (by assumption) _).mono ?_; rw [hn]; rintro e w' ⟨rfl, rfl⟩)
    go_ret
    exact ⟨rfl, rfl⟩
  | false =>
    go_enter Tryz.func18, Tryz.ntmps18
    go_wp2_with (go_at_call 35; refine (isnan_calls _ (by assumption) _).mono ?_; rw [hn]; rintro e w' ⟨rfl, rfl⟩)
    go_ret
    exact ⟨rfl, rfl⟩

theorem cmp_int (n m : Int) (w : World) : Calls Tryz.prog 19 #[.int .i64 n, .int .i64 m] w fun e w' => e = .returned (.int .i64 (Lib.compareInt n m)) ∧ w' = w := by
  unfold Lib.compareInt
  by_cases h : n < m
  · rw [if_pos h]
    go_enter Tryz.func19, Tryz.ntmps19
    go_wp2
    go_ret
    exact ⟨rfl, rfl⟩
  · rw [if_neg h]
    by_cases g : m < n
    · rw [if_pos g]
      go_enter Tryz.func19, Tryz.ntmps19
      go_wp2
      go_ret
      exact ⟨rfl, rfl⟩
    · rw [if_neg g]
      go_enter Tryz.func19, Tryz.ntmps19
      go_wp2
      go_ret
      exact ⟨rfl, rfl⟩

theorem cmp_float_lt (x y : Nat) (hx : FloatKind.f64.format.order x x = some .eq) (hy : FloatKind.f64.format.order y y = some .eq) (h : FloatKind.f64.format.order x y = some .lt) (w : World) : Calls Tryz.prog 21 #[.float .f64 x, .float .f64 y] w fun e w' => e = .returned (.int .i64 (-1)) ∧ w' = w := by
  go_enter Tryz.func21, Tryz.ntmps21
  go_wp2
  go_ret
  exact ⟨rfl, rfl⟩
theorem cmp_float_gt (x y : Nat) (hx : FloatKind.f64.format.order x x = some .eq) (hy : FloatKind.f64.format.order y y = some .eq) (h : FloatKind.f64.format.order x y = some .gt) (w : World) : Calls Tryz.prog 21 #[.float .f64 x, .float .f64 y] w fun e w' => e = .returned (.int .i64 1) ∧ w' = w := by
  go_enter Tryz.func21, Tryz.ntmps21
  go_wp2
  go_ret
  exact ⟨rfl, rfl⟩
theorem cmp_float_eq (x y : Nat) (hx : FloatKind.f64.format.order x x = some .eq) (hy : FloatKind.f64.format.order y y = some .eq) (h : FloatKind.f64.format.order x y = some .eq) (w : World) : Calls Tryz.prog 21 #[.float .f64 x, .float .f64 y] w fun e w' => e = .returned (.int .i64 0) ∧ w' = w := by
  go_enter Tryz.func21, Tryz.ntmps21
  go_wp2
  go_ret
  exact ⟨rfl, rfl⟩

theorem cmp_float (x y : Nat) (hx : x < 18446744073709551616) (hy : y < 18446744073709551616) (nx : isNanN x = false) (ny : isNanN y = false) (w : World) :
    Calls Tryz.prog 21 #[.float .f64 x, .float .f64 y] w fun e w' => e = .returned (.int .i64 (Lib.compareInt (ordN x) (ordN y))) ∧ w' = w := by
  have h1 : FloatKind.f64.format.order x x = some .eq := by rw [f64_double, order_self hx, nx]; rfl
  have h2 : FloatKind.f64.format.order y y = some .eq := by rw [f64_double, order_self hy, ny]; rfl
  have h3 := order_all hx hy nx ny
  rw [← f64_double] at h3
  unfold Lib.compareInt
  rcases Int.lt_trichotomy (ordN x) (ordN y) with h | h | h
  · rw [if_pos h]
    rw [compare_lt h] at h3
    exact cmp_float_lt x y h1 h2 h3 w
  · rw [if_neg (by omega), if_neg (by omega)]
    rw [h, show compare (ordN y) (ordN y) = .eq from by simp [compare, compareOfLessAndEq]] at h3
    exact cmp_float_eq x y h1 h2 h3 w
  · rw [if_neg (by omega), if_pos h]
    rw [compare_gt h] at h3
    exact cmp_float_gt x y h1 h2 h3 w

theorem bits_of (x : Nat) (w : World) : (callFunc 23 #[.float .f64 x]).run Tryz.prog w = .ok (.value (.int .u64 x)) w := by
  rw [run_callFunc_extern (e := Extern.MathFloatBits.float64bits) Tryz.func23 (by kernel_rfl) (by kernel_rfl) (by kernel_rfl) (by kernel_rfl)]
  rfl

def sgnN (x : Nat) : Int := if x < 9223372036854775808 then 1 else 0

theorem sign_calls (x : Nat) (hx : x < 18446744073709551616) (w : World) : Calls Tryz.prog 22 #[.float .f64 x] w fun e w' => e = .returned (.int .i64 (sgnN x)) ∧ w' = w := by
  have hb := bits_of
  have hw : wrap64 x < 0 ↔ ¬ x < 9223372036854775808 := by unfold wrap64; omega
  unfold sgnN
  by_cases h : wrap64 x < 0
  · rw [if_neg (hw.1 h)]
    clear hw hx
    go_enter Tryz.func22, Tryz.ntmps22
    go_wp2
    go_ret
    exact ⟨rfl, rfl⟩
  · rw [if_pos (by by_cases g : x < 9223372036854775808; exact g; exact absurd (hw.2 g) h)]
    clear hw hx
    go_enter Tryz.func22, Tryz.ntmps22
    go_wp2
    go_ret
    exact ⟨rfl, rfl⟩

theorem or_calls (a b : Int) (g cap : Nat) (w : World) (h0 : w.cell? ⟨g, 0, none⟩ = some (.int .i64 a)) (h1 : w.cell? ⟨g, 1, none⟩ = some (.int .i64 b)) :
    Calls Tryz.prog 20 #[.slice (some ⟨g, 0, none⟩) 2 cap] w fun e w' => e = .returned (.int .i64 (if a = 0 then b else a)) ∧ w' = w := by
  by_cases ha : a = 0
  · subst ha
    rw [if_pos rfl]
    by_cases hb : b = 0
    · subst hb
      go_enter Tryz.func20, Tryz.ntmps20
      go_wp2
      refine wp_loop_rounds 3 ?_
      rw [rounds_succ]
      go_wp2
      rw [rounds_succ]
      go_wp2
      rw [rounds_succ]
      go_wp2
      go_ret
      exact ⟨rfl, rfl⟩
    · have hb' : (b == 0) = false := by simpa using hb
      go_enter Tryz.func20, Tryz.ntmps20
      go_wp2
      refine wp_loop_rounds 3 ?_
      rw [rounds_succ]
      go_wp2
      rw [rounds_succ]
      go_wp2
      go_ret
      exact ⟨rfl, rfl⟩
  · rw [if_neg ha]
    have ha' : (a == 0) = false := by simpa using ha
    go_enter Tryz.func20, Tryz.ntmps20
    go_wp2
    refine wp_loop_rounds 3 ?_
    rw [rounds_succ]
    go_wp2
    go_ret
    exact ⟨rfl, rfl⟩

theorem cell_new (w : World) (cs : Array Value) (t : TypeId) (i : Nat) : (w.alloc (.cells cs t)).cell? ⟨w.heap.size, i, none⟩ = cs[i]? := by
  have := (Go.MapKept.heap_alloc w (.cells cs t)).1
  simp only [World.cell?, this]
  simp

/-- What ratio.Cmp answers. -/
def cmpI (x y : Nat) : Int := Lib.compareInt (keyN x) (keyN y)

theorem compareInt_lt {x y : Int} (h : x < y) : Lib.compareInt x y = -1 := by unfold Lib.compareInt; rw [if_pos h]
theorem compareInt_gt {x y : Int} (h : y < x) : Lib.compareInt x y = 1 := by unfold Lib.compareInt; rw [if_neg (by omega), if_pos h]
theorem compareInt_eq {x y : Int} (h : x = y) : Lib.compareInt x y = 0 := by unfold Lib.compareInt; rw [if_neg (by omega), if_neg (by omega)]

theorem sgnN_bound (x : Nat) : 0 ≤ sgnN x ∧ sgnN x ≤ 1 := by unfold sgnN; split <;> omega
theorem keyN_num {x : Nat} (nx : isNanN x = false) : keyN x = 2 * ordN x + sgnN x := by unfold keyN sgnN; rw [nx]; simp

theorem cmpI_num {x y : Nat} (nx : isNanN x = false) (ny : isNanN y = false) :
    cmpI x y = if Lib.compareInt (ordN x) (ordN y) = 0 then Lib.compareInt (sgnN x) (sgnN y) else Lib.compareInt (ordN x) (ordN y) := by
  have sx := sgnN_bound x
  have sy := sgnN_bound y
  unfold cmpI
  rw [keyN_num nx, keyN_num ny]
  rcases Int.lt_trichotomy (ordN x) (ordN y) with h | h | h
  · rw [compareInt_lt h, compareInt_lt (by omega), if_neg (by decide)]
  · rw [compareInt_eq h, if_pos rfl]
    rcases Int.lt_trichotomy (sgnN x) (sgnN y) with g | g | g
    · rw [compareInt_lt g, compareInt_lt (by omega)]
    · rw [compareInt_eq g, compareInt_eq (by omega)]
    · rw [compareInt_gt g, compareInt_gt (by omega)]
  · rw [compareInt_gt h, compareInt_gt (by omega), if_neg (by decide)]

theorem cmpI_nan {x y : Nat} (hx : x < 18446744073709551616) (hy : y < 18446744073709551616) (h : 0 < rankI x + rankI y) : cmpI x y = Lib.compareInt (rankI x) (rankI y) := by
  have bx := ordN_bound hx
  have by' := ordN_bound hy
  have sx := sgnN_bound x
  have sy := sgnN_bound y
  unfold cmpI
  unfold rankI at h ⊢
  cases nx : isNanN x <;> cases ny : isNanN y
  · rw [nx, ny] at h; simp at h
  · rw [keyN_num nx]; unfold keyN; rw [ny]; simp only [Bool.false_eq_true, if_false, if_true]; rw [compareInt_lt (by omega), compareInt_lt (by omega)]
  · rw [keyN_num ny]; unfold keyN; rw [nx]; simp only [Bool.false_eq_true, if_false, if_true]; rw [compareInt_gt (by omega), compareInt_gt (by omega)]
  · unfold keyN; rw [nx, ny]; simp only [if_true]; rw [compareInt_eq rfl, compareInt_eq rfl]

theorem rankI_num {x : Nat} (h : isNanN x = false) : rankI x = 0 := by unfold rankI; rw [h]; rfl
theorem rankI_nan {x : Nat} (h : isNanN x = true) : rankI x = 1 := by unfold rankI; rw [h]; rfl

theorem cmp_nan {x y : Nat} (hx : x < 18446744073709551616) (hy : y < 18446744073709551616) (a b : Int) (ha : rankI x = a) (hb : rankI y = b) (h : 0 < a + b) (h1 : a ≤ 1) (h2 : b ≤ 1) (h3 : 0 ≤ a) (h4 : 0 ≤ b) (w : World) :
    Calls Tryz.prog 9 #[.float .f64 x, .float .f64 y] w fun e w' => e = .returned (.int .i64 (Lib.compareInt a b)) ∧ w' = w := by
  have r1 := fun w => rank_calls x hx w
  have r2 := fun w => rank_calls y hy w
  rw [ha] at r1
  rw [hb] at r2
  have c := fun w => cmp_int a b w
  generalize Lib.compareInt a b = r at c ⊢
  clear ha hb
  go_enter Tryz.func9, Tryz.ntmps9
  go_wp2_with (first | (go_at_call 18; with_reducible refine (r1 _).mono ?_; rintro e w' ⟨rfl, rfl⟩) | (go_at_call 18; with_reducible refine (r2 _).mono ?_; rintro e w' ⟨rfl, rfl⟩) | (go_at_call 19; refine (c _).mono ?_; rintro e w' ⟨rfl, rfl⟩))
  go_ret
  exact ⟨rfl, rfl⟩

theorem cmp_num {x y : Nat} (hx : x < 18446744073709551616) (hy : y < 18446744073709551616) (nx : isNanN x = false) (ny : isNanN y = false) (w : World) :
    Calls Tryz.prog 9 #[.float .f64 x, .float .f64 y] w fun e w' => e = .returned (.int .i64 (cmpI x y)) ∧ ∃ o, w' = w.alloc o := by
  rw [cmpI_num nx ny]
  have r1 := fun w => rank_calls x hx w
  have r2 := fun w => rank_calls y hy w
  rw [rankI_num nx] at r1
  rw [rankI_num ny] at r2
  have c1 := fun w => cmp_float x y hx hy nx ny w
  have s1 := fun w => sign_calls x hx w
  have s2 := fun w => sign_calls y hy w
  have c2 := fun w => cmp_int (sgnN x) (sgnN y) w
  generalize Lib.compareInt (ordN x) (ordN y) = r at c1 ⊢
  generalize Lib.compareInt (sgnN x) (sgnN y) = t at c2 ⊢
  generalize sgnN x = sx at s1 c2
  generalize sgnN y = sy at s2 c2
  clear nx ny
  go_enter Tryz.func9, Tryz.ntmps9
  go_wp2_with (first | (go_at_call 18; with_reducible refine (r1 _).mono ?_; rintro e w' ⟨rfl, rfl⟩) | (go_at_call 18; with_reducible refine (r2 _).mono ?_; rintro e w' ⟨rfl, rfl⟩) | (go_at_call 19; refine (c2 _).mono ?_; rintro e w' ⟨rfl, rfl⟩) | (go_at_call 21; refine (c1 _).mono ?_; rintro e w' ⟨rfl, rfl⟩) | (go_at_call 22; with_reducible refine (s1 _).mono ?_; rintro e w' ⟨rfl, rfl⟩) | (go_at_call 22; with_reducible refine (s2 _).mono ?_; rintro e w' ⟨rfl, rfl⟩) | (go_at_call 20; refine (or_calls r t _ _ _ (cell_new _ _ _ _) (cell_new _ _ _ _)).mono ?_; rintro e w'' ⟨rfl, rfl⟩))
  all_goals go_ret
  all_goals exact ⟨rfl, _, rfl⟩

theorem cmp_calls {x y : Nat} (hx : x < 18446744073709551616) (hy : y < 18446744073709551616) (w : World) :
    Calls Tryz.prog 9 #[.float .f64 x, .float .f64 y] w fun e w' => e = .returned (.int .i64 (cmpI x y)) ∧ (w' = w ∨ ∃ o, w' = w.alloc o) := by
  cases nx : isNanN x with
  | true =>
    have r1 := rankI_nan nx
    cases ny : isNanN y with
    | true =>
      have r2 := rankI_nan ny
      refine (cmp_nan hx hy 1 1 r1 r2 (by decide) (by decide) (by decide) (by decide) (by decide) w).mono fun e w' h => ⟨?_, .inl h.2⟩
      rw [h.1, cmpI_nan hx hy (by omega), r1, r2]
    | false =>
      have r2 := rankI_num ny
      refine (cmp_nan hx hy 1 0 r1 r2 (by decide) (by decide) (by decide) (by decide) (by decide) w).mono fun e w' h => ⟨?_, .inl h.2⟩
      rw [h.1, cmpI_nan hx hy (by omega), r1, r2]
  | false =>
    have r1 := rankI_num nx
    cases ny : isNanN y with
    | true =>
      have r2 := rankI_nan ny
      refine (cmp_nan hx hy 0 1 r1 r2 (by decide) (by decide) (by decide) (by decide) (by decide) w).mono fun e w' h => ⟨?_, .inl h.2⟩
      rw [h.1, cmpI_nan hx hy (by omega), r1, r2]
    | false => exact (cmp_num hx hy nx ny w).mono fun e w' h => ⟨h.1, .inr h.2⟩

end Go.Proofs.YticoedgefeeikaaGreat

namespace Go.Proofs.YticoedgefeeikaaGreat
open Go.ChangeShapes Go.WideShapes Go.ChangeAt Go.RowKit Go.Eng

theorem frombits_of (v : Int) (w : World) : (callFunc 15 #[.int .u64 v]).run Tryz.prog w = .ok (.value (.float .f64 v.toNat)) w := by
  rw [run_callFunc_extern (e := Extern.MathFloatBits.float64frombits) Tryz.func15 (by kernel_rfl) (by kernel_rfl) (by kernel_rfl) (by kernel_rfl)]
  rfl

def fl (z : Int) : Value := .float .f64 z.toNat

theorem info27 : (Tryz.prog.info? 27).map (fun i => (i.zero, i.size, i.bytes)) = some (some (.float .f64 0), 1, 8) := by kernel_rfl

set_option maxHeartbeats 1600000 in
set_option maxRecDepth 1000000 in
theorem floats_calls (b off n c : Nat) (zs : List Int) (w : World) (hz : n ≤ zs.length) (hn : n ≤ 60) (hb : b < w.heap.size)
    (hc : ∀ j, j < zs.length → w.cell? ⟨b, off + j, none⟩ = some (.int .u64 (zs.getD j 0))) :
    Calls Tryz.prog 5 #[.slice (some ⟨b, off, none⟩) n c] w fun e w' =>
      ∃ v, e = .returned v ∧ w'.ownsRow w.heap.size 27 1 v n ((zs.take n).map fl) ∧ Below w.heap.size w w' := by
  have hfb := frombits_of
  obtain ⟨i0, hi, hz0, hz1, hz2⟩ := info_parts info27
  obtain ⟨B, hB⟩ : ∃ B, B = w.heap.size := ⟨_, rfl⟩
  rw [← hB] at hb ⊢
  have hBl : B ≤ w.heap.size := Nat.le_of_eq hB
  clear hB
  go_enter Tryz.func5, Tryz.ntmps5
  go_wp2
  go_loopw [3, 8] (fun v i wr => ∃ k : Nat, k ≤ n ∧ i = .int .i64 k ∧ wr.ownsRow B 27 1 v k ((zs.take k).map fl) ∧ Below B w wr)
    (fun _ i _ => n - (intOf i).toNat)
  case atStart => exact ⟨0, Nat.zero_le _, rfl, World.ownsRow_nil _ _ _ _, Below.refl _ _⟩
  case round =>
    obtain ⟨k, hk, rfl, hown, hnx⟩ := hrel
    have hcx : k < n → wr.cell? ⟨b, off + k, none⟩ = some (.int .u64 (zs.getD k 0)) := fun _ => (hnx.cell (by exact hb)).trans (hc k (by omega))
    go_wp2_with (at_builtin; refine wpList_append_own _ rfl _ _ 24 rfl B 27 i0 (.float .f64 0) 1 8 Tryz.underlying24 hi hz0 hz1 hz2 rfl (by decide) _ _ _ rfl (hown.alloc _) ⟨wr.heap.size, 0, none⟩ 1 1 [fl (zs.getD k 0)] rfl rfl ?c1 ?c2 ?c3 ?c4 ?c5 ?_)
    case c1 =>
      intro j u hj
      match j, hj with
      | 0, hj => simp at hj; subst hj; simp [Addr.add, fl]
    case c2 => intro u hu; simp at hu; subst hu; rfl
    case c3 => unfold maxLen; omega
    case c4 => omega
    case c5 => have := hnx.size; simp; omega
    · intro v' w1 hown' hgrow _
      have hlt : k < n := by assumption
      have e1 : (zs.take (k + 1)).map fl = (zs.take k).map fl ++ [fl (zs.getD k 0)] := by
        rw [List.take_add_one, List.map_append]
        have : zs[k]? = some (zs.getD k 0) := by rw [List.getD_eq_getElem?_getD, List.getElem?_eq_getElem (by omega)]; rfl
        rw [this]; rfl
      have hown2 : w1.ownsRow B 27 1 v' (k + 1) ((zs.take (k + 1)).map fl) := by
        have e := e1
        simp only [List.map_take, List.getD_eq_getElem?_getD] at e ⊢
        rw [e]; exact hown'
      clear hown'
      have hbl : Below B w w1 := (hnx.alloc (by have := hnx.size; omega) _).grown hgrow (by have := hnx.size; simp; omega) (by
        intro j hj
        rcases hown.2 with ⟨rfl, _⟩ | ⟨g, cap, cur, rfl, hbg, _⟩
        · simp [Value.ownBlock] at hj
        · simp [Value.ownBlock] at hj; omega)
      clear hgrow hown hcx e1
      go_wp2
      go_roundw
      case rel => exact ⟨k + 1, by omega, by simp, hown2, hbl⟩
      case measure => simp [intOf]; omega
    · have hge : ¬ k < n := by assumption
      have hkl : k = n := by omega
      subst hkl
      go_ret
      exact ⟨_, rfl, hown, hnx⟩

theorem same_true (x y : Nat) (hx : x < 18446744073709551616) (hy : y < 18446744073709551616) (h : keyN x = keyN y) (w : World) :
    Calls Tryz.prog 11 #[.float .f64 x, .float .f64 y] w fun e w' => e = .returned (.bool true) ∧ w' = w := by
  have two : ∀ x y, isNanN x = true → isNanN y = true → Calls Tryz.prog 11 #[.float .f64 x, .float .f64 y] w fun e w' => e = .returned (.bool true) ∧ w' = w := by
    intro x y nx ny
    have h1 : FloatKind.f64.format.order x x = none := order_nan (.inl nx)
    have h2 : FloatKind.f64.format.order y y = none := order_nan (.inl ny)
    go_enter Tryz.func11, Tryz.ntmps11
    go_wp2
    go_ret
    exact ⟨by simp, rfl⟩
  rcases (keyN_inj hx hy).1 h with ⟨nx, ny⟩ | rfl
  · exact two x y nx ny
  · cases nx : isNanN x with
    | true => exact two x x nx nx
    | false =>
      have h1 : FloatKind.f64.format.order x x = some .eq := by rw [f64_double, order_self hx, nx]; rfl
      have hb := bits_of
      go_enter Tryz.func11, Tryz.ntmps11
      go_wp2
      go_ret
      exact ⟨by simp, rfl⟩

set_option maxHeartbeats 1600000 in
set_option maxRecDepth 1000000 in
theorem equal_calls (g1 g2 n c1 c2 : Nat) (X Y : Nat → Nat) (w : World) (hn : n ≤ 60)
    (h1 : ∀ j, j < n → w.cell? ⟨g1, j, none⟩ = some (.float .f64 (X j))) (h2 : ∀ j, j < n → w.cell? ⟨g2, j, none⟩ = some (.float .f64 (Y j)))
    (hx : ∀ j, X j < 18446744073709551616) (hy : ∀ j, Y j < 18446744073709551616) (h : ∀ j, j < n → keyN (X j) = keyN (Y j)) :
    Calls Tryz.prog 10 #[.slice (some ⟨g1, 0, none⟩) n c1, .slice (some ⟨g2, 0, none⟩) n c2, .func (.func 11) #[] #[]] w fun e w' => e = .returned (.bool true) ∧ w' = w := by
  have hs : ∀ k, k < n → ∀ w, Calls Tryz.prog 11 #[.float .f64 (X k), .float .f64 (Y k)] w fun e w' => e = .returned (.bool true) ∧ w' = w := fun k hk w => same_true _ _ (hx k) (hy k) (h k hk) w
  clear h hx hy
  go_enter Tryz.func10, Tryz.ntmps10
  go_wp2
  go_loop [17] (fun i => ∃ k : Nat, k ≤ n ∧ i = .int .i64 k) (fun i => n - (intOf i).toNat)
  case atStart => exact ⟨0, Nat.zero_le _, rfl⟩
  case round =>
    obtain ⟨k, hk, rfl⟩ := hrel
    by_cases hlt : k < n
    · have a1 := h1 k hlt
      have a2 := h2 k hlt
      have a3 := hs k hlt
      clear h1 h2 hs
      go_wp2_with (go_at_call 11; refine (a3 _).mono ?_; rintro e w' ⟨rfl, rfl⟩)
      go_round
      case rel => exact ⟨k + 1, by omega, by go_num⟩
      case measure => simp [intOf]; omega
    · have : k = n := by omega
      subst this
      go_wp2
      go_ret
      exact ⟨rfl, rfl⟩

end Go.Proofs.YticoedgefeeikaaGreat
