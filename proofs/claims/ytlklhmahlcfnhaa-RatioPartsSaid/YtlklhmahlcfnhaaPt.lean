/- What 'ratio.Part' and 'math.Float64frombits' hand back, at whatever arguments. Conditions: none but that the arguments fit their kinds. -/
import Derived.Test.YtlklhmahlcfnhaaFl
import Derived.Test.YtlklhmahlcfnhaaAw
import Derived.WalkKit
import Derived.ProofKit
import Derived.OpenShut
namespace Go.Proofs.Ytlklhmahlcfnhaa
open Go.ChangeShapes Go.WideShapes Go.ChangeAt Go.RowKit Go.Eng

theorem part0 (n : Int) (x : Nat) (w : World) (h1 : (FloatKind.f64.format.order x 0 == some .gt) = false) :
    Calls Try.prog 7 #[.int .u64 n, .float .f64 x] w fun e w' => e = .returned (.int .u64 0) ∧ w' = w := by
  go_enter Try.func7, Try.ntmps7
  go_wp2
  go_ret
  exact ⟨rfl, rfl⟩

theorem part1 (n : Int) (x : Nat) (w : World) (h1 : (FloatKind.f64.format.order x 0 == some .gt) = true) (h2 : (FloatKind.f64.format.order x 4607182418800017408 == some .gt || FloatKind.f64.format.order x 4607182418800017408 == some .eq) = true) :
    Calls Try.prog 7 #[.int .u64 n, .float .f64 x] w fun e w' => e = .returned (.int .u64 n) ∧ w' = w := by
  go_enter Try.func7, Try.ntmps7
  go_wp2
  go_ret
  exact ⟨rfl, rfl⟩

theorem part2 (n : Int) (x r : Nat) (w : World) (h1 : (FloatKind.f64.format.order x 0 == some .gt) = true) (h2 : (FloatKind.f64.format.order x 4607182418800017408 == some .gt || FloatKind.f64.format.order x 4607182418800017408 == some .eq) = false)
    (hm : floatBits .mul .f64 (floatOfInt .f64 n) x = some r) (h3 : (FloatKind.f64.format.order r 4895412794951729152 == some .gt || FloatKind.f64.format.order r 4895412794951729152 == some .eq) = true) :
    Calls Try.prog 7 #[.int .u64 n, .float .f64 x] w fun e w' => e = .returned (.int .u64 n) ∧ w' = w := by
  have hmul := fun w => run_float_arith (P := Try.prog) w .mul 24 .f64 _ _ _ hm
  go_enter Try.func7, Try.ntmps7
  go_wp2
  go_ret
  exact ⟨rfl, rfl⟩

theorem part3 (n k : Int) (x r : Nat) (w : World) (h1 : (FloatKind.f64.format.order x 0 == some .gt) = true) (h2 : (FloatKind.f64.format.order x 4607182418800017408 == some .gt || FloatKind.f64.format.order x 4607182418800017408 == some .eq) = false)
    (hm : floatBits .mul .f64 (floatOfInt .f64 n) x = some r) (h3 : (FloatKind.f64.format.order r 4895412794951729152 == some .gt || FloatKind.f64.format.order r 4895412794951729152 == some .eq) = false)
    (hk : floatToIntVal .f64 r .u64 = some k) :
    Calls Try.prog 7 #[.int .u64 n, .float .f64 x] w fun e w' => e = .returned (.int .u64 (min n k)) ∧ w' = w := by
  have hmul := fun w => run_float_arith (P := Try.prog) w .mul 24 .f64 _ _ _ hm
  have hcv := fun w => run_convert_float_int (P := Try.prog) w 24 22 .f64 .u64 r k (by kernel_rfl) Try.underlying22 hk
  go_enter Try.func7, Try.ntmps7
  go_wp2
  · go_ret
    refine ⟨?_, rfl⟩
    show Ending.returned (Value.int .u64 k) = _
    congr 2
    omega
  · go_ret
    refine ⟨?_, rfl⟩
    show Ending.returned (Value.int .u64 n) = _
    congr 2
    omega

theorem part_calls (n x : Nat) (hn : n < 18446744073709551616) (hx : x < 18446744073709551616) (w : World) :
    Calls Try.prog 7 #[.int .u64 (n : Int), .float .f64 x] w fun e w' => e = .returned (.int .u64 (partN n x : Int)) ∧ w' = w := by
  unfold partN
  by_cases h : Ieee.double.order x 0 = some .gt
  · have h1 : (FloatKind.f64.format.order x 0 == some .gt) = true := by rw [show FloatKind.f64.format = Ieee.double from rfl, h]; rfl
    have ho := order_one hx h
    rw [if_pos h]
    by_cases g : 4607182418800017408 ≤ x
    · rw [if_pos g]
      rw [decide_eq_true g] at ho
      exact part1 n x w h1 ho
    · rw [if_neg g]
      rw [decide_eq_false g] at ho
      have hm := mul_flt hn (x := x) (by omega)
      have ht : (FloatKind.f64.format.order (prd n x) 4895412794951729152 == some .gt || FloatKind.f64.format.order (prd n x) 4895412794951729152 == some .eq) = decide (4895412794951729152 ≤ prd n x) := order_two
      by_cases k : 4895412794951729152 ≤ prd n x
      · rw [if_pos k]
        rw [decide_eq_true k] at ht
        exact part2 n x _ w h1 ho hm ht
      · rw [if_neg k]
        rw [decide_eq_false k] at ht
        have hk := int_of (x := prd n x) (by omega)
        have := part3 n _ x _ w h1 ho hm ht hk
        refine this.mono ?_
        rintro e w' ⟨rfl, rfl⟩
        refine ⟨?_, rfl⟩
        congr 2
        omega
  · have h1 : (FloatKind.f64.format.order x 0 == some .gt) = false := by rw [show FloatKind.f64.format = Ieee.double from rfl]; simpa using h
    rw [if_neg h]
    exact part0 n x w h1

theorem bits_calls (v : Int) (w : World) : (callFunc 6 #[.int .u64 v]).run Try.prog w = .ok (.value (.float .f64 v.toNat)) w := by
  rw [run_callFunc_extern (e := Extern.MathFloatBits.float64frombits) Try.func6 (by kernel_rfl) (by kernel_rfl) (by kernel_rfl) (by kernel_rfl)]
  rfl


end Go.Proofs.Ytlklhmahlcfnhaa
