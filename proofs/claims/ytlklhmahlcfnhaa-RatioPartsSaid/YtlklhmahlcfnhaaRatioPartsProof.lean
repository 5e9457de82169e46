/- RatioParts: a part is never more than the whole; of a greater part, and of a greater whole, it is no less: the law returns true at whatever arguments. Conditions: none. -/
import Derived.Test.YtlklhmahlcfnhaaRows
import Derived.Test.YtlklhmahlcfnhaaPt
import Derived.WalkKit
import Derived.ProofKit
import Derived.OpenShut
namespace Go.Proofs.Ytlklhmahlcfnhaa.ratioParts
open Go.ChangeShapes Go.WideShapes Go.ChangeAt Go.RowKit Go.Eng

theorem own : ownKnob Try.prog.godebug = none := by kernel_rfl

theorem walk_nat (n m x y : Nat) (hn : n < 18446744073709551616) (hm : m < 18446744073709551616) (hx : x < 18446744073709551616) (hy : y < 18446744073709551616) (w : World) :
    Calls Try.prog 3 #[.int .u64 n, .int .u64 m, .int .u64 x, .int .u64 y] w fun e w' => e = .returned (.bool true) ∧ Below w.heap.size w w' := by
  have aw := awake_true w
  have hb := bits_calls
  have t1 : ¬ (partN n x : Int) > n := by have := partN_le n x; omega
  by_cases t2 : (FloatKind.f64.format.order x y == some .lt || FloatKind.f64.format.order x y == some .eq) = true
  · have hle : Ieee.double.order x y = some .lt ∨ Ieee.double.order x y = some .eq := by
      simpa [show FloatKind.f64.format = Ieee.double from rfl] using t2
    have t3 : ¬ (partN n x : Int) > (partN n y : Int) := by have := partN_part hx hy n hle; omega
    by_cases t4 : (n : Int) > m
    · go_enter Try.func3, Try.ntmps3
      go_wp2_with (first | (go_at_call 5; refine aw.mono ?_; rintro e w' ⟨rfl, hg⟩) | (go_at_call 7; refine (part_calls _ _ (by assumption) (by assumption) _).mono ?_; rintro e w' ⟨rfl, rfl⟩))
      go_ret
      exact ⟨rfl, hg⟩
    · have t5 : (partN n x : Int) ≤ (partN m x : Int) := by have := partN_whole (n := n) (m := m) (by omega) x; omega
      go_enter Try.func3, Try.ntmps3
      go_wp2_with (first | (go_at_call 5; refine aw.mono ?_; rintro e w' ⟨rfl, hg⟩) | (go_at_call 7; refine (part_calls _ _ (by assumption) (by assumption) _).mono ?_; rintro e w' ⟨rfl, rfl⟩))
      go_ret
      exact ⟨rfl, hg⟩
  · have t2 : (FloatKind.f64.format.order x y == some .lt || FloatKind.f64.format.order x y == some .eq) = false := by simpa using t2
    by_cases t4 : (n : Int) > m
    · go_enter Try.func3, Try.ntmps3
      go_wp2_with (first | (go_at_call 5; refine aw.mono ?_; rintro e w' ⟨rfl, hg⟩) | (go_at_call 7; refine (part_calls _ _ (by assumption) (by assumption) _).mono ?_; rintro e w' ⟨rfl, rfl⟩))
      go_ret
      exact ⟨rfl, hg⟩
    · have t5 : (partN n x : Int) ≤ (partN m x : Int) := by have := partN_whole (n := n) (m := m) (by omega) x; omega
      go_enter Try.func3, Try.ntmps3
      go_wp2_with (first | (go_at_call 5; refine aw.mono ?_; rintro e w' ⟨rfl, hg⟩) | (go_at_call 7; refine (part_calls _ _ (by assumption) (by assumption) _).mono ?_; rintro e w' ⟨rfl, rfl⟩))
      go_ret
      exact ⟨rfl, hg⟩

theorem of_wf {a : Int} (h : (Lit.int .u64 a).wf = true) : ∃ n : Nat, a = n ∧ n < 18446744073709551616 := by
  simp only [Lit.wf, Bool.and_eq_true, decide_eq_true_eq] at h
  have hmin : IntKind.u64.min = 0 := by decide
  have hmax : IntKind.u64.max = 18446744073709551615 := by decide
  rw [hmin, hmax] at h
  exact ⟨a.toNat, by omega, by omega⟩

theorem walk (a0 : Int) (a1 : Int) (a2 : Int) (a3 : Int) (w0 : (Lit.int .u64 a0).wf = true) (w1 : (Lit.int .u64 a1).wf = true) (w2 : (Lit.int .u64 a2).wf = true) (w3 : (Lit.int .u64 a3).wf = true) (w : World) :
    Calls Try.prog 3 #[.int .u64 a0, .int .u64 a1, .int .u64 a2, .int .u64 a3] w fun e w' => e = .returned (.bool true) ∧ Below w.heap.size w w' := by
  obtain ⟨n, rfl, hn⟩ := of_wf w0
  obtain ⟨m, rfl, hm⟩ := of_wf w1
  obtain ⟨x, rfl, hx⟩ := of_wf w2
  obtain ⟨y, rfl, hy⟩ := of_wf w3
  exact walk_nat n m x y hn hm hx hy w

/-! ### THE ROW's STEP: WRITTEN OUT: LEAVE IT -/
set_option maxRecDepth 100000 in
theorem lifted (os : Os) (started : os.Started) (H : Type) (enc : TypeId × Value → H) :
    ReturnsInHanded {} Try.checked os 3 .any (Rows.ratioPartsSpec.pre6 enc Try.prog Try.f3 Rows.ratioPartsRow.domain false) (Rows.ratioPartsSpec.post enc Try.prog Try.f3 false true false false) := by
  refine returnsInHanded_of_change (C := Try.checked) own started (by kernel_rfl) Try.func3
    (ChangeSpec.witness6 (enc := enc) (C := Try.checked) false ⟨#[], #[.int .u64 0, .int .u64 0, .int .u64 0, .int .u64 0], []⟩ 8 (by kernel_rfl) (by kernel_rfl) (by kernel_rfl) (by kernel_rfl)) ?_
  intro W base args ds gs before hval0 hW hcnd _
  have hval : ∀ (j : Nat) t v, Try.f3.params[j]? = some t → args[j]? = some v → Value.okWide Try.prog W .any base t v := hval0
  have hW' := hW
  obtain ⟨p, q, hA0, hV, rfl, hfz, hnd⟩ := hW
  have hA : DataW.TrodAll enc Try.prog W 0 (fun _ => true) true Try.f3.params.toList args.toList ds p := hA0
  rw [Try.params3] at hA hval
  obtain ⟨v0, vs0, d0, ds0, p0, q0, hargs, rfl, rfl, h0, r0⟩ := trodAll_cons hA
  obtain ⟨v1, vs1, d1, ds1, p1, q1, rfl, rfl, rfl, h1, r1⟩ := trodAll_cons r0
  obtain ⟨v2, vs2, d2, ds2, p2, q2, rfl, rfl, rfl, h2, r2⟩ := trodAll_cons r1
  obtain ⟨v3, vs3, d3, ds3, p3, q3, rfl, rfl, rfl, h3, r3⟩ := trodAll_cons r2
  obtain ⟨rfl, rfl, rfl⟩ := trodAll_nil r3
  obtain rfl : args = #[v0, v1, v2, v3] := by cases args; simp_all
  obtain ⟨rfl, rfl⟩ := trodVars_none hV
  obtain ⟨a0, rfl, rfl, rfl, w0⟩ := open_int Try.underlying22 (hval 0 22 v0 rfl rfl) h0
  obtain ⟨a1, rfl, rfl, rfl, w1⟩ := open_int Try.underlying22 (hval 1 22 v1 rfl rfl) h1
  obtain ⟨a2, rfl, rfl, rfl, w2⟩ := open_int Try.underlying22 (hval 2 22 v2 rfl rfl) h2
  obtain ⟨a3, rfl, rfl, rfl, w3⟩ := open_int Try.underlying22 (hval 3 22 v3 rfl rfl) h3
  clear hA0 hval0
  simp only [List.append_nil] at hW'
  refine (walk a0 a1 a2 a3 w0 w1 w2 w3 W).mono fun e W' ⟨he, hg⟩ => ?_
  subst he
  exact ⟨_, rfl, post_of_below (pa := []) (pv := []) hW' (fun _ _ _ => (trodAll_cons_mk (shut_bool Try.underlying4 _) trodAll_mk0)) (fun sp _ => (trodAll_cons_mk (shut_int Try.underlying22 w0) (trodAll_cons_mk (shut_int Try.underlying22 w1) (trodAll_cons_mk (shut_int Try.underlying22 w2) (trodAll_cons_mk (shut_int Try.underlying22 w3) trodAll_mk0))))) (fun _ _ => rfl) rfl
    hg (ok_one (by kernel_rfl) rfl (okWide_bool_mk Try.underlying4 _))⟩

theorem over : Rows.ratioPartsRow.holds Try.pinned (OpenSpec.ofChange Rows.ratioPartsSpec) :=
  OpenClaim.holds_of_wide 3 Try.f3 rfl rfl rfl rfl rfl rfl rfl ⟨rfl, rfl, rfl, rfl, rfl⟩ rfl rfl rfl rfl rfl (by kernel_rfl) Try.func3 (by kernel_rfl)
    (of_decide_eq_true (by kernel_rfl)) (by unfold Func.isWrapper; first | (rw [if_pos (by decide +kernel)]; kernel_rfl) | (rw [if_neg (by decide +kernel)]; exact ⟨rfl, rfl⟩))
    (fun os started H enc _ => lifted os started H enc)

/-- ████ THE STATEMENT ████ -/
theorem proved : Rows.RatioPartsSaid :=
  over
#print axioms proved
end Go.Proofs.Ytlklhmahlcfnhaa.ratioParts
