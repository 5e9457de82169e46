/- RatioShares: a share is nothing just of 0 and 0, infinite just of more, and 0; from 0 to 1 of no more than the whole; the mean of one float is that, without the sign of a nought: the law returns true at whatever arguments. Conditions: none. -/
import Derived.Test.YtlklhmahlcfnhaaRows
import Derived.Test.YtlklhmahlcfnhaaSh
import Derived.WalkKit
import Derived.ProofKit
import Derived.OpenShut
namespace Go.Proofs.Ytlklhmahlcfnhaa.ratioShares
open Go.ChangeShapes Go.WideShapes Go.ChangeAt Go.RowKit Go.Eng Go.Proofs.Ytlklhmahlcfnhaa.shares

theorem own : ownKnob Try.prog.godebug = none := by kernel_rfl

theorem chain {w w1 w4 w9 : World} {o : Obj} {d : Nat} (hg1 : Below w.heap.size w w1) (hg2 : Below w1.heap.size w1 w4)
    (hg9 : Below ({ w4.alloc o with drawn := d } : World).drew.heap.size ({ w4.alloc o with drawn := d } : World).drew w9) : Below w.heap.size w w9 := by
  have b1 : Below w.heap.size w w4 := hg1.trans (hg2.mono hg1.size)
  have b2 := b1.alloc b1.size o
  have b3 : Below w.heap.size w ({ w4.alloc o with drawn := d } : World).drew := ⟨b2.os, b2.tape, b2.output, b2.size, b2.block⟩
  exact b3.trans (hg9.mono b3.size)

theorem law (a b x : Nat) (ha : a < 18446744073709551616) (hb : b < 18446744073709551616) (hx : x < 18446744073709551616) (w : World)
    (aw : Calls Try.prog 5 #[] w fun e w' => e = .returned (.bool true) ∧ Below w.heap.size w w') :
    Calls Try.prog 4 #[.int .u64 a, .int .u64 b, .int .u64 x] w fun e w' => e = .returned (.bool true) ∧ Below w.heap.size w w' := by
  have hfb : ∀ (v : Int) (w : World), (callFunc 6 #[.int .u64 v]).run Try.prog w = .ok (.value (.float .f64 v.toNat)) w := by
    intro v w
    rw [run_callFunc_extern (e := Extern.MathFloatBits.float64frombits) Try.func6 (by kernel_rfl) (by kernel_rfl) (by kernel_rfl) (by kernel_rfl)]
    rfl
  have hdb : decide (b = 0) = ((b : Int) == 0) := by
    by_cases h : b = 0
    · subst h; rfl
    · have h2 : ¬ ((b : Int) = 0) := by omega
      simp [h]
  go_enter Try.func4, Try.ntmps4
  go_wp2_with (first | (go_at_call 5; refine aw.mono ?_; rintro e w1 ⟨rfl, hg1⟩) | (go_at_call 8; refine (share_calls _ _ ha hb _).mono ?_; rintro e w2 ⟨s, rfl, hs, hs1, hs2, hs3, hg2⟩) | (go_at_call 9; refine (isnan_calls _ (by assumption) _).mono ?_; rintro e w3 ⟨rfl, rfl⟩) | (go_at_call 10; refine (isinf_calls _ _).mono ?_; rintro e w4 ⟨rfl, rfl⟩) | (go_at_call 12; have hz9 := hz1; clear hz9; refine (mean_none_calls _).mono ?_; rintro e w5 ⟨z5, rfl, hz5, hl5, rfl⟩) | (go_at_call 12; refine (mean_one_calls x _ _ _ hx (cell_new _ _ _ _)).mono ?_; rintro e w6 ⟨z, rfl, hz1, hz2, hz3, d, rfl⟩) | (go_at_call 13; refine (clean_calls _ _ hx).mono ?_; rintro e w7 ⟨rfl, rfl⟩) | (go_at_call 11; refine (same_mean x z hx hz1 hz2 _).mono ?_; rintro e w8 ⟨rfl, rfl⟩) | (go_at_call 14; refine (cmp_self x hx _).mono ?_; rintro e w9 ⟨rfl, hg9⟩))
  all_goals go_ret
  all_goals first | exact ⟨rfl, chain hg1 hg2 hg9⟩ | (exfalso; contradiction)

theorem of_wf {a : Int} (h : (Lit.int .u64 a).wf = true) : ∃ n : Nat, a = n ∧ n < 18446744073709551616 := by
  simp only [Lit.wf, Bool.and_eq_true, decide_eq_true_eq] at h
  have hmin : IntKind.u64.min = 0 := by decide
  have hmax : IntKind.u64.max = 18446744073709551615 := by decide
  rw [hmin, hmax] at h
  exact ⟨a.toNat, by omega, by omega⟩

theorem walk (a0 : Int) (a1 : Int) (a2 : Int) (w0 : (Lit.int .u64 a0).wf = true) (w1 : (Lit.int .u64 a1).wf = true) (w2 : (Lit.int .u64 a2).wf = true) (w : World) :
    Calls Try.prog 4 #[.int .u64 a0, .int .u64 a1, .int .u64 a2] w fun e w' => e = .returned (.bool true) ∧ Below w.heap.size w w' := by
  obtain ⟨a, rfl, ha⟩ := of_wf w0
  obtain ⟨b, rfl, hb⟩ := of_wf w1
  obtain ⟨x, rfl, hx⟩ := of_wf w2
  exact law a b x ha hb hx w (awake_true w)

/-! ### THE ROW's STEP: WRITTEN OUT: LEAVE IT -/
set_option maxRecDepth 100000 in
theorem lifted (os : Os) (started : os.Started) (H : Type) (enc : TypeId × Value → H) :
    ReturnsInHanded {} Try.checked os 4 .any (Rows.ratioSharesSpec.pre6 enc Try.prog Try.f4 Rows.ratioSharesRow.domain false) (Rows.ratioSharesSpec.post enc Try.prog Try.f4 false true false false) := by
  refine returnsInHanded_of_change (C := Try.checked) own started (by kernel_rfl) Try.func4
    (ChangeSpec.witness6 (enc := enc) (C := Try.checked) false ⟨#[], #[.int .u64 0, .int .u64 0, .int .u64 0], []⟩ 8 (by kernel_rfl) (by kernel_rfl) (by kernel_rfl) (by kernel_rfl)) ?_
  intro W base args ds gs before hval0 hW hcnd _
  have hval : ∀ (j : Nat) t v, Try.f4.params[j]? = some t → args[j]? = some v → Value.okWide Try.prog W .any base t v := hval0
  have hW' := hW
  obtain ⟨p, q, hA0, hV, rfl, hfz, hnd⟩ := hW
  have hA : DataW.TrodAll enc Try.prog W 0 (fun _ => true) true Try.f4.params.toList args.toList ds p := hA0
  rw [Try.params4] at hA hval
  obtain ⟨v0, vs0, d0, ds0, p0, q0, hargs, rfl, rfl, h0, r0⟩ := trodAll_cons hA
  obtain ⟨v1, vs1, d1, ds1, p1, q1, rfl, rfl, rfl, h1, r1⟩ := trodAll_cons r0
  obtain ⟨v2, vs2, d2, ds2, p2, q2, rfl, rfl, rfl, h2, r2⟩ := trodAll_cons r1
  obtain ⟨rfl, rfl, rfl⟩ := trodAll_nil r2
  obtain rfl : args = #[v0, v1, v2] := by cases args; simp_all
  obtain ⟨rfl, rfl⟩ := trodVars_none hV
  obtain ⟨a0, rfl, rfl, rfl, w0⟩ := open_int Try.underlying22 (hval 0 22 v0 rfl rfl) h0
  obtain ⟨a1, rfl, rfl, rfl, w1⟩ := open_int Try.underlying22 (hval 1 22 v1 rfl rfl) h1
  obtain ⟨a2, rfl, rfl, rfl, w2⟩ := open_int Try.underlying22 (hval 2 22 v2 rfl rfl) h2
  clear hA0 hval0
  simp only [List.append_nil] at hW'
  refine (walk a0 a1 a2 w0 w1 w2 W).mono fun e W' ⟨he, hg⟩ => ?_
  subst he
  exact ⟨_, rfl, post_of_below (pa := []) (pv := []) hW' (fun _ _ _ => (trodAll_cons_mk (shut_bool Try.underlying4 _) trodAll_mk0)) (fun sp _ => (trodAll_cons_mk (shut_int Try.underlying22 w0) (trodAll_cons_mk (shut_int Try.underlying22 w1) (trodAll_cons_mk (shut_int Try.underlying22 w2) trodAll_mk0)))) (fun _ _ => rfl) rfl
    hg (ok_one (by kernel_rfl) rfl (okWide_bool_mk Try.underlying4 _))⟩

theorem over : Rows.ratioSharesRow.holds Try.pinned (OpenSpec.ofChange Rows.ratioSharesSpec) :=
  OpenClaim.holds_of_wide 4 Try.f4 rfl rfl rfl rfl rfl rfl rfl ⟨rfl, rfl, rfl, rfl, rfl⟩ rfl rfl rfl rfl rfl (by kernel_rfl) Try.func4 (by kernel_rfl)
    (of_decide_eq_true (by kernel_rfl)) (by unfold Func.isWrapper; first | (rw [if_pos (by decide +kernel)]; kernel_rfl) | (rw [if_neg (by decide +kernel)]; exact ⟨rfl, rfl⟩))
    (fun os started H enc _ => lifted os started H enc)

/-- ████ THE STATEMENT ████ -/
theorem proved : Rows.RatioSharesSaid :=
  over
#print axioms proved
end Go.Proofs.Ytlklhmahlcfnhaa.ratioShares
