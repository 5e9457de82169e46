/- CheckLinear: a history that is in order is linear: its points, run one behind the other, may follow; each answered call has just one, between call and answer; each beginning of it is in order: the law returns true at whatever events and cut. Conditions: none but that the listed variables hold what the card ties them to. -/
import Derived.Test.YtigdkcpipiimnaaGreatDoorRows
import Derived.Test.YtigdkcpipiimnaaGreatDoorLa
import Derived.ProofKit
import Derived.OpenShut
import Derived.ShutString
import Derived.ChangeOld
import Derived.LaidMore
import Derived.Lay
import Derived.Test.YtigdkcpipiimnaaGreatDoorTie
import Derived.Test.YtigdkcpipiimnaaGreatDoorCards
import Derived.Test.YtigdkcpipiimnaaGreatDoorCh
import Derived.SevenTiedAt
import Derived.Stop.Joined
namespace Go.Proofs.YtigdkcpipiimnaaGreatDoor
open Go.ChangeShapes Go.WideShapes Go.ChangeAt Go.RowKit Go.Eng

theorem laidOut : laidOutB Tryz.prog = true := by kernel_rfl

theorem six : Six Tryz.prog 34 .u64 .i64 .i64 .i64 .u64 .i64 :=
  ⟨⟨_, _, _, _, _, _, Tryz.underlying34, rfl, rfl, rfl, rfl, rfl, rfl, Tryz.underlying32, Tryz.underlying3, Tryz.underlying3, Tryz.underlying3, Tryz.underlying32, Tryz.underlying24, by kernel_rfl, by kernel_rfl, by kernel_rfl, by kernel_rfl, by kernel_rfl, by kernel_rfl⟩, by kernel_rfl⟩

theorem okWide_sliceC {P : Program} {w : World} {r : Reach} {base : Nat} {t e : TypeId} {v : Value} (ht : P.underlying t = some (.slice e)) (h : Value.okWide P w r base t v) : ∃ a len cap, v = .slice a len cap ∧ len ≤ cap ∧ (a = none → cap = 0) := by
  simp only [Value.okWide, ht, Cell.okWide] at h
  cases v with
  | slice a len cap =>
    refine ⟨a, len, cap, rfl, ?_⟩
    cases a with
    | none => unfold Cell.ok at h; rw [ht] at h; split at h <;> simp_all
    | some a => unfold Cell.ok at h; rw [ht] at h; simp only at h; exact ⟨h.1, fun h => by cases h⟩
  | _ => simp_all [Cell.ok]

set_option maxRecDepth 100000 in
theorem lifted (os : Os) (started : os.Started) (H : Type) (enc : TypeId × Value → H) :
    ReturnsInHanded {} Tryz.checked os 3 .any (fun w args => (Rows.checkLinearSpec.pre enc Tryz.prog Tryz.f3 Rows.checkLinearRow.domain false w args ∧ laidMetH Tryz.prog Rows.checkLinearRow.laid w) ∧ sizedMet enc Tryz.prog Tryz.f3 (OpenSpec.ofChange Rows.checkLinearSpec) false w args)
      (Rows.checkLinearSpec.post enc Tryz.prog Tryz.f3 false true false false) := by
  refine returnsInHanded_of_change_and (C := Tryz.checked) (X := fun w _ => laidMetH Tryz.prog Rows.checkLinearRow.laid w) (fun _ _ _ hh h => h.of_heap hh) own started (by kernel_rfl) Tryz.func3
    (ChangeSpec.witness_shaped (enc := enc) (C := Tryz.checked) (os := os) (X := fun w _ => laidMetH Tryz.prog Rows.checkLinearRow.laid w) false (World.laidAll Tryz.prog os Rows.checkLinearRow.laid) #[.slice none 0 0, .int .u8 0] 8 (World.laidAll_os _ _ _)
      (World.shaped_of_ZipB (by kernel_rfl) (by kernel_rfl)) (by kernel_rfl) (by kernel_rfl) (by kernel_rfl)
      (by rw [MakeChecks.laidMetH_plain _ _ _ (by kernel_rfl)]; exact laidMet_laidAll _ (by kernel_rfl) (by kernel_rfl))) ?_
  intro W base args ds gs before hval0 hW hc _ hL _
  have hval : ∀ (j : Nat) t v, Tryz.f3.params[j]? = some t → args[j]? = some v → Value.okWide Tryz.prog W .any base t v := hval0
  have hW' := hW
  obtain ⟨p, q, hA0, hV, rfl, hfz, hnd⟩ := hW
  have hA : DataW.TrodAll enc Tryz.prog W 0 (fun _ => true) true Tryz.f3.params.toList args.toList ds p := hA0
  rw [Tryz.params3] at hA hval
  obtain ⟨v0, vs0, d0, ds0, p0, q0, hargs, rfl, rfl, h0, r0⟩ := trodAll_cons hA
  obtain ⟨v1, vs1, d1, ds1, p1, q1, rfl, rfl, rfl, h1, r1⟩ := trodAll_cons r0
  obtain ⟨rfl, rfl, rfl⟩ := trodAll_nil r1
  obtain rfl : args = #[v0, v1] := by cases args; simp_all
  obtain ⟨rfl, rfl⟩ := trodVars_none hV
  obtain ⟨a0, len0, cap0, rfl, hcap, hz⟩ := okWide_sliceC Tryz.underlying22 (hval 0 22 v0 rfl rfl)
  obtain ⟨a1, rfl, rfl, rfl, w1⟩ := open_int Tryz.underlying5 (hval 1 5 v1 rfl rfl) h1
  have k0 := h0
  have lt0 : ∀ x ∈ p0, x.block < W.heap.size := by obtain ⟨m, hm⟩ := k0; exact DataW.trod_lt m _ _ _ hm
  have F : len0 = 0 ∨ ∃ b off, a0 = some ⟨b, off, none⟩ ∧ b < W.heap.size ∧ ∀ i, i < len0 → SixAt W b (off + i * 6) .u64 .i64 .i64 .i64 .u64 .i64 := by
    obtain ⟨fuel, hf⟩ := h0
    exact open_sixes Tryz.underlying22 six (by simpa [Value.cells] using hf)
  have hx : 0 ≤ a1 ∧ a1 < 256 := by
    have hh := w1
    simp only [Lit.wf, Bool.and_eq_true, decide_eq_true_eq] at hh
    have hmin : IntKind.u8.min = 0 := by decide
    have hmax : IntKind.u8.max = 255 := by decide
    rw [hmin, hmax] at hh
    omega
  clear hA0 hval0
  refine (law_all W (awake_true W hL) a0 len0 cap0 a1 hcap hz hx.1 hx.2 F).mono fun e W' ⟨he, bel⟩ => ?_
  subst he
  exact ⟨_, rfl, _, _, _, [], _, [], hW', trodAll_mk1 (shut_bool Tryz.underlying4 _), (trodAll_cons_mk (Below.trod laidOut (by kernel_rfl) (of_decide_eq_true (by kernel_rfl)) k0 bel lt0) (trodAll_cons_mk (shut_int Tryz.underlying5 w1) trodAll_mk0)), rfl, bel.frame _, fun h => by cases h⟩

end Go.Proofs.YtigdkcpipiimnaaGreatDoor
