/- AutoPlays: behind any points and retirements each is answered, and all that is told is, what the document says: the law returns true at whatever acts. Conditions: none but that the listed variables hold what the card ties them to. -/
import Derived.Test.YthpfbljbifcaoaaGreatDoorRows
import Derived.Test.YthpfbljbifcaoaaGreatDoorLp
import Derived.ProofKit
import Derived.OpenShut
import Derived.ShutString
import Derived.ChangeOld
import Derived.LaidMore
import Derived.Lay
import Derived.Test.YthpfbljbifcaoaaGreatDoorTie
import Derived.Test.YthpfbljbifcaoaaGreatDoorCards
import Derived.Test.YthpfbljbifcaoaaGreatDoorChP
import Derived.SevenTiedAt
import Derived.Stop.Joined
namespace Go.Proofs.YthpfbljbifcaoaaGreatDoor
open Go.ChangeShapes Go.WideShapes Go.ChangeAt Go.RowKit Go.Eng

theorem laidOut : laidOutB Tryz.prog = true := by kernel_rfl

theorem five : FiveB Tryz.prog 30 .i64 .i64 .u64 .u8 :=
  ⟨⟨_, _, _, _, _, Tryz.underlying30, rfl, rfl, rfl, rfl, rfl, Tryz.underlying3, Tryz.underlying3, Tryz.underlying28, Tryz.underlying5, Tryz.underlying4, by kernel_rfl, by kernel_rfl, by kernel_rfl, by kernel_rfl, by kernel_rfl⟩, by kernel_rfl⟩

set_option maxRecDepth 100000 in
theorem lifted (os : Os) (started : os.Started) (H : Type) (enc : TypeId × Value → H) :
    ReturnsInHanded {} Tryz.checked os 4 .any (fun w args => (Rows.autoPlaysSpec.pre enc Tryz.prog Tryz.f4 Rows.autoPlaysRow.domain false w args ∧ laidMetH Tryz.prog Rows.autoPlaysRow.laid w) ∧ sizedMet enc Tryz.prog Tryz.f4 (OpenSpec.ofChange Rows.autoPlaysSpec) false w args)
      (Rows.autoPlaysSpec.post enc Tryz.prog Tryz.f4 false true false false) := by
  refine returnsInHanded_of_change_and (C := Tryz.checked) (X := fun w _ => laidMetH Tryz.prog Rows.autoPlaysRow.laid w) (fun _ _ _ hh h => h.of_heap hh) own started (by kernel_rfl) Tryz.func4
    (ChangeSpec.witness_shaped (enc := enc) (C := Tryz.checked) (os := os) (X := fun w _ => laidMetH Tryz.prog Rows.autoPlaysRow.laid w) false (World.laidAll Tryz.prog os Rows.autoPlaysRow.laid) #[.slice none 0 0] 8 (World.laidAll_os _ _ _)
      (World.shaped_of_ZipB (by kernel_rfl) (by kernel_rfl)) (by kernel_rfl) (by kernel_rfl) (by kernel_rfl)
      (by rw [MakeChecks.laidMetH_plain _ _ _ (by kernel_rfl)]; exact laidMet_laidAll _ (by kernel_rfl) (by kernel_rfl))) ?_
  intro W base args ds gs before hval0 hW hc _ hL _
  have hval : ∀ (j : Nat) t v, Tryz.f4.params[j]? = some t → args[j]? = some v → Value.okWide Tryz.prog W .any base t v := hval0
  have hW' := hW
  obtain ⟨p, q, hA0, hV, rfl, hfz, hnd⟩ := hW
  have hA : DataW.TrodAll enc Tryz.prog W 0 (fun _ => true) true Tryz.f4.params.toList args.toList ds p := hA0
  rw [Tryz.params4] at hA hval
  obtain ⟨v0, vs0, d0, ds0, p0, q0, hargs, rfl, rfl, h0, r0⟩ := trodAll_cons hA
  obtain ⟨rfl, rfl, rfl⟩ := trodAll_nil r0
  obtain rfl : args = #[v0] := by cases args; simp_all
  obtain ⟨rfl, rfl⟩ := trodVars_none hV
  obtain ⟨a0, len0, cap0, rfl⟩ := okWide_slice Tryz.underlying22 (hval 0 22 v0 rfl rfl)
  have k0 := h0
  have lt0 : ∀ x ∈ p0, x.block < W.heap.size := by obtain ⟨m, hm⟩ := k0; exact DataW.trod_lt m _ _ _ hm
  have F : len0 = 0 ∨ ∃ b off, a0 = some ⟨b, off, none⟩ ∧ b < W.heap.size ∧ ∀ i, i < len0 → FiveBAt W b (off + i * 5) .i64 .i64 .u64 .u8 := by
    obtain ⟨fuel, hf⟩ := h0
    exact open_fivesB Tryz.underlying22 five (by simpa [Value.cells] using hf)
  clear hA0 hval0
  refine (plays_all W (awake_true W hL) a0 len0 cap0 F).mono fun e W' ⟨he, bel⟩ => ?_
  subst he
  exact ⟨_, rfl, _, _, _, [], _, [], hW', trodAll_mk1 (shut_bool Tryz.underlying4 _), trodAll_mk1 (Below.trod laidOut (by kernel_rfl) (of_decide_eq_true (by kernel_rfl)) k0 bel lt0), rfl, bel.frame _, fun h => by cases h⟩

end Go.Proofs.YthpfbljbifcaoaaGreatDoor
