/- BagPlays: whatever comes, goes on, and is listed, each is answered, and all that there is is, what the document says: the law returns true at whatever acts. Conditions: none but that the listed variables hold what the card ties them to. -/
import Derived.Test.YtbdnlaepeladbaaGreatDoorRows
import Derived.Test.YtbdnlaepeladbaaGreatDoorBgI
import Derived.ProofKit
import Derived.OpenShut
import Derived.ShutString
import Derived.ChangeOld
import Derived.LaidMore
import Derived.Lay
import Derived.Test.YtbdnlaepeladbaaGreatDoorTie
import Derived.Test.YtbdnlaepeladbaaGreatDoorCards
import Derived.Test.YtbdnlaepeladbaaGreatDoorCh
import Derived.SevenTiedAt
import Derived.Stop.Joined
namespace Go.Proofs.YtbdnlaepeladbaaGreatDoor
open Go.ChangeShapes Go.WideShapes Go.ChangeAt Go.RowKit Go.Eng

theorem laidOut : laidOutB Tryz.prog = true := by kernel_rfl

theorem five : Five Tryz.prog 63 .u8 .u64 .u64 .u64 .i64 :=
  ⟨⟨_, _, _, _, _, Tryz.underlying63, rfl, rfl, rfl, rfl, rfl, Tryz.underlying5, Tryz.underlying22, Tryz.underlying22, Tryz.underlying22, Tryz.underlying3, by kernel_rfl, by kernel_rfl, by kernel_rfl, by kernel_rfl, by kernel_rfl⟩, by kernel_rfl⟩

theorem byte_range {x : Int} (h : (Lit.int .u8 x).wf = true) : 0 ≤ x ∧ x < 256 := by
  simp only [Lit.wf, Bool.and_eq_true, decide_eq_true_eq] at h
  have hmin : IntKind.u8.min = 0 := by decide
  have hmax : IntKind.u8.max = 255 := by decide
  rw [hmin, hmax] at h
  omega

theorem okWide_sliceC {P : Program} {w : World} {r : Reach} {base : Nat} {t e : TypeId} {v : Value} (ht : P.underlying t = some (.slice e)) (h : Value.okWide P w r base t v) : ∃ a len cap, v = .slice a len cap ∧ len ≤ cap ∧ (a = none → cap = 0) := by
  simp only [Value.okWide, ht, Cell.okWide] at h
  cases v with
  | slice a len cap =>
    refine ⟨a, len, cap, rfl, ?_⟩
    cases a with
    | none => unfold Cell.ok at h; rw [ht] at h; split at h <;> simp_all
    | some a => unfold Cell.ok at h; rw [ht] at h; simp only at h; exact ⟨h.1, fun h => by cases h⟩
  | _ => simp_all [Cell.ok]

theorem bplays_all (W : World) (haw : Calls Tryz.prog 29 #[] W fun e w' => e = .returned (.bool true) ∧ Below W.heap.size W w') (a : Option Addr) (n cap : Nat)
    (F : n = 0 ∨ ∃ b off, a = some ⟨b, off, none⟩ ∧ b < W.heap.size ∧ ∀ i, i < n → FiveAt W b (off + i * 5) .u8 .u64 .u64 .u64 .i64) :
    Calls Tryz.prog 5 #[.slice a n cap] W fun e w' => e = .returned (.bool true) ∧ Below W.heap.size W w' := by
  by_cases h1 : 80 < n
  · exact bplays_long W haw a n cap h1
  · refine bplays_some W haw a n cap (by omega) (aside_of ?_)
    intro k hk
    rcases F with rfl | ⟨b, off, rfl, hb, hF⟩
    · omega
    · obtain ⟨x0, x1, x2, x3, x4, ⟨h0, h1, h2, h3, h4⟩, w0, w1, w2, w3, w4⟩ := hF k hk
      exact ⟨b, off, x0, x1, x2, x3, x4, rfl, hb, ⟨h0, h1, h2, h3, h4⟩, w1, w2, w3, w4, (byte_range w0).1, (byte_range w0).2⟩

set_option maxRecDepth 100000 in
theorem lifted (os : Os) (started : os.Started) (H : Type) (enc : TypeId × Value → H) :
    ReturnsInHanded {} Tryz.checked os 5 .any (fun w args => (Rows.bagPlaysSpec.pre enc Tryz.prog Tryz.f5 Rows.bagPlaysRow.domain false w args ∧ laidMetH Tryz.prog Rows.bagPlaysRow.laid w) ∧ sizedMet enc Tryz.prog Tryz.f5 (OpenSpec.ofChange Rows.bagPlaysSpec) false w args)
      (Rows.bagPlaysSpec.post enc Tryz.prog Tryz.f5 false true false false) := by
  refine returnsInHanded_of_change_and (C := Tryz.checked) (X := fun w _ => laidMetH Tryz.prog Rows.bagPlaysRow.laid w) (fun _ _ _ hh h => h.of_heap hh) own started (by kernel_rfl) Tryz.func5
    (ChangeSpec.witness_shaped (enc := enc) (C := Tryz.checked) (os := os) (X := fun w _ => laidMetH Tryz.prog Rows.bagPlaysRow.laid w) false (World.laidAll Tryz.prog os Rows.bagPlaysRow.laid) #[.slice none 0 0] 8 (World.laidAll_os _ _ _)
      (World.shaped_of_ZipB (by kernel_rfl) (by kernel_rfl)) (by kernel_rfl) (by kernel_rfl) (by kernel_rfl)
      (by rw [MakeChecks.laidMetH_plain _ _ _ (by kernel_rfl)]; exact laidMet_laidAll _ (by kernel_rfl) (by kernel_rfl))) ?_
  intro W base args ds gs before hval0 hW hc _ hL _
  have hval : ∀ (j : Nat) t v, Tryz.f5.params[j]? = some t → args[j]? = some v → Value.okWide Tryz.prog W .any base t v := hval0
  have hW' := hW
  obtain ⟨p, q, hA0, hV, rfl, hfz, hnd⟩ := hW
  have hA : DataW.TrodAll enc Tryz.prog W 0 (fun _ => true) true Tryz.f5.params.toList args.toList ds p := hA0
  rw [Tryz.params5] at hA hval
  obtain ⟨v0, vs0, d0, ds0, p0, q0, hargs, rfl, rfl, h0, r0⟩ := trodAll_cons hA
  obtain ⟨rfl, rfl, rfl⟩ := trodAll_nil r0
  obtain rfl : args = #[v0] := by cases args; simp_all
  obtain ⟨rfl, rfl⟩ := trodVars_none hV
  obtain ⟨a0, len0, cap0, rfl, hcap, hz⟩ := okWide_sliceC Tryz.underlying56 (hval 0 56 v0 rfl rfl)
  have k0 := h0
  have lt0 : ∀ x ∈ p0, x.block < W.heap.size := by obtain ⟨m, hm⟩ := k0; exact DataW.trod_lt m _ _ _ hm
  have F : len0 = 0 ∨ ∃ b off, a0 = some ⟨b, off, none⟩ ∧ b < W.heap.size ∧ ∀ i, i < len0 → FiveAt W b (off + i * 5) .u8 .u64 .u64 .u64 .i64 := by
    obtain ⟨fuel, hf⟩ := h0
    exact open_fives Tryz.underlying56 five (by simpa [Value.cells] using hf)
  clear hA0 hval0
  refine (bplays_all W (awake_true W hL) a0 len0 cap0 F).mono fun e W' ⟨he, bel⟩ => ?_
  subst he
  exact ⟨_, rfl, _, _, _, [], _, [], hW', trodAll_mk1 (shut_bool Tryz.underlying4 _), (trodAll_cons_mk (Below.trod laidOut (by kernel_rfl) (of_decide_eq_true (by kernel_rfl)) k0 bel lt0) trodAll_mk0), rfl, bel.frame _, fun h => by cases h⟩

end Go.Proofs.YtbdnlaepeladbaaGreatDoor
