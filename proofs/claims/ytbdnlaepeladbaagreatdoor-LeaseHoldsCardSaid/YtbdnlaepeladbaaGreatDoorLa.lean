/- The law's walk, at whatever acts. Conditions: how the argument lies in memory; that the example is found true. -/
import Derived.Test.YtbdnlaepeladbaaGreatDoorLaB
import Derived.Test.YtbdnlaepeladbaaGreatDoorBkE
import Derived.Test.YtbdnlaepeladbaaGreatDoorMo
namespace Go.Proofs.YtbdnlaepeladbaaGreatDoor
open Go.ChangeShapes Go.WideShapes Go.ChangeAt Go.RowKit Go.Eng

set_option maxRecDepth 1000000 in
theorem law_long (W : World) (haw : Calls Tryz.prog 8 #[] W fun e w' => e = .returned (.bool true) ∧ Below W.heap.size W w') (p : Option Addr) (n cap : Nat) (lk : Int) (hn : 100 < n) :
    Calls Tryz.prog 3 #[.int .u64 lk, .slice p n cap] W fun e w' => e = .returned (.bool true) ∧ Below W.heap.size W w' := by
  have hi : (100 : Int) < (n : Int) := by omega
  go_enter Tryz.func3, Tryz.ntmps3
  go_wp2_with (go_at_call 8; with_reducible refine haw.mono ?_; rintro e w1 ⟨rfl, b1⟩)
  go_ret
  exact ⟨rfl, b1⟩

set_option maxRecDepth 1000000 in
theorem law_big (W : World) (haw : Calls Tryz.prog 8 #[] W fun e w' => e = .returned (.bool true) ∧ Below W.heap.size W w') (p : Option Addr) (n cap : Nat) (lk : Int) (hn : n ≤ 100) (hl : 576460752303423488 < lk) :
    Calls Tryz.prog 3 #[.int .u64 lk, .slice p n cap] W fun e w' => e = .returned (.bool true) ∧ Below W.heap.size W w' := by
  have hi : ¬ (100 : Int) < (n : Int) := by omega
  go_enter Tryz.func3, Tryz.ntmps3
  go_wp2_with (go_at_call 8; with_reducible refine haw.mono ?_; rintro e w1 ⟨rfl, b1⟩)
  go_ret
  exact ⟨rfl, b1⟩

set_option maxHeartbeats 1000000 in
set_option maxRecDepth 1000000 in
theorem law_empty (W : World) (haw : Calls Tryz.prog 8 #[] W fun e w' => e = .returned (.bool true) ∧ Below W.heap.size W w') (p : Option Addr) (cap : Nat) (lk : Int) (hl : lk ≤ 576460752303423488) :
    Calls Tryz.prog 3 #[.int .u64 lk, .slice p 0 cap] W fun e w' => e = .returned (.bool true) ∧ Below W.heap.size W w' := by
  have hi : ¬ (576460752303423488 : Int) < lk := by omega
  go_enter Tryz.func3, Tryz.ntmps3
  go_wp2_with (first
    | (go_at_call 8; with_reducible refine haw.mono ?_; clear haw; rintro e w1 ⟨he, b1⟩; subst he; have hnew := new_calls w1 lk)
    | (go_at_call 9; with_reducible refine hnew.mono ?_; clear hnew; rintro e w2 ⟨b, ml, mm, wl, mt, he, hb, hlow, b2⟩; subst he))
  have b12 := b1.trans (b2.mono b1.size)
  clear b1 b2 hlow hb
  go_loopg [33] 0 (fun gh v33 wr => gh = 0 ∧ v33 = .int .i64 0 ∧ Below W.heap.size W wr)
  case atStart => exact ⟨rfl, rfl, b12⟩
  case round =>
    obtain ⟨rfl, rfl, b3⟩ := hrel
    go_wp2
    go_ret
    exact ⟨rfl, b3⟩

end Go.Proofs.YtbdnlaepeladbaaGreatDoor

namespace Go.Proofs.YtbdnlaepeladbaaGreatDoor
open Go.ChangeShapes Go.WideShapes Go.ChangeAt Go.RowKit Go.Eng

theorem u8_range {x : Int} (h : (Lit.int .u8 x).wf = true) : 0 ≤ x ∧ x < 256 := by
  simp only [Lit.wf, Bool.and_eq_true, decide_eq_true_eq] at h
  have hmin : IntKind.u8.min = 0 := by decide
  have hmax : IntKind.u8.max = 255 := by decide
  rw [hmin, hmax] at h
  omega

theorem u64_low {x : Int} (h : (Lit.int .u64 x).wf = true) : 0 ≤ x := by
  simp only [Lit.wf, Bool.and_eq_true, decide_eq_true_eq] at h
  have hmin : IntKind.u64.min = 0 := by decide
  rw [hmin] at h
  omega

/-- The law, at whatever slice of acts. -/
theorem law_all (W : World) (haw : Calls Tryz.prog 8 #[] W fun e w' => e = .returned (.bool true) ∧ Below W.heap.size W w') (a : Option Addr) (n cap : Nat) (lk : Int) (hcap : n ≤ cap) (hlk : 0 ≤ lk)
    (F : n = 0 ∨ ∃ b off, a = some ⟨b, off, none⟩ ∧ b < W.heap.size ∧ ∀ i, i < n → FourAt W b (off + i * 4) .u8 .u64 .i64 .u64) :
    Calls Tryz.prog 3 #[.int .u64 lk, .slice a n cap] W fun e w' => e = .returned (.bool true) ∧ Below W.heap.size W w' := by
  by_cases h1 : 100 < n
  · exact law_long W haw a n cap lk h1
  · by_cases h2 : 576460752303423488 < lk
    · exact law_big W haw a n cap lk (by omega) h2
    · rcases F with rfl | ⟨b, off, rfl, hb, hF⟩
      · exact law_empty W haw a cap lk (by omega)
      · refine law_some (sortedLs_of appLs sortOwn) (keysW_of appTm sortFuncOwn) W haw b off n cap (by omega) hcap lk ⟨hlk, by omega⟩ (aside_of ?_) (aside_of hb)
        intro k hk
        obtain ⟨x0, x1, x2, x3, ⟨h0, h1, h2, h3⟩, w0, w1, _, w3⟩ := hF k hk
        exact ⟨x0, x1, x2, x3, ⟨h0, h1, h2, h3⟩, w1, u64_low w3, (u8_range w0).1, (u8_range w0).2⟩

end Go.Proofs.YtbdnlaepeladbaaGreatDoor
