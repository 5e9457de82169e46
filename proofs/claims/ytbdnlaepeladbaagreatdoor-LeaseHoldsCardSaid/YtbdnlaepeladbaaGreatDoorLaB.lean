/- The law's walk, at a slice that is not nil. Conditions: how the argument lies in memory; that the example is found true. -/
import Derived.Test.YtbdnlaepeladbaaGreatDoorLaA
import Derived.Test.YtbdnlaepeladbaaGreatDoorBkA
import Derived.Deep.CutRange
namespace Go.Proofs.YtbdnlaepeladbaaGreatDoor
open Go.ChangeShapes Go.WideShapes Go.ChangeAt Go.RowKit Go.Eng

variable {w w' : World} {b ml mm wl mt : Nat} {B : BK} {tm : List (Int × Int)}

theorem end_said (B : BK) (i t : Int) : ((B.end_ i t).2 = 0 ∧ (aget i B.ls).isSome = true ∧ ((aget i B.ls).getD ⟨0, 0, false⟩).thread = t) ∨ ((B.end_ i t).2 = 5 ∧ (aget i B.ls).isSome = false) ∨ ((B.end_ i t).2 = 5 ∧ (aget i B.ls).isSome = true ∧ ¬ ((aget i B.ls).getD ⟨0, 0, false⟩).thread = t) := by
  unfold BK.end_ BK.holds
  cases h : aget i B.ls with
  | none => exact .inr (.inl ⟨rfl, rfl⟩)
  | some x =>
    by_cases ht : x.thread = t
    · exact .inl ⟨by simp [ht], rfl, ht⟩
    · exact .inr (.inr ⟨by simp [ht], rfl, ht⟩)

theorem mark_said (B : BK) (i t : Int) : ((B.mark i t).2 = 0 ∧ (aget i B.ls).isSome = true ∧ ((aget i B.ls).getD ⟨0, 0, false⟩).thread = t) ∨ ((B.mark i t).2 = 5 ∧ (aget i B.ls).isSome = false) ∨ ((B.mark i t).2 = 5 ∧ (aget i B.ls).isSome = true ∧ ¬ ((aget i B.ls).getD ⟨0, 0, false⟩).thread = t) := by
  unfold BK.mark BK.holds
  cases h : aget i B.ls with
  | none => exact .inr (.inl ⟨rfl, rfl⟩)
  | some x =>
    by_cases ht : x.thread = t
    · exact .inl ⟨by simp [ht], rfl, ht⟩
    · exact .inr (.inr ⟨by simp [ht], rfl, ht⟩)

theorem tm_wf {B : BK} {lk : Int} {k : Nat} (h : Okk B lk k) : ∀ p ∈ B.tm, (Lit.int .u64 p.1).wf = true := by
  intro p hp
  by_cases h0 : 0 < B.leak
  · obtain ⟨x, hx, _⟩ := h.inv.tl h0 p.1 p.2 (Keys1.get h.inv.kt hp)
    exact h.wf _ _ hx
  · have := h.inv.l0
    rw [(h.inv.z (by omega)).1] at hp
    cases hp

structure ActC (v : World) (blk o : Nat) (d i t nw : Int) : Prop where
  c0 : v.cell? ⟨blk, o, none⟩ = some (.int .u8 d)
  c1 : v.cell? ⟨blk, o + 1, none⟩ = some (.int .u64 i)
  c2 : v.cell? ⟨blk, o + 2, none⟩ = some (.int .i64 t)
  c3 : v.cell? ⟨blk, o + 3, none⟩ = some (.int .u64 nw)

theorem ActC.below {v v' : World} {blk o : Nat} {d i t nw : Int} {E : Nat} (h : ActC v blk o d i t nw) (hb : Below E v v') (hE : blk < E) : ActC v' blk o d i t nw := by
  have e := hb.block blk hE
  obtain ⟨h0, h1, h2, h3⟩ := h
  simp only [World.cell?] at h0 h1 h2 h3
  exact ⟨by simp only [World.cell?]; rw [e]; exact h0, by simp only [World.cell?]; rw [e]; exact h1, by simp only [World.cell?]; rw [e]; exact h2, by simp only [World.cell?]; rw [e]; exact h3⟩

theorem ActC.new (w : World) (d i t nw : Int) : ActC (w.alloc (.cells #[.int .u8 d, .int .u64 i, .int .i64 t, .int .u64 nw] 28)) w.heap.size 0 d i t nw := by
  refine ⟨?_, ?_, ?_, ?_⟩
  all_goals
    simp only [World.cell?]
    rw [heap_new]
    rfl

/-- wheel.keys tells all keys, by their ticks. -/
def KeysWh : Prop := ∀ (w : World) (wl mt : Nat) (tm : List (Int × Int)), WhAt w wl mt tm → (∀ p ∈ tm, (Lit.int .u64 p.1).wf = true) → tm.length ≤ 1000 →
  Calls Tryz.prog 160 #[.pointer (some ⟨wl, 0, none⟩)] w fun e w' => ∃ a cap L, e = .returned (.slice a (List.length L) cap) ∧ IsKeys tm L ∧ IdsAt w' a L ∧ Below w.heap.size w w'

set_option maxHeartbeats 4000000 in
set_option maxRecDepth 1000000 in
theorem law_some (hS : SortedLs) (hK : KeysWh) (W : World) (haw : Calls Tryz.prog 8 #[] W fun e w' => e = .returned (.bool true) ∧ Below W.heap.size W w') (blk off n cap : Nat) (hn : n ≤ 100) (hcap : n ≤ cap) (lk : Int) (hlk : 0 ≤ lk ∧ lk ≤ 576460752303423488)
    (F : Aside (∀ k, k < n → ∃ d i t nw, ActC W blk (off + k * 4) d i t nw ∧ (Lit.int .u64 i).wf = true ∧ 0 ≤ nw ∧ 0 ≤ d ∧ d < 256)) (hblk : Aside (blk < W.heap.size)) :
    Calls Tryz.prog 3 #[.int .u64 lk, .slice (some ⟨blk, off, none⟩) n cap] W fun e w' => e = .returned (.bool true) ∧ Below W.heap.size W w' := by
  have HS := aside_of (And.intro hS (And.intro hK hlk))
  obtain ⟨hl0, hl1⟩ := hlk
  clear hS hK
  go_enter Tryz.func3, Tryz.ntmps3
  go_wp2_with (first
    | (go_at_call 8; with_reducible refine haw.mono ?_; clear haw; rintro e w1 ⟨he, b1⟩; subst he; have hnew := new_calls w1 lk)
    | (go_at_call 9; with_reducible refine hnew.mono ?_; clear hnew; rintro e w2 ⟨b, ml, mm, wl, mt, he, hb, hlow, b2⟩; subst he))
  have b12 := b1.trans (b2.mono b1.size)
  have HLOW : Aside (W.heap.size ≤ ml ∧ W.heap.size ≤ mm ∧ W.heap.size ≤ mt) := aside_of ⟨Nat.le_trans b1.size hlow.1, Nat.le_trans b1.size hlow.2.1, Nat.le_trans b1.size hlow.2.2⟩
  have H2 := aside_of (And.intro hb b12)
  clear b1 b2 b12 hlow hb
  go_loopg [33] n (fun gh v33 wr => ∃ (k : Nat) (B : BK), k ≤ n ∧ gh = n - k ∧ v33 = .int .i64 k ∧ Okk B lk k ∧ BkAt wr b ml mm wl mt B ∧ Below W.heap.size W wr)
  case atStart => exact ⟨0, ⟨lk, [], [], []⟩, by omega, rfl, rfl, ⟨BK.inv0 hl0 hl1, rfl, Nat.le_refl _, fun i x h => by simp [aget] at h⟩, H2.out.1, H2.out.2⟩
  case round =>
    obtain ⟨k, B, hk, rfl, rfl, hO, hb, hw⟩ := hrel
    by_cases hkn : k < n
    · obtain ⟨d, i, t, nw, hA, hid, hnw, hd0, hd1⟩ := F.out k hkn
      have hA2 := hA.below hw hblk.out
      obtain ⟨c0, c1, c2, c3⟩ := hA2
      have HX := aside_of (And.intro hO (And.intro hb (And.intro hw hid)))
      have hkn' : (k : Int) < (n : Int) := by omega
      clear hA hO hb hw hid
      go_upto_region 9 with fail
      have EV := ActC.new wr d i t nw
      have ba := below_alloc wr (.cells #[.int .u8 d, .int .u64 i, .int .i64 t, .int .u64 nw] 28)
      have h3 := HX.out.2.1.below ba
      have b3 := HX.out.2.2.1.trans (ba.mono HX.out.2.2.1.size)
      clear ba c0 c1 c2 c3
      generalize wr.alloc (.cells #[.int .u8 d, .int .u64 i, .int .i64 t, .int .u64 nw] 28) = w3 at EV h3 b3 ⊢
      generalize wr.heap.size = X at EV ⊢
      have H3 := aside_of (And.intro h3 (And.intro b3 EV))
      obtain ⟨e0, e1, e2, e3⟩ := EV
      simp only [Nat.zero_add] at e1 e2 e3
      by_cases hbig : 576460752303423488 < nw
      · clear h3 b3
        go_wp2
        go_ret
        exact ⟨rfl, H3.out.2.1⟩
      · have hh := holder_calls h3 i
        have HNW := aside_of hbig
        obtain ⟨ok, hok⟩ : ∃ ok, ok = (aget i B.ls).isSome := ⟨_, rfl⟩
        obtain ⟨ht, hht⟩ : ∃ ht, ht = ((aget i B.ls).getD ⟨0, 0, false⟩).thread := ⟨_, rfl⟩
        rw [← hok, ← hht] at hh
        have HT := aside_of (And.intro hok hht)
        clear hok hht h3 b3
        go_upto_block 2 with (go_at_call 10; with_reducible refine hh.mono ?_; clear hh; rintro e w4 ⟨he, b4⟩; subst he; have f0 := cell_below b4 e0; have f1 := cell_below b4 e1; have f2 := cell_below b4 e2; have f3 := cell_below b4 e3)
        have h4 := H3.out.1.below b4
        have w4b := H3.out.2.1.trans (b4.mono H3.out.2.1.size)
        have H4 := aside_of (And.intro h4 w4b)
        clear b4 e0 e1 e2 e3 h4 w4b
        go_cut [] from 45 to 128 (fun wx => ∃ B', Okk B' lk (k + 1) ∧ BkAt wx b ml mm wl mt B' ∧ Below W.heap.size W wx)
        case first =>
          have hq0 : 0 ≤ d % 8 ∧ d % 8 < 8 := by omega
          generalize d % 8 = q at hq0 ⊢
          by_cases k3 : q = 3
          · subst k3
            have hc := end_calls H4.out.1 i t
            have hsd := end_said B i t
            have HO2 := aside_of ((Okk.end_ HX.out.1 i t).mono (Nat.le_succ k))
            rcases hsd with ⟨r1, r2, r3⟩ | ⟨r1, r2⟩ | ⟨r1, r2, r3⟩
            · rw [r1] at hc
              obtain rfl : ok = true := HT.out.1.trans r2
              obtain rfl : ht = t := HT.out.2.trans r3
              clear r1 r2 r3
              go_wp2_with (go_at_call 11; with_reducible refine hc.mono ?_; clear hc; rintro e w5 ⟨he, h5, u5⟩; subst he; have g2 := u5.cell f2 (H4.out.1.objs); have HR := aside_of (And.intro HO2.out (And.intro h5 (H4.out.2.trans (u5.below H4.out.2.size (by rintro k (e | e); exact e ▸ HLOW.out.1; exact e ▸ HLOW.out.2.2))))); clear h5 u5)
              go_meet
              exact ⟨_, HR.out.1, HR.out.2.1, HR.out.2.2⟩
            · rw [r1] at hc
              obtain rfl : ok = false := HT.out.1.trans r2
              clear r1 r2
              go_wp2_with (go_at_call 11; with_reducible refine hc.mono ?_; clear hc; rintro e w5 ⟨he, h5, u5⟩; subst he; have g2 := u5.cell f2 (H4.out.1.objs); have HR := aside_of (And.intro HO2.out (And.intro h5 (H4.out.2.trans (u5.below H4.out.2.size (by rintro k (e | e); exact e ▸ HLOW.out.1; exact e ▸ HLOW.out.2.2))))); clear h5 u5)
              go_meet
              exact ⟨_, HR.out.1, HR.out.2.1, HR.out.2.2⟩
            · rw [r1] at hc
              obtain rfl : ok = true := HT.out.1.trans r2
              have g3 : (ht == t) = false := by rw [HT.out.2]; simpa using r3
              clear r1 r2 r3
              go_wp2_with (go_at_call 11; with_reducible refine hc.mono ?_; clear hc; rintro e w5 ⟨he, h5, u5⟩; subst he; have g2 := u5.cell f2 (H4.out.1.objs); have HR := aside_of (And.intro HO2.out (And.intro h5 (H4.out.2.trans (u5.below H4.out.2.size (by rintro k (e | e); exact e ▸ HLOW.out.1; exact e ▸ HLOW.out.2.2))))); clear h5 u5)
              go_meet
              exact ⟨_, HR.out.1, HR.out.2.1, HR.out.2.2⟩
          by_cases k4 : q = 4
          · subst k4
            have hc := end_calls H4.out.1 i t
            have hsd := end_said B i t
            have HO2 := aside_of ((Okk.end_ HX.out.1 i t).mono (Nat.le_succ k))
            rcases hsd with ⟨r1, r2, r3⟩ | ⟨r1, r2⟩ | ⟨r1, r2, r3⟩
            · rw [r1] at hc
              obtain rfl : ok = true := HT.out.1.trans r2
              obtain rfl : ht = t := HT.out.2.trans r3
              clear r1 r2 r3
              go_wp2_with (go_at_call 11; with_reducible refine hc.mono ?_; clear hc; rintro e w5 ⟨he, h5, u5⟩; subst he; have g2 := u5.cell f2 (H4.out.1.objs); have HR := aside_of (And.intro HO2.out (And.intro h5 (H4.out.2.trans (u5.below H4.out.2.size (by rintro k (e | e); exact e ▸ HLOW.out.1; exact e ▸ HLOW.out.2.2))))); clear h5 u5)
              go_meet
              exact ⟨_, HR.out.1, HR.out.2.1, HR.out.2.2⟩
            · rw [r1] at hc
              obtain rfl : ok = false := HT.out.1.trans r2
              clear r1 r2
              go_wp2_with (go_at_call 11; with_reducible refine hc.mono ?_; clear hc; rintro e w5 ⟨he, h5, u5⟩; subst he; have g2 := u5.cell f2 (H4.out.1.objs); have HR := aside_of (And.intro HO2.out (And.intro h5 (H4.out.2.trans (u5.below H4.out.2.size (by rintro k (e | e); exact e ▸ HLOW.out.1; exact e ▸ HLOW.out.2.2))))); clear h5 u5)
              go_meet
              exact ⟨_, HR.out.1, HR.out.2.1, HR.out.2.2⟩
            · rw [r1] at hc
              obtain rfl : ok = true := HT.out.1.trans r2
              have g3 : (ht == t) = false := by rw [HT.out.2]; simpa using r3
              clear r1 r2 r3
              go_wp2_with (go_at_call 11; with_reducible refine hc.mono ?_; clear hc; rintro e w5 ⟨he, h5, u5⟩; subst he; have g2 := u5.cell f2 (H4.out.1.objs); have HR := aside_of (And.intro HO2.out (And.intro h5 (H4.out.2.trans (u5.below H4.out.2.size (by rintro k (e | e); exact e ▸ HLOW.out.1; exact e ▸ HLOW.out.2.2))))); clear h5 u5)
              go_meet
              exact ⟨_, HR.out.1, HR.out.2.1, HR.out.2.2⟩
          have k3' : (q == 3) = false := by simpa using k3
          have k4' : (q == 4) = false := by simpa using k4
          by_cases k5 : q = 5
          · subst k5
            clear k3 k4 k3' k4'
            have hc := mark_calls H4.out.1 i t
            have hsd := mark_said B i t
            have HO2 := aside_of ((Okk.mark HX.out.1 i t).mono (Nat.le_succ k))
            rcases hsd with ⟨r1, r2, r3⟩ | ⟨r1, r2⟩ | ⟨r1, r2, r3⟩
            · rw [r1] at hc
              obtain rfl : ok = true := HT.out.1.trans r2
              obtain rfl : ht = t := HT.out.2.trans r3
              clear r1 r2 r3
              go_wp2_with (go_at_call 12; with_reducible refine hc.mono ?_; clear hc; rintro e w5 ⟨he, h5, u5⟩; subst he; have g2 := u5.cell f2 (by rintro k e; rw [e]; exact MapSt.obj H4.out.1.ms); have HR := aside_of (And.intro HO2.out (And.intro h5 (H4.out.2.trans (u5.below H4.out.2.size (by rintro k e; exact e ▸ HLOW.out.2.1))))); clear h5 u5)
              go_meet
              exact ⟨_, HR.out.1, HR.out.2.1, HR.out.2.2⟩
            · rw [r1] at hc
              obtain rfl : ok = false := HT.out.1.trans r2
              clear r1 r2
              go_wp2_with (go_at_call 12; with_reducible refine hc.mono ?_; clear hc; rintro e w5 ⟨he, h5, u5⟩; subst he; have g2 := u5.cell f2 (by rintro k e; rw [e]; exact MapSt.obj H4.out.1.ms); have HR := aside_of (And.intro HO2.out (And.intro h5 (H4.out.2.trans (u5.below H4.out.2.size (by rintro k e; exact e ▸ HLOW.out.2.1))))); clear h5 u5)
              go_meet
              exact ⟨_, HR.out.1, HR.out.2.1, HR.out.2.2⟩
            · rw [r1] at hc
              obtain rfl : ok = true := HT.out.1.trans r2
              have g3 : (ht == t) = false := by rw [HT.out.2]; simpa using r3
              clear r1 r2 r3
              go_wp2_with (go_at_call 12; with_reducible refine hc.mono ?_; clear hc; rintro e w5 ⟨he, h5, u5⟩; subst he; have g2 := u5.cell f2 (by rintro k e; rw [e]; exact MapSt.obj H4.out.1.ms); have HR := aside_of (And.intro HO2.out (And.intro h5 (H4.out.2.trans (u5.below H4.out.2.size (by rintro k e; exact e ▸ HLOW.out.2.1))))); clear h5 u5)
              go_meet
              exact ⟨_, HR.out.1, HR.out.2.1, HR.out.2.2⟩
          have k5' : (q == 5) = false := by simpa using k5
          by_cases k7 : q = 7
          · subst k7
            clear k3 k4 k5 k3' k4' k5'
            have hdue := due_calls H4.out.1.wh (now := nw) (HS.out.2.1 _ _ _ _ H4.out.1.wh (tm_wf HX.out.1) (Nat.le_trans HX.out.1.inv.tm_le (Nat.le_trans HX.out.1.len (by omega))))
            have hc := leaks_calls H4.out.1 hdue
            clear hdue
            go_upto_block 3 with (go_at_call 13; with_reducible refine hc.mono ?_; clear hc; rintro e w5 ⟨a, cap2, D, he, hD, hL, hI, h5, u5⟩; subst he)
            have g3 := u5.cell f3 H4.out.1.objs
            have hOD := Okk.leaks HX.out.1 hD
            have HD2 := aside_of hOD.2
            have b5 := H4.out.2.trans (u5.below H4.out.2.size (by rintro k (e | e); exact e ▸ HLOW.out.1; exact e ▸ HLOW.out.2.2))
            have HR := aside_of (And.intro (hOD.1.mono (Nat.le_succ k)) (And.intro h5 b5))
            clear hD hOD u5 b5
            generalize hz : List.length D = n2 at hL
            have HN := aside_of hz
            clear hz
            refine loop3 _ (by rfl) _ w5 lk nw HS.out.2.2 X g3 a n2 cap2 D HN hL hI h5 HD2 (aside_of ?_)
            clear h5 hI g3
            intro v4 v11 v12 v13 v104 v105 v106 v107 v108 v109 v110 v111 v112 v113 v114 v115 v116 v117 v118 v119 v120 v121 v122 v123 v124 v125 v126 v127 v128 wx b6
            dsimp only
            try go_wp2
            go_meet
            exact ⟨_, HR.out.1, HR.out.2.1.below b6, HR.out.2.2.trans (b6.mono HR.out.2.2.size)⟩
          · have k7' : (q == 7) = false := by simpa using k7
            have hnw2 : nw ≤ 576460752303423488 := by have := HNW.out; omega
            have hb := begin_calls H4.out.1 (id := i) (t := t) (now := nw) ⟨HX.out.1.inv.l0, by have := HX.out.1.inv.l1; omega⟩ ⟨hnw, by omega⟩
            have hcs := BK.begin_cases B HX.out.1.inv i t nw ⟨hnw, hnw2⟩
            have HO2 := aside_of (Okk.begin HX.out.1 i t HX.out.2.2.2 ⟨hnw, hnw2⟩)
            clear k3 k4 k5 k7 hnw2
            rcases hcs with ⟨_, r1⟩ | ⟨r1, r2, _⟩
            · generalize hr : (B.begin i t nw).2 = r at r1 hb
              have g1 : (r == 0) = false := by simpa using r1
              clear hr r1
              go_wp2_with (go_at_call 15; with_reducible refine hb.mono ?_; clear hb; rintro e w5 ⟨he, h5, u5⟩; subst he; have HR := aside_of (And.intro HO2.out (And.intro h5 (H4.out.2.trans (u5.below H4.out.2.size (by rintro k (e | e); exact e ▸ HLOW.out.1; exact e ▸ HLOW.out.2.2))))); clear h5 u5)
              go_meet
              exact ⟨_, HR.out.1, HR.out.2.1, HR.out.2.2⟩
            · rw [r1] at hb
              obtain rfl : ok = false := HT.out.1.trans (by rw [r2]; rfl)
              clear r1 r2
              go_wp2_with (go_at_call 15; with_reducible refine hb.mono ?_; clear hb; rintro e w5 ⟨he, h5, u5⟩; subst he; have HR := aside_of (And.intro HO2.out (And.intro h5 (H4.out.2.trans (u5.below H4.out.2.size (by rintro k (e | e); exact e ▸ HLOW.out.1; exact e ▸ HLOW.out.2.2))))); clear h5 u5)
              go_meet
              exact ⟨_, HR.out.1, HR.out.2.1, HR.out.2.2⟩
        case rest =>
          obtain ⟨B', hO5, h5, b5⟩ := hcut
          clear H4 HX HT f0 f1 f2 f3
          have HO5 := aside_of (And.intro hO5 (And.intro h5 b5))
          clear hO5
          go_upto_block 5 with fail
          refine loop5 _ (by rfl) _ wc HS.out.1 h5 (Nat.le_trans HO5.out.1.len (by omega)) HO5.out.1.wf' (aside_of ?_)
          clear h5 b5
          intro v4 v15 v17 v18 v19 v129 v130 v131 v132 v133 v134 v135 v136 v137 v138 v139 v140 v141 v142 v143 v144 v145 v146 v147 v148 v149 v150 v151 v152 v153 v154 v155 v156 wx b6
          have hcn := HO5.out.1.inv.cnt
          have htm := HO5.out.1.inv.timers
          have hle := HO5.out.1.len
          rw [HO5.out.1.leak] at htm
          have HB6 : Aside (∀ {v : World}, Below wx.heap.size wx v → BkAt v b ml mm wl mt B') := aside_of fun hv => HO5.out.2.1.below (b6.trans (hv.mono b6.size))
          have HL : Aside (∀ {v : World}, Below wx.heap.size wx v → Calls Tryz.prog 17 #[.pointer (some ⟨b, 0, none⟩)] v fun e w' => e = .returned (.int .i64 (cntN B'.ls 8 : Nat)) ∧ Below v.heap.size v w') := aside_of fun hv => by rw [HO5.out.1.inv.cnt]; exact lenB_calls HS.out.1 (HB6.out hv) (Nat.le_trans HO5.out.1.len (by omega)) HO5.out.1.wf'
          have HTm : Aside (∀ {v : World}, Below wx.heap.size wx v → Calls Tryz.prog 18 #[.pointer (some ⟨b, 0, none⟩)] v fun e w' => e = .returned (.int .i64 (B'.tm.length : Nat)) ∧ w' = v) := aside_of fun hv => timers_calls (HB6.out hv)
          have HFl : Aside (∀ {v : World}, Below wx.heap.size wx v → Calls Tryz.prog 19 #[.pointer (some ⟨b, 0, none⟩)] v fun e w' => ∃ a cap, e = .returned (.slice a (flaggedN B'.ls) cap) ∧ Below v.heap.size v w') := aside_of fun hv => (flaggedB_calls HS.out.1 (HB6.out hv) (Nat.le_trans HO5.out.1.len (by omega)) HO5.out.1.wf').mono (by
            rintro e w7 ⟨a, cap, R, he, hR, _, hb⟩
            have hRl : R.length = flaggedN B'.ls := by rw [hR.perm.length_eq, List.length_map]; rfl
            exact ⟨a, cap, by rw [he, hRl], hb⟩)
          have W6 := aside_of (HO5.out.2.2.trans (b6.mono HO5.out.2.2.size))
          have bcur : Below wx.heap.size wx wx := Below.refl _ _
          rw [← hcn] at htm hle
          clear hcn b6
          generalize cntN B'.ls 8 = z at htm hle HL ⊢
          generalize B'.tm.length = y at htm HTm
          generalize flaggedN B'.ls = f at htm HFl
          obtain ⟨ht1, ht2⟩ := htm
          have hyf : ¬ (z : Int) < (y : Int) + (f : Int) := by omega
          by_cases hlk0 : 0 < lk
          · have hyz : (y : Int) + (f : Int) = (z : Int) := by have := ht2 hlk0; omega
            go_wp2_with (first
              | (go_at_call 17; with_reducible refine (HL.out bcur).mono ?_; rintro e w7 ⟨he, b7⟩; subst he; replace bcur := bcur.trans (b7.mono bcur.size); clear b7)
              | (go_at_call 18; with_reducible refine (HTm.out bcur).mono ?_; rintro e w7 ⟨he, b7⟩; subst he; subst b7)
              | (go_at_call 19; with_reducible refine (HFl.out bcur).mono ?_; rintro e w7 ⟨a, cap2, he, b7⟩; subst he; replace bcur := bcur.trans (b7.mono bcur.size); clear b7))
            go_roundg (n - (k + 1))
            case measure => omega
            case rel => exact ⟨k + 1, B', by omega, rfl, by go_num, HO5.out.1, HB6.out bcur, W6.out.trans (bcur.mono W6.out.size)⟩
          · go_wp2_with (first
              | (go_at_call 17; with_reducible refine (HL.out bcur).mono ?_; rintro e w7 ⟨he, b7⟩; subst he; replace bcur := bcur.trans (b7.mono bcur.size); clear b7)
              | (go_at_call 18; with_reducible refine (HTm.out bcur).mono ?_; rintro e w7 ⟨he, b7⟩; subst he; subst b7)
              | (go_at_call 19; with_reducible refine (HFl.out bcur).mono ?_; rintro e w7 ⟨a, cap2, he, b7⟩; subst he; replace bcur := bcur.trans (b7.mono bcur.size); clear b7))
            go_roundg (n - (k + 1))
            case measure => omega
            case rel => exact ⟨k + 1, B', by omega, rfl, by go_num, HO5.out.1, HB6.out bcur, W6.out.trans (bcur.mono W6.out.size)⟩
    · obtain rfl : k = n := by omega
      go_wp2
      go_ret
      exact ⟨rfl, hw⟩

end Go.Proofs.YtbdnlaepeladbaaGreatDoor
