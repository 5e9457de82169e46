/- What is told of the program's book and of the document's is the same. Conditions: how both lie in memory; that they answer alike. -/
import Derived.Test.YtbdnlaepeladbaaGreatDoorPlC
import Derived.Deep.RegionHeld3
namespace Go.Proofs.YtbdnlaepeladbaaGreatDoor
open Go.ChangeShapes Go.WideShapes Go.ChangeAt Go.RowKit Go.Eng

variable {w w' : World}

theorem IdsAt.below {a : Option Addr} {D : List Int} (h : IdsAt w a D) (hb : Below w.heap.size w w') : IdsAt w' a D := h.upto (Upto.of_below (S := fun _ => False) hb) (by rintro k ⟨⟩)
theorem ids_of_seq {a : Option Addr} {c : Nat} {D : List Int} (h : SeqIn w 1 idE a c D) : IdsAt w a D := ⟨fun _ _ hk => h.id1 hk⟩

set_option maxHeartbeats 1000000 in
set_option maxRecDepth 1000000 in
theorem eqU_calls {l : List Int} {a1 a2 : Option Addr} (c1 c2 : Nat) (h1 : IdsAt w a1 l) (h2 : IdsAt w a2 l) (hm : l.length ≤ 10000) :
    Calls Tryz.prog 26 #[.slice a1 (List.length l) c1, .slice a2 (List.length l) c2] w fun e w' => e = .returned (.bool true) ∧ Below w.heap.size w w' := by
  have H0 := aside_of (And.intro h1 h2)
  obtain ⟨n, hn⟩ : ∃ n, n = l.length := ⟨_, rfl⟩
  have HN := aside_of hn
  rw [← hn] at hm ⊢
  clear h1 h2 hn
  go_enter Tryz.func26, Tryz.ntmps26
  go_wp2
  go_loopg [13] n (fun gh v13 wr => ∃ k : Nat, k ≤ n ∧ gh = n - k ∧ v13 = .int .i64 k ∧ Below w.heap.size w wr)
  case atStart => exact ⟨0, Nat.zero_le _, rfl, rfl, Below.refl _ _⟩
  case round =>
    obtain ⟨k, hk, rfl, rfl, hb⟩ := hrel
    by_cases hkn : k < n
    · obtain ⟨x, hx⟩ : ∃ x, l[k]? = some x := ⟨_, List.getElem?_eq_getElem (by rw [← HN.out]; exact hkn)⟩
      obtain ⟨g1, o1, rfl, k1⟩ := (H0.out.1.below hb).cell k x hx
      obtain ⟨g2, o2, rfl, k2⟩ := (H0.out.2.below hb).cell k x hx
      have hkn' : (k : Int) < (n : Int) := by omega
      have HB := aside_of hb
      clear hb hx
      go_wp2
      go_quiet (fail)
      try go_wp2
      go_roundg (n - (k + 1))
      case measure => omega
      case rel => exact ⟨k + 1, by omega, rfl, by go_num, below_drewNL HB.out _⟩
    · have hkn' : ¬ (k : Int) < (n : Int) := by omega
      have HB := aside_of hb
      clear hb
      go_wp2
      go_ret
      exact ⟨rfl, HB.out⟩

end Go.Proofs.YtbdnlaepeladbaaGreatDoor

namespace Go.Proofs.YtbdnlaepeladbaaGreatDoor
open Go.ChangeShapes Go.WideShapes Go.ChangeAt Go.RowKit Go.Eng

variable {w w' : World} {b ml mm wl mt : Nat} {B : BK} {d : RK} {aL aM aT : Option Addr} {cL cM cT : Nat}

/-- In Told: the book, the document's book in its box X, the lease in Y. -/
structure TF (w0 : World) (b ml mm wl mt : Nat) (B : BK) (d : RK) (aL aM aT : Option Addr) (cL cM cT nL nM nT X Y : Nat) (th si : Int) (v : World) : Prop where
  bk : BkAt v b ml mm wl mt B
  box : RowB v X d.leak (.slice aL nL cL) (.slice aM nM cM) (.slice aT nT cT)
  y1 : v.cell? ⟨Y, 1, none⟩ = some (.int .i64 th)
  y2 : v.cell? ⟨Y, 2, none⟩ = some (.int .u64 si)
  rb : RbAt v d aL aM aT cL cM cT
  low : Below w0.heap.size w0 v

variable {w0 v v' : World} {nL nM nT X Y : Nat} {th si : Int}
theorem TF.below (h : TF w0 b ml mm wl mt B d aL aM aT cL cM cT nL nM nT X Y th si v) (hb : Below v.heap.size v v') : TF w0 b ml mm wl mt B d aL aM aT cL cM cT nL nM nT X Y th si v' :=
  ⟨h.bk.below hb, h.box.below hb h.box.lt, cell_below hb h.y1, cell_below hb h.y2, h.rb.below hb, h.low.trans (hb.mono h.low.size)⟩
theorem TF.s (h : TF w0 b ml mm wl mt B d aL aM aT cL cM cT nL nM nT X Y th si v) : v.cell? ⟨Y, 1, none⟩ = some (.int .i64 th) ∧ v.cell? ⟨Y, 2, none⟩ = some (.int .u64 si) ∧ v.cell? ⟨X, 0, none⟩ = some (.int .u64 d.leak) ∧ v.cell? ⟨X, 1, none⟩ = some (.slice aL nL cL) ∧ v.cell? ⟨X, 2, none⟩ = some (.slice aM nM cM) ∧ v.cell? ⟨X, 3, none⟩ = some (.slice aT nT cT) :=
  ⟨h.y1, h.y2, h.box.q0, h.box.q1, h.box.q2, h.box.q3⟩

theorem y_set {cs : Array Value} {e : TypeId} {fz : Nat × Nat} {k : Nat} (h : w.heap[Y]? = some (.cells cs e fz)) (u : Value) : (w.setCell ⟨Y, k, none⟩ u).heap[Y]? = some (.cells (cs.setIfInBounds k u) e fz) := by
  rw [setCell_cells h]
  simp [(Array.getElem?_eq_some_iff.1 h).1]

/-- The two tell the same. -/
structure Same (B : BK) (d : RK) (id t : Int) : Prop where
  get : aget id B.ls = aget id d.L
  held : ∀ R, Rising R ((B.ls.filter fun x => x.2.thread == t).map (·.1)) → R = (d.L.filter fun x => x.2.thread == t).map (·.1)
  flag : ∀ R, Rising R ((B.ls.filter fun x => x.2.fl).map (·.1)) → R = (d.L.filter fun x => x.2.fl).map (·.1)
  mark : (aget id B.ms).getD false = decide (id ∈ d.M)
  tm : B.tm.length = d.T.length
  ln : B.ls.length = d.L.length

set_option maxHeartbeats 4000000 in
set_option maxRecDepth 1000000 in
theorem told_calls (hS : SortedLs) (h : BkAt w b ml mm wl mt B) (hr : RbAt w d aL aM aT cL cM cT) (id t : Int) (he : Same B d id t) (hl : d.L.length ≤ 1000) (hm : d.M.length ≤ 1000) (hwf : ∀ p ∈ B.ls, (Lit.int .u64 p.1).wf = true) :
    Calls Tryz.prog 28 #[.pointer (some ⟨b, 0, none⟩), rbV d.leak aL d.L.length cL aM d.M.length cM aT d.T.length cT, .int .u64 id, .int .i64 t] w fun e w' => e = .returned (.bool true) ∧ Below w.heap.size w w' := by
  have hlB : B.ls.length ≤ 1000 := by rw [he.ln]; exact hl
  obtain ⟨RR, hRR⟩ : ∃ RR, RR = (d.L.filter fun x => x.2.thread == t).map (·.1) := ⟨_, rfl⟩
  obtain ⟨FF, hFF⟩ : ∃ FF, FF = (d.L.filter fun x => x.2.fl).map (·.1) := ⟨_, rfl⟩
  have hRl : RR.length ≤ 1000 := by rw [hRR, List.length_map]; exact Nat.le_trans (List.length_filter_le _ _) hl
  have hFl : FF.length ≤ 1000 := by rw [hFF, List.length_map]; exact Nat.le_trans (List.length_filter_le _ _) hl
  have e1 := fun (v : World) (hv : BkAt v b ml mm wl mt B) => (heldB_calls hS hv hlB hwf t).mono fun e w' (hx : ∃ a cap R, e = .returned (.slice a (List.length R) cap) ∧ Rising R ((B.ls.filter fun x => x.2.thread == t).map (·.1)) ∧ IdsAt w' a R ∧ Below v.heap.size v w') => show ∃ a cap, e = .returned (.slice a RR.length cap) ∧ IdsAt w' a RR ∧ Below v.heap.size v w' from by
    obtain ⟨a, cap, R, h1, h2, h3, h4⟩ := hx
    obtain rfl : R = RR := (he.held R h2).trans hRR.symm
    exact ⟨a, cap, h1, h3, h4⟩
  have e2 := fun (v : World) (hv : RbAt v d aL aM aT cL cM cT) => (rheld_calls (lk := d.leak) (aM := aM) (nM := d.M.length) (cM := cM) (aT := aT) (nT := d.T.length) (cT := cT) hv.l hl t).mono fun e w' (hx : ∃ a cap R, e = .returned (.slice a (List.length R) cap) ∧ R = (d.L.filter fun x => x.2.thread == t).map (·.1) ∧ SeqIn w' 1 idE a cap R ∧ Below v.heap.size v w') => show ∃ a cap, e = .returned (.slice a RR.length cap) ∧ IdsAt w' a RR ∧ Below v.heap.size v w' from by
    obtain ⟨a, cap, R, h1, h2, h3, h4⟩ := hx
    obtain rfl : R = RR := h2.trans hRR.symm
    exact ⟨a, cap, h1, ids_of_seq h3, h4⟩
  have e3 := fun (v : World) (a1 a2 : Option Addr) (c1 c2 : Nat) (h1 : IdsAt v a1 RR) (h2 : IdsAt v a2 RR) => eqU_calls c1 c2 h1 h2 (by omega)
  have e4 := fun (v : World) (hv : BkAt v b ml mm wl mt B) => marked_calls hv id
  have e5 := fun (v : World) (hv : RbAt v d aL aM aT cL cM cT) => rmarked_calls (lk := d.leak) (aL := aL) (nL := d.L.length) (cL := cL) (aT := aT) (nT := d.T.length) (cT := cT) hv.m hm id
  rw [he.mark] at e4
  have e6 := fun (v : World) (hv : BkAt v b ml mm wl mt B) => (flaggedB_calls hS hv hlB hwf).mono fun e w' (hx : ∃ a cap R, e = .returned (.slice a (List.length R) cap) ∧ Rising R ((B.ls.filter fun x => x.2.fl).map (·.1)) ∧ IdsAt w' a R ∧ Below v.heap.size v w') => show ∃ a cap, e = .returned (.slice a FF.length cap) ∧ IdsAt w' a FF ∧ Below v.heap.size v w' from by
    obtain ⟨a, cap, R, h1, h2, h3, h4⟩ := hx
    obtain rfl : R = FF := (he.flag R h2).trans hFF.symm
    exact ⟨a, cap, h1, h3, h4⟩
  have e7 := fun (v : World) (hv : RbAt v d aL aM aT cL cM cT) => (rflagged_calls (lk := d.leak) (aM := aM) (nM := d.M.length) (cM := cM) (aT := aT) (nT := d.T.length) (cT := cT) hv.l hl).mono fun e w' (hx : ∃ a cap R, e = .returned (.slice a (List.length R) cap) ∧ R = (d.L.filter fun x => x.2.fl).map (·.1) ∧ SeqIn w' 1 idE a cap R ∧ Below v.heap.size v w') => show ∃ a cap, e = .returned (.slice a FF.length cap) ∧ IdsAt w' a FF ∧ Below v.heap.size v w' from by
    obtain ⟨a, cap, R, h1, h2, h3, h4⟩ := hx
    obtain rfl : R = FF := h2.trans hFF.symm
    exact ⟨a, cap, h1, ids_of_seq h3, h4⟩
  have e8 := fun (v : World) (a1 a2 : Option Addr) (c1 c2 : Nat) (h1 : IdsAt v a1 FF) (h2 : IdsAt v a2 FF) => eqU_calls c1 c2 h1 h2 (by omega)
  have e9 := fun (v : World) (hv : BkAt v b ml mm wl mt B) => timers_calls hv
  have e10 := fun (v : World) (hv : BkAt v b ml mm wl mt B) => lenB_calls hS hv hlB hwf
  have f1 := fun (v : World) (hv : BkAt v b ml mm wl mt B) => holder_calls hv id
  have f2 := fun (v : World) (hv : BkAt v b ml mm wl mt B) => since_calls hv id
  have f3 := fun (v : World) (hv : RbAt v d aL aM aT cL cM cT) => rfind_calls (lk := d.leak) (aM := aM) (nM := d.M.length) (cM := cM) (aT := aT) (nT := d.T.length) (cT := cT) hv.l hl id
  rw [he.tm] at e9
  rw [he.ln] at e10
  rw [he.get] at f1 f2
  have HW := aside_of (And.intro h hr)
  generalize decide (id ∈ d.M) = mk at e4 e5
  obtain ⟨nR, hnR⟩ : ∃ nR, nR = RR.length := ⟨_, rfl⟩
  obtain ⟨nF, hnF⟩ : ∃ nF, nF = FF.length := ⟨_, rfl⟩
  rw [← hnR] at e1 e2 e3
  rw [← hnF] at e6 e7 e8
  obtain ⟨nL, hnL⟩ : ∃ nL, nL = d.L.length := ⟨_, rfl⟩
  have HN := aside_of hnL
  rw [← hnL] at e2 e5 e7 e10 f3 hl ⊢
  generalize d.M.length = nM at *
  generalize d.T.length = nT at *
  clear hRR hFF hRl hFl hnR hnF hnL h hr he hlB hwf hS
  cases hag : aget id d.L with
  | none =>
    have f4 := fun (v : World) (hv : RbAt v d aL aM aT cL cM cT) => (f3 v hv).mono fun e w' (hx : ∃ i, e = .returned (.int .i64 i) ∧ IsPos id d.L i ∧ Below v.heap.size v w') => show e = .returned (.int .i64 (-1)) ∧ Below v.heap.size v w' from by
      obtain ⟨i, h1, h2, h3⟩ := hx
      rcases h2 with ⟨rfl, _⟩ | ⟨k, x, _, _, hx⟩
      · exact ⟨h1, h3⟩
      · rw [hag] at hx; cases hx
    rw [hag] at f1 f2
    simp only [Option.getD_none, Option.isSome_none] at f1 f2
    clear f3 hag
    have T0 := RowB.new w d.leak (.slice aL nL cL) (.slice aM nM cM) (.slice aT nT cT)
    have b0 := below_alloc w (.cells #[.int .u64 d.leak, .slice aL nL cL, .slice aM nM cM, .slice aT nT cT] 45)
    have HB0 := aside_of (And.intro T0 b0)
    go_enter Tryz.func28, Tryz.ntmps28
    clear T0 b0
    go_upto_region 3 with (first
      | (go_at_call 10; with_reducible refine (f1 _ (HW.out.1.below HB0.out.2)).mono ?_; clear f1; rintro e w1 ⟨he, b1⟩; subst he)
      | (go_at_call 14; with_reducible refine (f2 _ ((HW.out.1.below HB0.out.2).below b1)).mono ?_; clear f2; rintro e w2 ⟨he, b2⟩; subst he))
    have bk2 := ((HW.out.1.below HB0.out.2).below b1).below b2
    have rb2 := ((HW.out.2.below HB0.out.2).below b1).below b2
    have box2 := (HB0.out.1.below b1 (RowB.lt HB0.out.1)).below b2 (RowB.lt (HB0.out.1.below b1 (RowB.lt HB0.out.1)))
    have low2 : Below w.heap.size w w2 := HB0.out.2.trans ((b1.mono HB0.out.2.size).trans (b2.mono (Nat.le_trans HB0.out.2.size b1.size)))
    have ba := below_alloc w2 (.cells #[.int .u64 0, .int .i64 0, .int .u64 0, .bool false] 151)
    have hrow : (w2.alloc (.cells #[.int .u64 0, .int .i64 0, .int .u64 0, .bool false] 151)).heap[w2.heap.size]? = some (.cells #[.int .u64 0, .int .i64 0, .int .u64 0, .bool false] 151 (0, 0)) := heap_new _ _
    have G0 : TF w b ml mm wl mt B d aL aM aT cL cM cT nL nM nT w.heap.size w2.heap.size 0 0 (w2.alloc (.cells #[.int .u64 0, .int .i64 0, .int .u64 0, .bool false] 151)) :=
      ⟨bk2.below ba, box2.below ba (RowB.lt box2), by simp only [World.cell?]; rw [hrow]; rfl, by simp only [World.cell?]; rw [hrow]; rfl, rb2.below ba, low2.trans (ba.mono low2.size)⟩
    have ff := f4 _ G0.rb
    have hbx := RowB.lt box2
    have q0 := G0.box.q0
    have q1 := G0.box.q1
    have q2 := G0.box.q2
    have q3 := G0.box.q3
    have HG := aside_of (And.intro G0 (And.intro hrow (And.intro hbx (And.intro bk2 (And.intro box2 (And.intro rb2 low2))))))
    clear f4 bk2 rb2 box2 low2 ba hrow G0 b1 b2 hbx
    go_upto_region 7 with (go_at_call 85; with_reducible refine ff.mono ?_; clear ff; rintro e w4 ⟨he, b4⟩; subst he; clear q0 q1 q2 q3)
    have F0 := HG.out.1.below b4
    have F := F0.below (below_drew _)
    clear b4
    go_region_held3 (fun w' => w'.cell? ⟨w2.heap.size, 1, none⟩ = some (.int .i64 0) ∧ w'.cell? ⟨w2.heap.size, 2, none⟩ = some (.int .u64 0) ∧ w'.cell? ⟨w.heap.size, 0, none⟩ = some (.int .u64 d.leak) ∧ w'.cell? ⟨w.heap.size, 1, none⟩ = some (.slice aL nL cL) ∧ w'.cell? ⟨w.heap.size, 2, none⟩ = some (.slice aM nM cM) ∧ w'.cell? ⟨w.heap.size, 3, none⟩ = some (.slice aT nT cT))
      (first | exact F.s | exact F0.s | go_keep)
      (first
        | (go_at_call 16; with_reducible refine (e1 _ F.bk).mono ?_; rintro x v1 ⟨a1, k1, hx, i1, u1⟩; subst hx; have F := F.below u1)
        | (go_at_call 87; with_reducible refine (e2 _ F.rb).mono ?_; rintro x v2 ⟨a2, k2, hx, i2, u2⟩; subst hx; have F := F.below u2; have i1 := i1.below u2)
        | (go_at_call 26; with_reducible refine (e3 _ _ _ _ _ i1 i2).mono ?_; rintro x v3 ⟨hx, u3⟩; subst hx; have F := F.below u3)
        | (go_at_call 88; with_reducible refine (e4 _ F.bk).mono ?_; rintro x v4 ⟨hx, u4⟩; subst hx; have F := F.below u4)
        | (go_at_call 89; with_reducible refine (e5 _ F.rb).mono ?_; rintro x v5 ⟨hx, u5⟩; subst hx; have F := F.below u5)
        | (go_at_call 19; with_reducible refine (e6 _ F.bk).mono ?_; rintro x v6 ⟨a6, k6, hx, i6, u6⟩; subst hx; have F := F.below u6)
        | (go_at_call 90; with_reducible refine (e7 _ F.rb).mono ?_; rintro x v7 ⟨a7, k7, hx, i7, u7⟩; subst hx; have F := F.below u7; have i6 := i6.below u7)
        | (go_at_call 26; with_reducible refine (e8 _ _ _ _ _ i6 i7).mono ?_; rintro x v8 ⟨hx, u8⟩; subst hx; have F := F.below u8)
        | (go_at_call 18; with_reducible refine (e9 _ F.bk).mono ?_; rintro x v9 ⟨hx, hw⟩; subst hx; subst hw)
        | (go_at_call 17; with_reducible refine (e10 _ F.bk).mono ?_; rintro x v10 ⟨hx, u10⟩; subst hx; have F := F.below u10))
    go_wp2
    go_ret
    exact ⟨rfl, F.low⟩
  | some x =>
    have f4 := fun (v : World) (hv : RbAt v d aL aM aT cL cM cT) => (f3 v hv).mono fun e w' (hx : ∃ i, e = .returned (.int .i64 i) ∧ IsPos id d.L i ∧ Below v.heap.size v w') => show ∃ k : Nat, e = .returned (.int .i64 k) ∧ d.L[k]? = some (id, x) ∧ Below v.heap.size v w' from by
      obtain ⟨i, h1, h2, h3⟩ := hx
      rcases h2 with ⟨_, hn⟩ | ⟨k, x', rfl, hk, hx⟩
      · rw [hag] at hn; cases hn
      · rw [hag] at hx
        obtain rfl := Option.some.inj hx
        exact ⟨k, h1, hk, h3⟩
    rw [hag] at f1 f2
    simp only [Option.getD_some, Option.isSome_some] at f1 f2
    clear f3 hag
    obtain ⟨x0, x1, x2⟩ := x
    simp only at f1 f2
    have T0 := RowB.new w d.leak (.slice aL nL cL) (.slice aM nM cM) (.slice aT nT cT)
    have b0 := below_alloc w (.cells #[.int .u64 d.leak, .slice aL nL cL, .slice aM nM cM, .slice aT nT cT] 45)
    have HB0 := aside_of (And.intro T0 b0)
    go_enter Tryz.func28, Tryz.ntmps28
    clear T0 b0
    go_upto_region 3 with (first
      | (go_at_call 10; with_reducible refine (f1 _ (HW.out.1.below HB0.out.2)).mono ?_; clear f1; rintro e w1 ⟨he, b1⟩; subst he)
      | (go_at_call 14; with_reducible refine (f2 _ ((HW.out.1.below HB0.out.2).below b1)).mono ?_; clear f2; rintro e w2 ⟨he, b2⟩; subst he))
    have bk2 := ((HW.out.1.below HB0.out.2).below b1).below b2
    have rb2 := ((HW.out.2.below HB0.out.2).below b1).below b2
    have box2 := (HB0.out.1.below b1 (RowB.lt HB0.out.1)).below b2 (RowB.lt (HB0.out.1.below b1 (RowB.lt HB0.out.1)))
    have low2 : Below w.heap.size w w2 := HB0.out.2.trans ((b1.mono HB0.out.2.size).trans (b2.mono (Nat.le_trans HB0.out.2.size b1.size)))
    have ba := below_alloc w2 (.cells #[.int .u64 0, .int .i64 0, .int .u64 0, .bool false] 151)
    have hrow : (w2.alloc (.cells #[.int .u64 0, .int .i64 0, .int .u64 0, .bool false] 151)).heap[w2.heap.size]? = some (.cells #[.int .u64 0, .int .i64 0, .int .u64 0, .bool false] 151 (0, 0)) := heap_new _ _
    have G0 : TF w b ml mm wl mt B d aL aM aT cL cM cT nL nM nT w.heap.size w2.heap.size 0 0 (w2.alloc (.cells #[.int .u64 0, .int .i64 0, .int .u64 0, .bool false] 151)) :=
      ⟨bk2.below ba, box2.below ba (RowB.lt box2), by simp only [World.cell?]; rw [hrow]; rfl, by simp only [World.cell?]; rw [hrow]; rfl, rb2.below ba, low2.trans (ba.mono low2.size)⟩
    have ff := f4 _ G0.rb
    have hbx := RowB.lt box2
    have q0 := G0.box.q0
    have q1 := G0.box.q1
    have q2 := G0.box.q2
    have q3 := G0.box.q3
    have HG := aside_of (And.intro G0 (And.intro hrow (And.intro hbx (And.intro bk2 (And.intro box2 (And.intro rb2 low2))))))
    clear f4 bk2 rb2 box2 low2 ba hrow G0 b1 b2 hbx
    go_upto_region 6 with (go_at_call 85; with_reducible refine ff.mono ?_; clear ff; rintro e w4 ⟨k, he, hk, b4⟩; subst he; clear q0 q1 q2 q3; have hk0 : (0 : Int) ≤ (k : Int) := (by omega))
    have F4 := HG.out.1.below b4
    have hr4 := (b4.block w2.heap.size (by simp)).trans HG.out.2.1
    have q1 := F4.box.q1
    obtain ⟨g, o, rfl, z0, z1, z2, z3⟩ := F4.rb.l.le4 hk
    have hkn : k < nL := by rw [HN.out]; exact (List.getElem?_eq_some_iff.1 hk).1
    have hki : (k : Int) < (nL : Int) := by omega
    have y0 : w4.cell? ⟨w2.heap.size, 0, none⟩ = some (.int .u64 0) := by simp only [World.cell?]; rw [hr4]; rfl
    have y1 : w4.cell? ⟨w2.heap.size, 1, none⟩ = some (.int .i64 0) := by simp only [World.cell?]; rw [hr4]; rfl
    have y2 : w4.cell? ⟨w2.heap.size, 2, none⟩ = some (.int .u64 0) := by simp only [World.cell?]; rw [hr4]; rfl
    have y3 : w4.cell? ⟨w2.heap.size, 3, none⟩ = some (.bool false) := by simp only [World.cell?]; rw [hr4]; rfl
    have x0' : ∀ p, w4.frozen? ⟨w2.heap.size, p, none⟩ = false := fun p => by simp only [World.frozen?]; rw [hr4]; simp
    have v0 := x0' 0
    have v1 := x0' 1
    have v2 := x0' 2
    have v3 := x0' 3
    have HF4 := aside_of (And.intro (And.intro F4 b4) hr4)
    clear F4 hr4 x0' b4 hk hkn
    go_upto_region 7 with fail
    have s0 := y_set (k := 0) HF4.out.2 (.int .u64 id)
    have s1 := y_set (k := 1) s0 (.int .i64 x0)
    have s2 := y_set (k := 2) s1 (.int .u64 x1)
    have s3 := y_set (k := 3) s2 (.bool x2)
    obtain ⟨w5, hw5⟩ : ∃ w5, w5 = (((w4.setCell ⟨w2.heap.size, 0, none⟩ (.int .u64 id)).setCell ⟨w2.heap.size, 1, none⟩ (.int .i64 x0)).setCell ⟨w2.heap.size, 2, none⟩ (.int .u64 x1)).setCell ⟨w2.heap.size, 3, none⟩ (.bool x2) := ⟨_, rfl⟩
    have B5 : Below w2.heap.size w2 w5 := by
      rw [hw5]
      exact ((((((below_alloc w2 _).trans (HF4.out.1.2.mono (by simp))).setCell (Nat.le_refl _) _).setCell (Nat.le_refl _) _).setCell (Nat.le_refl _) _).setCell (Nat.le_refl _) _)
    rw [← hw5] at s3 ⊢
    have F0 : TF w b ml mm wl mt B d (some ⟨g, o, none⟩) aM aT cL cM cT nL nM nT w.heap.size w2.heap.size x0 x1 w5 :=
      ⟨HG.out.2.2.2.1.below B5, HG.out.2.2.2.2.1.below B5 HG.out.2.2.1, by simp only [World.cell?]; rw [s3]; rfl, by simp only [World.cell?]; rw [s3]; rfl, HG.out.2.2.2.2.2.1.below B5, HG.out.2.2.2.2.2.2.trans (B5.mono HG.out.2.2.2.2.2.2.size)⟩
    have F := F0.below (below_drew _)
    clear hw5 B5 s0 s1 s2 s3 q1 y0 y1 y2 y3 v0 v1 v2 v3 z0 z1 z2 z3
    go_region_held3 (fun w' => w'.cell? ⟨w2.heap.size, 1, none⟩ = some (.int .i64 x0) ∧ w'.cell? ⟨w2.heap.size, 2, none⟩ = some (.int .u64 x1) ∧ w'.cell? ⟨w.heap.size, 0, none⟩ = some (.int .u64 d.leak) ∧ w'.cell? ⟨w.heap.size, 1, none⟩ = some (.slice (some ⟨g, o, none⟩) nL cL) ∧ w'.cell? ⟨w.heap.size, 2, none⟩ = some (.slice aM nM cM) ∧ w'.cell? ⟨w.heap.size, 3, none⟩ = some (.slice aT nT cT))
      (first | exact F.s | exact F0.s | go_keep)
      (first
        | (go_at_call 16; with_reducible refine (e1 _ F.bk).mono ?_; rintro x v1 ⟨a1, k1, hx, i1, u1⟩; subst hx; have F := F.below u1)
        | (go_at_call 87; with_reducible refine (e2 _ F.rb).mono ?_; rintro x v2 ⟨a2, k2, hx, i2, u2⟩; subst hx; have F := F.below u2; have i1 := i1.below u2)
        | (go_at_call 26; with_reducible refine (e3 _ _ _ _ _ i1 i2).mono ?_; rintro x v3 ⟨hx, u3⟩; subst hx; have F := F.below u3)
        | (go_at_call 88; with_reducible refine (e4 _ F.bk).mono ?_; rintro x v4 ⟨hx, u4⟩; subst hx; have F := F.below u4)
        | (go_at_call 89; with_reducible refine (e5 _ F.rb).mono ?_; rintro x v5 ⟨hx, u5⟩; subst hx; have F := F.below u5)
        | (go_at_call 19; with_reducible refine (e6 _ F.bk).mono ?_; rintro x v6 ⟨a6, k6, hx, i6, u6⟩; subst hx; have F := F.below u6)
        | (go_at_call 90; with_reducible refine (e7 _ F.rb).mono ?_; rintro x v7 ⟨a7, k7, hx, i7, u7⟩; subst hx; have F := F.below u7; have i6 := i6.below u7)
        | (go_at_call 26; with_reducible refine (e8 _ _ _ _ _ i6 i7).mono ?_; rintro x v8 ⟨hx, u8⟩; subst hx; have F := F.below u8)
        | (go_at_call 18; with_reducible refine (e9 _ F.bk).mono ?_; rintro x v9 ⟨hx, hw⟩; subst hx; subst hw)
        | (go_at_call 17; with_reducible refine (e10 _ F.bk).mono ?_; rintro x v10 ⟨hx, u10⟩; subst hx; have F := F.below u10))
    go_wp2
    go_ret
    exact ⟨rfl, F.low⟩

end Go.Proofs.YtbdnlaepeladbaaGreatDoor
