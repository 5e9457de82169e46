/- The law's walk, at whatever acts. Conditions: how the argument lies in memory; that the example is found true. -/
import Derived.Test.YthpfbljbifcaoaaGreatDoorRfC
namespace Go.Proofs.YthpfbljbifcaoaaGreatDoor
open Go.ChangeShapes Go.WideShapes Go.ChangeAt Go.RowKit Go.Eng Go.Deep

/-- In a round: the state in X, the document's in D, the act in Z. -/
structure Fp (W : World) (B X D Z : Nat) (lm rm : Option Nat) (s : AS) (L R : Value) (d : AS) (a0 a1 a2 a3 : Int) (a4 : Bool) (v : World) : Prop where
  low : Below B W v
  hB : B ≤ X
  hD : B ≤ D
  cur : RowS v X lm rm s.c
  st : StAt v lm rm s
  doc : RowF v D L R d.c
  dst : RefAt v L R d
  act : ActAt v Z a0 a1 a2 a3 a4
  xd : X ≠ D
  xz : X ≠ Z
  dz : D ≠ Z

variable {W v v' : World} {B X D Z : Nat} {lm rm lm' rm' : Option Nat} {s s' d d' : AS} {L R L' R' : Value} {a0 a1 a2 a3 : Int} {a4 : Bool}

theorem Fp.below (h : Fp W B X D Z lm rm s L R d a0 a1 a2 a3 a4 v) (hb : Below v.heap.size v v') : Fp W B X D Z lm rm s L R d a0 a1 a2 a3 a4 v' :=
  ⟨h.low.trans (hb.mono (Nat.le_of_lt (Nat.lt_of_le_of_lt h.hB h.cur.lt))), h.hB, h.hD, h.cur.below hb h.cur.lt, h.st.below hb, h.doc.below hb h.doc.lt, h.dst.below hb, (hb.block Z (Array.getElem?_eq_some_iff.1 h.act).1).trans h.act, h.xd, h.xz, h.dz⟩
theorem Fp.drew (h : Fp W B X D Z lm rm s L R d a0 a1 a2 a3 a4 v) : Fp W B X D Z lm rm s L R d a0 a1 a2 a3 a4 v.drew := h.below ⟨rfl, rfl, rfl, Nat.le_refl _, fun _ _ => rfl⟩

theorem own_offS {base size n : Nat} {e : TypeId} {x : Value} {xs : List Value} {c : Bool} (h : v.ownsRow base e size x n xs) (hx : RowS v X lm rm c) (he : e ≠ 27) (k : Nat) (u : Value) : (v.setCell ⟨X, k, none⟩ u).ownsRow base e size x n xs := by
  refine ⟨h.1, ?_⟩
  rcases h.2 with hn | ⟨g, cap, cur, h1, h2, h3, h4⟩
  · exact .inl hn
  · refine .inr ⟨g, cap, cur, h1, h2, ?_, h4⟩
    rw [Below.heap_setCell _ _ _ _ ?_]
    · exact h3
    · rintro rfl
      unfold RowS at hx
      rw [hx] at h3; simp at h3
      exact he h3.2.symm

theorem MapV.neF {β : Type} {V : β → Value} {mv : Option Nat} {es : List (Int × β)} {m : Nat} {c : Bool} (h : MapV .u64 V v mv es) (hx : RowF v D L R c) (e : mv = some m) : m ≠ D := by
  rcases h with ⟨h, _⟩ | ⟨m', h, ms, ck, hm, _⟩
  · rw [e] at h; cases h
  · rw [e] at h
    obtain rfl := Option.some.inj h
    rintro rfl
    unfold RowF at hx
    rw [hx] at hm; simp at hm

theorem StAt.offF {c : Bool} (h : StAt v lm rm s) (hx : RowF v D L R c) (k : Nat) (u : Value) : StAt (v.setCell ⟨D, k, none⟩ u) lm rm s :=
  h.set (p := ⟨D, k, none⟩) (fun _ e => by obtain ⟨⟨_, l1, _⟩, _⟩ := h; exact MapV.neF l1 hx e) (fun _ e => by obtain ⟨_, _, l1, _⟩ := h; exact MapV.neF l1 hx e) u

theorem RowS.set0 {c : Bool} (h : RowS v X lm rm c) (m : Option Nat) : RowS (v.setCell ⟨X, 0, none⟩ (.map m)) X m rm c := by
  have hl := h.lt
  unfold RowS at h ⊢
  rw [setCell_cells h]; simp [hl]
theorem RowS.set1 {c : Bool} (h : RowS v X lm rm c) (m : Option Nat) : RowS (v.setCell ⟨X, 1, none⟩ (.map m)) X lm m c := by
  have hl := h.lt
  unfold RowS at h ⊢
  rw [setCell_cells h]; simp [hl]

/-- The state is stored. -/
theorem Fp.putS (h : Fp W B X D Z lm rm s L R d a0 a1 a2 a3 a4 v) (st : StAt v lm' rm' s') :
    Fp W B X D Z lm' rm' s' L R d a0 a1 a2 a3 a4 (((v.setCell ⟨X, 0, none⟩ (.map lm')).setCell ⟨X, 1, none⟩ (.map rm')).setCell ⟨X, 2, none⟩ (.bool s'.c)) := by
  have keep : ∀ {j : Nat}, X ≠ j → (((v.setCell ⟨X, 0, none⟩ (.map lm')).setCell ⟨X, 1, none⟩ (.map rm')).setCell ⟨X, 2, none⟩ (.bool s'.c)).heap[j]? = v.heap[j]? := by
    intro j hj
    rw [Below.heap_setCell _ _ _ _ (fun e => hj e.symm), Below.heap_setCell _ _ _ _ (fun e => hj e.symm), Below.heap_setCell _ _ _ _ (fun e => hj e.symm)]
  refine ⟨((h.low.setCell h.hB _).setCell h.hB _).setCell h.hB _, h.hB, h.hD, h.cur.set lm' rm' s'.c, ?_, (keep h.xd).trans h.doc, ⟨?_, ?_⟩, (keep h.xz).trans h.act, h.xd, h.xz, h.dz⟩
  · exact ((st.set (p := ⟨X, 0, none⟩) (fun _ e => st.neL h.cur e) (fun _ e => st.neR h.cur e) _).set (p := ⟨X, 1, none⟩) (fun _ e => st.neL h.cur e) (fun _ e => st.neR h.cur e) _).set (p := ⟨X, 2, none⟩) (fun _ e => st.neL h.cur e) (fun _ e => st.neR h.cur e) _
  · exact own_offS (own_offS (own_offS h.dst.l h.cur (by decide) 0 _) (h.cur.set0 lm') (by decide) 1 _) ((h.cur.set0 lm').set1 rm') (by decide) 2 _
  · exact own_offS (own_offS (own_offS h.dst.r h.cur (by decide) 0 _) (h.cur.set0 lm') (by decide) 1 _) ((h.cur.set0 lm').set1 rm') (by decide) 2 _

/-- The document's state is stored. -/
theorem Fp.putD (h : Fp W B X D Z lm rm s L R d a0 a1 a2 a3 a4 v) (st : RefAt v L' R' d') :
    Fp W B X D Z lm rm s L' R' d' a0 a1 a2 a3 a4 (((v.setCell ⟨D, 0, none⟩ L').setCell ⟨D, 1, none⟩ R').setCell ⟨D, 2, none⟩ (.bool d'.c)) := by
  have keep : ∀ {j : Nat}, D ≠ j → (((v.setCell ⟨D, 0, none⟩ L').setCell ⟨D, 1, none⟩ R').setCell ⟨D, 2, none⟩ (.bool d'.c)).heap[j]? = v.heap[j]? := by
    intro j hj
    rw [Below.heap_setCell _ _ _ _ (fun e => hj e.symm), Below.heap_setCell _ _ _ _ (fun e => hj e.symm), Below.heap_setCell _ _ _ _ (fun e => hj e.symm)]
  refine ⟨((h.low.setCell h.hD _).setCell h.hD _).setCell h.hD _, h.hB, h.hD, (keep fun e => h.xd e.symm).trans h.cur, ?_, ((h.doc.set0 L').set1 R').set2 d'.c, ?_, (keep h.dz).trans h.act, h.xd, h.xz, h.dz⟩
  · exact ((h.st.offF h.doc 0 _).offF (h.doc.set0 L') 1 _).offF ((h.doc.set0 L').set1 R') 2 _
  · exact ((st.off h.doc 0 _).off (h.doc.set0 L') 1 _).off ((h.doc.set0 L').set1 R') 2 _

theorem fp_holder (h : Fp W B X D Z lm rm s L R d a0 a1 a2 a3 a4 v) (id : Int) :
    Calls Tryz.prog 6 #[stV lm rm s.c, .int .u64 id] v fun e w' => e = .returned (.tuple #[.int .i64 ((aget id s.ls).getD 0), .bool (aget id s.ls).isSome]) ∧ Fp W B X D Z lm rm s L R d a0 a1 a2 a3 a4 w' :=
  (holder_calls h.st s.c id).mono fun _ _ ⟨he, hb⟩ => ⟨he, h.below hb⟩
theorem fp_rholder (h : Fp W B X D Z lm rm s L R d a0 a1 a2 a3 a4 v) (hm : d.ls.length ≤ 1000) (id : Int) :
    Calls Tryz.prog 13 #[rfV L R d.c, .int .u64 id] v fun e w' => e = .returned (.tuple #[.int .i64 ((aget id d.ls).getD 0), .bool (aget id d.ls).isSome]) ∧ Fp W B X D Z lm rm s L R d a0 a1 a2 a3 a4 w' :=
  (rholder_calls h.dst hm d.c id).mono fun _ _ ⟨he, hb⟩ => ⟨he, h.below hb⟩
theorem fp_retired (h : Fp W B X D Z lm rm s L R d a0 a1 a2 a3 a4 v) (id : Int) :
    Calls Tryz.prog 7 #[stV lm rm s.c, .int .u64 id] v fun e w' => e = .returned (.bool (gone s id)) ∧ Fp W B X D Z lm rm s L R d a0 a1 a2 a3 a4 w' :=
  (retired_calls h.st s.c id).mono fun _ _ ⟨he, hb⟩ => ⟨he, h.below hb⟩
theorem fp_rretired (h : Fp W B X D Z lm rm s L R d a0 a1 a2 a3 a4 v) (hm : d.rs.length ≤ 1000) (id : Int) :
    Calls Tryz.prog 14 #[rfV L R d.c, .int .u64 id] v fun e w' => e = .returned (.bool (gone d id)) ∧ Fp W B X D Z lm rm s L R d a0 a1 a2 a3 a4 w' :=
  (rretired_calls h.dst hm d.c id).mono fun _ _ ⟨he, hb⟩ => ⟨he, h.below hb⟩
theorem fp_leases (h : Fp W B X D Z lm rm s L R d a0 a1 a2 a3 a4 v) (hI : s.Inv) :
    Calls Tryz.prog 8 #[stV lm rm s.c] v fun e w' => e = .returned (.int .i64 s.ls.length) ∧ Fp W B X D Z lm rm s L R d a0 a1 a2 a3 a4 w' :=
  (leases_calls h.st hI s.c).mono fun _ _ ⟨he, hb⟩ => ⟨he, h.below hb⟩

theorem closed_calls (w : World) (lm rm : Option Nat) (c : Bool) :
    Calls Tryz.prog 15 #[stV lm rm c] w fun e w' => e = .returned (.bool c) ∧ Below w.heap.size w w' := by
  have b1 := below_alloc w (.cells #[.map lm, .map rm, .bool c] 27)
  go_enter Tryz.func15, Tryz.ntmps15
  go_wp2
  go_ret
  exact ⟨rfl, b1⟩
theorem fp_closed (h : Fp W B X D Z lm rm s L R d a0 a1 a2 a3 a4 v) :
    Calls Tryz.prog 15 #[stV lm rm s.c] v fun e w' => e = .returned (.bool s.c) ∧ Fp W B X D Z lm rm s L R d a0 a1 a2 a3 a4 w' :=
  (closed_calls v lm rm s.c).mono fun _ _ ⟨he, hb⟩ => ⟨he, h.below hb⟩

theorem fp_retire (h : Fp W B X D Z lm rm s L R d a0 a1 a2 a3 a4 v) (id : Int) {f : Int} (hR : s.Retire id = (s', f)) :
    Calls Tryz.prog 9 #[stV lm rm s.c, .int .u64 id] v fun x w' => ∃ lm' rm', x = .returned (.tuple #[stV lm' rm' s'.c, .int .i64 f]) ∧ StAt w' lm' rm' s' ∧ Fp W B X D Z lm rm s L R d a0 a1 a2 a3 a4 w' := by
  have := Retire_calls h.st id
  rw [hR] at this
  exact this.mono fun _ _ ⟨lm', rm', he, hs, hb⟩ => ⟨lm', rm', he, hs, h.below hb⟩
theorem fp_point (h : Fp W B X D Z lm rm s L R d a0 a1 a2 a3 a4 v) (hI : s.Inv) (t op id e : Int) {f : Int} (hR : s.Point t op id e = (s', f)) :
    Calls Tryz.prog 10 #[stV lm rm s.c, .int .i64 t, .int .i64 op, .int .u64 id, .int .i64 e] v fun x w' => ∃ lm' rm', x = .returned (.tuple #[stV lm' rm' s'.c, .int .i64 f]) ∧ StAt w' lm' rm' s' ∧ Fp W B X D Z lm rm s L R d a0 a1 a2 a3 a4 w' := by
  have := Point_calls h.st hI t op id e
  rw [hR] at this
  exact this.mono fun _ _ ⟨lm', rm', he, hs, hb⟩ => ⟨lm', rm', he, hs, h.below hb⟩

theorem ref_shape {w : World} (h : RefAt w L R s) : ∃ aL nL cL aR nR cR, L = .slice aL nL cL ∧ R = .slice aR nR cR := by
  obtain ⟨aL, cL, h1, _⟩ := own_shape h.l
  obtain ⟨aR, cR, h2, _⟩ := own_shape h.r
  exact ⟨_, _, _, _, _, _, h1, h2⟩

theorem fp_rretire (h : Fp W B X D Z lm rm s L R d a0 a1 a2 a3 a4 v) (hm : d.ls.length ≤ 1000) (hm2 : d.rs.length ≤ 1000) (id : Int) {f : Int} (hR : d.Retire id = (d', f)) :
    Calls Tryz.prog 11 #[rfV L R d.c, .int .u64 id] v fun x w' => ∃ aL nL cL aR nR cR, x = .returned (.tuple #[rfV (.slice aL nL cL) (.slice aR nR cR) d'.c, .int .i64 f]) ∧ RefAt w' (.slice aL nL cL) (.slice aR nR cR) d' ∧ Fp W B X D Z lm rm s L R d a0 a1 a2 a3 a4 w' := by
  have := RRetire_calls h.dst hm hm2 id
  rw [hR] at this
  refine this.mono fun _ _ ⟨L', R', he, hs, hb⟩ => ?_
  obtain ⟨aL, nL, cL, aR, nR, cR, rfl, rfl⟩ := ref_shape hs
  exact ⟨aL, nL, cL, aR, nR, cR, he, hs, h.below hb⟩
theorem fp_rpoint (h : Fp W B X D Z lm rm s L R d a0 a1 a2 a3 a4 v) (hI : d.Inv) (hm : d.ls.length ≤ 1000) (hm2 : d.rs.length ≤ 1000) (t op id e : Int) {f : Int} (hR : d.Point t op id e = (d', f)) :
    Calls Tryz.prog 12 #[rfV L R d.c, .int .i64 t, .int .i64 op, .int .u64 id, .int .i64 e] v fun x w' => ∃ aL nL cL aR nR cR, x = .returned (.tuple #[rfV (.slice aL nL cL) (.slice aR nR cR) d'.c, .int .i64 f]) ∧ RefAt w' (.slice aL nL cL) (.slice aR nR cR) d' ∧ Fp W B X D Z lm rm s L R d a0 a1 a2 a3 a4 w' := by
  have := RPoint_calls h.dst hI hm hm2 t op id e
  rw [hR] at this
  refine this.mono fun _ _ ⟨L', R', he, hs, hb⟩ => ?_
  obtain ⟨aL, nL, cL, aR, nR, cR, rfl, rfl⟩ := ref_shape hs
  exact ⟨aL, nL, cL, aR, nR, cR, he, hs, h.below hb⟩

theorem Fp.start (low : Below B W v) (hB : B ≤ X) (hD : B ≤ D) (cur : RowS v X lm rm s.c) (st : StAt v lm rm s) (doc : RowF v D L R s.c) (dst : RefAt v L R s) (xd : X ≠ D) (a0 a1 a2 a3 : Int) (a4 : Bool) :
    Fp W B X D v.heap.size lm rm s L R s a0 a1 a2 a3 a4 (v.alloc (.cells #[.int .i64 a0, .int .i64 a1, .int .u64 a2, .int .u8 a3, .bool a4] 30)) := by
  have b1 := below_alloc v (.cells #[.int .i64 a0, .int .i64 a1, .int .u64 a2, .int .u8 a3, .bool a4] 30)
  have hl := cur.lt
  have hl2 := doc.lt
  exact ⟨low.trans (b1.mono (by omega)), hB, hD, cur.below b1 hl, st.below b1, doc.below b1 hl2, dst.below b1, (Go.MapKept.heap_alloc v _).1, xd, by omega, by omega⟩

theorem AS.retire_len {f : Int} {id : Int} (h : s.Retire id = (s', f)) : s'.ls.length ≤ s.ls.length + 1 ∧ s'.rs.length ≤ s.rs.length + 1 := by
  unfold AS.Retire at h
  split at h
  · simp only [Prod.mk.injEq] at h
    obtain ⟨rfl, _⟩ := h
    simp
  · simp only [Prod.mk.injEq] at h
    obtain ⟨rfl, _⟩ := h
    omega
theorem AS.point_len {f : Int} {t op id e : Int} (h : s.Point t op id e = (s', f)) : s'.ls.length ≤ s.ls.length + 1 ∧ s'.rs.length ≤ s.rs.length + 1 := by
  unfold AS.Point at h
  split at h
  · simp only [Prod.mk.injEq] at h
    obtain ⟨rfl, _⟩ := h
    obtain ⟨hr, hl⟩ := s.point_ls t op id e
    rw [hr]
    refine ⟨?_, by omega⟩
    rcases hl with hl | ⟨_, _, _, _, hl⟩ | ⟨_, _, _, _, hl⟩
    · rw [hl]; omega
    · rw [hl]; simp
    · rw [hl, length_adel]; split <;> omega
  · simp only [Prod.mk.injEq] at h
    obtain ⟨rfl, _⟩ := h
    omega

end Go.Proofs.YthpfbljbifcaoaaGreatDoor

namespace Go.Proofs.YthpfbljbifcaoaaGreatDoor
open Go.ChangeShapes Go.WideShapes Go.ChangeAt Go.RowKit Go.Eng Go.Deep

theorem st_zero0 (v : World) : StAt v none none ⟨[], [], false⟩ :=
  ⟨⟨[], .inl ⟨rfl, rfl⟩, List.Pairwise.nil, fun _ => rfl⟩, [], .inl ⟨rfl, rfl⟩, List.Pairwise.nil, fun i => by simp [aget]⟩

theorem u8_conv0 {x : Int} (h : (Lit.int .u8 x).wf = true) : 0 ≤ x ∧ x < 256 := by
  simp only [Lit.wf, Bool.and_eq_true, decide_eq_true_eq] at h
  have hmin : IntKind.u8.min = 0 := by decide
  have hmax : IntKind.u8.max = 255 := by decide
  rw [hmin, hmax] at h
  omega

theorem ref_zero (v : World) : RefAt v (.slice none 0 0) (.slice none 0 0) ⟨[], [], false⟩ := ⟨World.ownsRow_nil v 0 53 2, World.ownsRow_nil v 0 28 1⟩

theorem own_len {w : World} {base e size n m c : Nat} {a : Option Addr} {xs : List Value} (h : w.ownsRow base e size (.slice a n c) m xs) : n = m := by
  rcases h.2 with ⟨h1, h2⟩ | ⟨g, cap, cur, h1, _⟩
  · simp only [Value.slice.injEq] at h1; rw [h1.2.1, h2]
  · simp only [Value.slice.injEq] at h1; exact h1.2.1

set_option maxHeartbeats 4000000 in
set_option maxRecDepth 1000000 in
theorem plays_some (W : World) (B : Nat) (hB : B = W.heap.size) (haw : Calls Tryz.prog 5 #[] W fun e w' => e = .returned (.bool true) ∧ Below B W w') (blk off n cap : Nat) (hn : n ≤ 100) (hblk : blk < B)
    (F : ∀ k, k < n → FiveBAt W blk (off + k * 5) .i64 .i64 .u64 .u8) :
    Calls Tryz.prog 4 #[.slice (some ⟨blk, off, none⟩) n cap] W fun e w' => e = .returned (.bool true) ∧ Below B W w' := by
  have hBl : B ≤ W.heap.size := Nat.le_of_eq hB
  have F' : Aside (∀ k, k < n → FiveBAt W blk (off + k * 5) .i64 .i64 .u64 .u8) := F
  clear F hB
  go_enter Tryz.func4, Tryz.ntmps4
  go_wp2_with (go_at_call 5; with_reducible refine haw.mono ?_; rintro e w1 ⟨rfl, b1⟩; have s1 := Nat.le_trans hBl b1.size)
  have hb2 : Below w1.heap.size w1 ((w1.alloc (.cells #[.map none, .map none, .bool false] 27)).alloc (.cells #[.slice none 0 0, .slice none 0 0, .bool false] 43)) := (below_alloc w1 _).alloc (by simp) _
  have hcur : RowS ((w1.alloc (.cells #[.map none, .map none, .bool false] 27)).alloc (.cells #[.slice none 0 0, .slice none 0 0, .bool false] 43)) w1.heap.size none none false := (RowS.new w1 none none false).below (below_alloc _ _) (by simp)
  have hdoc : RowF ((w1.alloc (.cells #[.map none, .map none, .bool false] 27)).alloc (.cells #[.slice none 0 0, .slice none 0 0, .bool false] 43)) (w1.heap.size + 1) (.slice none 0 0) (.slice none 0 0) false := by
    have := RowF.new (w1.alloc (.cells #[.map none, .map none, .bool false] 27)) (.slice none 0 0) (.slice none 0 0) false
    simpa using this
  have hlow : Below B W ((w1.alloc (.cells #[.map none, .map none, .bool false] 27)).alloc (.cells #[.slice none 0 0, .slice none 0 0, .bool false] 43)) := b1.trans (hb2.mono s1)
  clear b1 haw hb2
  generalize (w1.alloc (.cells #[.map none, .map none, .bool false] 27)).alloc (.cells #[.slice none 0 0, .slice none 0 0, .bool false] 43) = w2 at hcur hdoc hlow ⊢
  generalize w1.heap.size = X at hcur hdoc s1 ⊢
  go_loopg [20] n (fun g i wx => ∃ (t : Nat) (s : AS) (lm rm : Option Nat) (aL : Option Addr) (nL cL : Nat) (aR : Option Addr) (nR cR : Nat), t ≤ n ∧ g = n - t ∧ i = .int .i64 t ∧ s.Inv ∧ s.ls.length ≤ t ∧ s.rs.length ≤ t ∧ RowS wx X lm rm s.c ∧ StAt wx lm rm s ∧ RowF wx (X + 1) (.slice aL nL cL) (.slice aR nR cR) s.c ∧ RefAt wx (.slice aL nL cL) (.slice aR nR cR) s ∧ Below B W wx)
  case atStart => exact ⟨0, ⟨[], [], false⟩, none, none, none, 0, 0, none, 0, 0, Nat.zero_le _, rfl, rfl, AS.inv0, Nat.le_refl _, Nat.le_refl _, hcur, st_zero0 w2, hdoc, ref_zero w2, hlow⟩
  case round =>
    clear hcur hdoc hlow
    obtain ⟨t, s, lm, rm, aL, nL, cL, aR, nR, cR, ht, rfl, rfl, hI, hm1, hm2, cur, st, doc, dst, low⟩ := hrel
    by_cases hlt : t < n
    · obtain ⟨x0, x1, x2, x3, x4, ⟨c0, c1, c2, c3, c4⟩, w0, w1', w2', w3'⟩ := F'.out t hlt
      have tr : ∀ {j : Nat} {u : Value}, W.cell? ⟨blk, j, none⟩ = some u → wr.cell? ⟨blk, j, none⟩ = some u := fun h => (low.cell (by exact hblk)).trans h
      have d0 := tr c0
      have d1 := tr c1
      have d2 := tr c2
      have d3 := tr c3
      have d4 := tr c4
      clear c0 c1 c2 c3 c4 tr
      have F0 := Fp.start low s1 (by omega) cur st doc dst (by omega) x0 x1 x2 x3 x4
      generalize hZ : wr.heap.size = Z at F0
      have e4 := F0.act.q4
      have hlti : (t : Int) < (n : Int) := by omega
      have hk1 : s.ls.length ≤ 1000 := by omega
      have hk2 : s.rs.length ≤ 1000 := by omega
      have HM : Aside (s.ls.length ≤ t ∧ s.rs.length ≤ t) := ⟨hm1, hm2⟩
      clear cur st doc dst low hm1 hm2
      go_upto_if 25 with (fail)
      clear d0 d1 d2 d3 d4 e4
      generalize wr.alloc (.cells #[.int .i64 x0, .int .i64 x1, .int .u64 x2, .int .u8 x3, .bool x4] 30) = v0 at F0 ⊢
      go_cut [7, 8] (fun s7 s8 wx => ∃ (f : Int) (lm' rm' : Option Nat) (s' : AS) (aL' : Option Addr) (nL' cL' : Nat) (aR' : Option Addr) (nR' cR' : Nat), s7 = .int .i64 f ∧ s8 = .int .i64 f ∧ AS.Inv s' ∧ s'.ls.length ≤ t + 1 ∧ s'.rs.length ≤ t + 1 ∧ Fp W B X (X + 1) Z lm' rm' s' (.slice aL' nL' cL') (.slice aR' nR' cR') s' x0 x1 x2 x3 x4 wx)
      case first =>
        cases x4 with
        | true =>
          obtain ⟨s', f, hR⟩ : ∃ s' f, s.Retire x2 = (s', f) := ⟨_, _, rfl⟩
          have hret := fp_retire F0 x2 hR
          have hrr : Aside (∀ {v : World} {l r : Option Nat} {q : AS}, Fp W B X (X + 1) Z l r q (.slice aL nL cL) (.slice aR nR cR) s x0 x1 x2 x3 true v → Calls Tryz.prog 11 #[rfV (.slice aL nL cL) (.slice aR nR cR) s.c, .int .u64 x2] v fun x w' => ∃ aL nL2 cL2 aR nR2 cR2, x = .returned (.tuple #[rfV (.slice aL nL2 cL2) (.slice aR nR2 cR2) s'.c, .int .i64 f]) ∧ RefAt w' (.slice aL nL2 cL2) (.slice aR nR2 cR2) s' ∧ Fp W B X (X + 1) Z l r q _ _ s x0 x1 x2 x3 true w') := fun h => fp_rretire h hk1 hk2 x2 hR
          have HI' : Aside (AS.Inv s' ∧ s'.ls.length ≤ t + 1 ∧ s'.rs.length ≤ t + 1) := by
            have h1 := hI.retire x2
            rw [hR] at h1
            have h2 := AS.retire_len hR
            have h3 := HM.out
            exact ⟨h1, by omega, by omega⟩
          clear hR
          have c0 := F0.cur.q0; have c1 := F0.cur.q1; have c2 := F0.cur.q2
          have e2 := F0.act.q2; have e4 := F0.act.q4
          go_wp2_with (first
            | (go_at_call 9; with_reducible refine hret.mono ?_; clear hret c0 c1 c2 e2 e4; rintro x w8 ⟨lm', rm', hx, st8, F8⟩; subst hx; have c0 := F8.cur.q0; have c1 := F8.cur.q1; have c2 := F8.cur.q2; have xf0 := F8.cur.f0; have xf1 := F8.cur.f1; have xf2 := F8.cur.f2; have F9 := F8.putS st8; have d0 := F9.doc.q0; have d1 := F9.doc.q1; have d2 := F9.doc.q2; have e2 := F9.act.q2)
            | (go_at_call 11; have hh := hrr.out F9; with_reducible refine hh.mono ?_; clear hh c0 c1 c2 xf0 xf1 xf2 d0 d1 d2 e2 F8 st8; rintro x w10 ⟨aL', nL', cL', aR', nR', cR', hx, st10, F10⟩; subst hx; have d0 := F10.doc.q0; have d1 := F10.doc.q1; have d2 := F10.doc.q2; have df0 := F10.doc.f0; have df1 := F10.doc.f1; have df2 := F10.doc.f2)) 
          have F11 := F10.putD st10
          go_meet
          exact ⟨f, lm', rm', s', aL', nL', cL', aR', nR', cR', rfl, rfl, HI'.out.1, HI'.out.2.1, HI'.out.2.2, F11⟩
        | false =>
          obtain ⟨s', f, hR⟩ : ∃ s' f, s.Point x0 x1 x2 x3 = (s', f) := ⟨_, _, rfl⟩
          have hret := fp_point F0 hI x0 x1 x2 x3 hR
          have hrr : Aside (∀ {v : World} {l r : Option Nat} {q : AS}, Fp W B X (X + 1) Z l r q (.slice aL nL cL) (.slice aR nR cR) s x0 x1 x2 x3 false v → Calls Tryz.prog 12 #[rfV (.slice aL nL cL) (.slice aR nR cR) s.c, .int .i64 x0, .int .i64 x1, .int .u64 x2, .int .i64 x3] v fun x w' => ∃ aL nL2 cL2 aR nR2 cR2, x = .returned (.tuple #[rfV (.slice aL nL2 cL2) (.slice aR nR2 cR2) s'.c, .int .i64 f]) ∧ RefAt w' (.slice aL nL2 cL2) (.slice aR nR2 cR2) s' ∧ Fp W B X (X + 1) Z l r q _ _ s x0 x1 x2 x3 false w') := fun h => fp_rpoint h hI hk1 hk2 x0 x1 x2 x3 hR
          have HI' : Aside (AS.Inv s' ∧ s'.ls.length ≤ t + 1 ∧ s'.rs.length ≤ t + 1) := by
            have h1 := hI.Point x0 x1 x2 x3
            rw [hR] at h1
            have h2 := AS.point_len hR
            have h3 := HM.out
            exact ⟨h1, by omega, by omega⟩
          clear hR
          have c0 := F0.cur.q0; have c1 := F0.cur.q1; have c2 := F0.cur.q2
          have e0 := F0.act.q0; have e1 := F0.act.q1; have e2 := F0.act.q2; have e3 := F0.act.q3; have e4 := F0.act.q4
          have hx3 := (u8_conv0 w3').1
          have hx3' := (u8_conv0 w3').2
          go_wp2_with (first
            | (go_at_call 10; with_reducible refine hret.mono ?_; clear hret c0 c1 c2 e0 e1 e2 e3 e4; rintro x w8 ⟨lm', rm', hx, st8, F8⟩; subst hx; have c0 := F8.cur.q0; have c1 := F8.cur.q1; have c2 := F8.cur.q2; have xf0 := F8.cur.f0; have xf1 := F8.cur.f1; have xf2 := F8.cur.f2; have F9 := F8.putS st8; have d0 := F9.doc.q0; have d1 := F9.doc.q1; have d2 := F9.doc.q2; have e0 := F9.act.q0; have e1 := F9.act.q1; have e2 := F9.act.q2; have e3 := F9.act.q3)
            | (go_at_call 12; have hh := hrr.out F9; with_reducible refine hh.mono ?_; clear hh c0 c1 c2 xf0 xf1 xf2 d0 d1 d2 e0 e1 e2 e3 F8 st8; rintro x w10 ⟨aL', nL', cL', aR', nR', cR', hx, st10, F10⟩; subst hx; have d0 := F10.doc.q0; have d1 := F10.doc.q1; have d2 := F10.doc.q2; have df0 := F10.doc.f0; have df1 := F10.doc.f1; have df2 := F10.doc.f2))
          have F11 := F10.putD st10
          go_meet
          exact ⟨f, lm', rm', s', aL', nL', cL', aR', nR', cR', rfl, rfl, HI'.out.1, HI'.out.2.1, HI'.out.2.2, F11⟩
      case rest =>
        obtain ⟨f, lm3, rm3, s3, aL3, nL3, cL3, aR3, nR3, cR3, rfl, rfl, hI3, hm31, hm32, F3⟩ := hcut
        clear F0 HM
        obtain rfl : nL3 = s3.ls.length := own_len F3.dst.l
        have hk31 : s3.ls.length ≤ 1000 := by omega
        have hk32 : s3.rs.length ≤ 1000 := by omega
        have HI3 : Aside (s3.ls.length ≤ t + 1 ∧ s3.rs.length ≤ t + 1) := ⟨hm31, hm32⟩
        clear hm31 hm32
        have c0 := F3.cur.q0; have c1 := F3.cur.q1; have c2 := F3.cur.q2
        have e2 := F3.act.q2
        go_upto_region 19 with (first
          | (go_at_call 6; have hh := fp_holder F3 x2; with_reducible refine hh.mono ?_; clear hh c0 c1 c2 e2; rintro x w4 ⟨hx, F4⟩; subst hx; have d0 := F4.doc.q0; have d1 := F4.doc.q1; have d2 := F4.doc.q2; have e2 := F4.act.q2)
          | (go_at_call 13; have hh := fp_rholder F4 hk31 x2; with_reducible refine hh.mono ?_; clear hh d0 d1 d2 e2; rintro x w5 ⟨hx, F5⟩; subst hx))
        generalize (aget x2 s3.ls).getD 0 = T
        generalize (aget x2 s3.ls).isSome = ok
        go_cut [120] (fun sc wx => sc = .bool false ∧ Fp W B X (X + 1) Z lm3 rm3 s3 (.slice aL3 s3.ls.length cL3) (.slice aR3 nR3 cR3) s3 x0 x1 x2 x3 x4 wx)
        case first =>
          have F5d := F5.drew
          have c0 := F5.cur.q0; have c1 := F5.cur.q1; have c2 := F5.cur.q2
          have d0 := F5.doc.q0; have d1 := F5.doc.q1; have d2 := F5.doc.q2
          have e2 := F5.act.q2
          go_region_held3 (fun w' => w'.cell? ⟨X, 0, none⟩ = some (.map lm3) ∧ w'.cell? ⟨X, 1, none⟩ = some (.map rm3) ∧ w'.cell? ⟨X, 2, none⟩ = some (.bool s3.c) ∧ w'.cell? ⟨X + 1, 0, none⟩ = some (.slice aL3 s3.ls.length cL3) ∧ w'.cell? ⟨X + 1, 1, none⟩ = some (.slice aR3 nR3 cR3) ∧ w'.cell? ⟨X + 1, 2, none⟩ = some (.bool s3.c) ∧ w'.cell? ⟨Z, 2, none⟩ = some (.int .u64 x2))
            (first | go_keep | exact ⟨k7.cur.q0, k7.cur.q1, k7.cur.q2, k7.doc.q0, k7.doc.q1, k7.doc.q2, k7.act.q2⟩ | exact ⟨k14.cur.q0, k14.cur.q1, k14.cur.q2, k14.doc.q0, k14.doc.q1, k14.doc.q2, k14.act.q2⟩ | exact ⟨k15.cur.q0, k15.cur.q1, k15.cur.q2, k15.doc.q0, k15.doc.q1, k15.doc.q2, k15.act.q2⟩ | exact ⟨k8.cur.q0, k8.cur.q1, k8.cur.q2, k8.doc.q0, k8.doc.q1, k8.doc.q2, k8.act.q2⟩)
            (first
              | (go_at_call 7; have hh := fp_retired F5d x2; with_reducible refine hh.mono ?_; clear hh; rintro e w7 ⟨he, k7⟩; subst he)
              | (go_at_call 7; have hh := fp_retired k14 x2; with_reducible refine hh.mono ?_; clear hh; rintro e w7 ⟨he, k7⟩; subst he)
              | (go_at_call 14; have hh := fp_rretired F5d hk32 x2; with_reducible refine hh.mono ?_; clear hh; rintro e w14 ⟨he, k14⟩; subst he)
              | (go_at_call 14; have hh := fp_rretired k7 hk32 x2; with_reducible refine hh.mono ?_; clear hh; rintro e w14 ⟨he, k14⟩; subst he)
              | (go_at_call 15; have hh := fp_closed k14 ; with_reducible refine hh.mono ?_; clear hh; rintro e w15 ⟨he, k15⟩; subst he)
              | (go_at_call 15; have hh := fp_closed k7 ; with_reducible refine hh.mono ?_; clear hh; rintro e w15 ⟨he, k15⟩; subst he)
              | (go_at_call 8; have hh := fp_leases k15 hI3; with_reducible refine hh.mono ?_; clear hh; rintro e w8 ⟨he, k8⟩; subst he)
              | (go_at_call 8; have hh := fp_leases k14 hI3; with_reducible refine hh.mono ?_; clear hh; rintro e w8 ⟨he, k8⟩; subst he)
              | (go_at_call 8; have hh := fp_leases k7 hI3; with_reducible refine hh.mono ?_; clear hh; rintro e w8 ⟨he, k8⟩; subst he))
          all_goals (go_wp2_with fail; go_meet; exact ⟨by first | rfl | simp, by assumption⟩)
        case rest =>
          obtain ⟨rfl, F6⟩ := hcut
          go_wp2
          go_roundg (n - (t + 1))
          case measure => omega
          case rel => exact ⟨t + 1, s3, lm3, rm3, aL3, s3.ls.length, cL3, aR3, nR3, cR3, by omega, rfl, by go_num, hI3, HI3.out.1, HI3.out.2, F6.cur, F6.st, F6.doc, F6.dst, F6.low⟩
    · have hkn : t = n := by omega
      subst hkn
      go_wp2
      go_ret
      exact ⟨rfl, low⟩

end Go.Proofs.YthpfbljbifcaoaaGreatDoor

namespace Go.Proofs.YthpfbljbifcaoaaGreatDoor
open Go.ChangeShapes Go.WideShapes Go.ChangeAt Go.RowKit Go.Eng Go.Deep

set_option maxRecDepth 1000000 in
theorem plays_long (W : World) (B : Nat) (haw : Calls Tryz.prog 5 #[] W fun e w' => e = .returned (.bool true) ∧ Below B W w') (p : Option Addr) (n cap : Nat) (hn : 100 < n) :
    Calls Tryz.prog 4 #[.slice p n cap] W fun e w' => e = .returned (.bool true) ∧ Below B W w' := by
  go_enter Tryz.func4, Tryz.ntmps4
  go_wp2_with (go_at_call 5; with_reducible refine haw.mono ?_; rintro e w1 ⟨rfl, b1⟩)
  go_ret
  exact ⟨rfl, b1⟩

set_option maxRecDepth 1000000 in
theorem plays_empty (W : World) (B : Nat) (hB : B = W.heap.size) (haw : Calls Tryz.prog 5 #[] W fun e w' => e = .returned (.bool true) ∧ Below B W w') (p : Option Addr) (cap : Nat) :
    Calls Tryz.prog 4 #[.slice p 0 cap] W fun e w' => e = .returned (.bool true) ∧ Below B W w' := by
  have hBl : B ≤ W.heap.size := Nat.le_of_eq hB
  clear hB
  go_enter Tryz.func4, Tryz.ntmps4
  go_wp2_with (go_at_call 5; with_reducible refine haw.mono ?_; rintro e w1 ⟨rfl, b1⟩; have s1 := Nat.le_trans hBl b1.size)
  have hlow : Below B W ((w1.alloc (.cells #[.map none, .map none, .bool false] 27)).alloc (.cells #[.slice none 0 0, .slice none 0 0, .bool false] 43)) := b1.trans (((below_alloc w1 _).alloc (by simp) _).mono s1)
  clear b1 haw
  generalize (w1.alloc (.cells #[.map none, .map none, .bool false] 27)).alloc (.cells #[.slice none 0 0, .slice none 0 0, .bool false] 43) = w2 at hlow ⊢
  refine wp_loop_rounds 1 ?_
  rw [rounds_succ]
  go_wp2
  go_ret
  exact ⟨rfl, hlow⟩

/-- The law, at whatever slice of acts. -/
theorem plays_all (W : World) (haw : Calls Tryz.prog 5 #[] W fun e w' => e = .returned (.bool true) ∧ Below W.heap.size W w') (a0 : Option Addr) (n cap : Nat)
    (F : n = 0 ∨ ∃ b off, a0 = some ⟨b, off, none⟩ ∧ b < W.heap.size ∧ ∀ i, i < n → FiveBAt W b (off + i * 5) .i64 .i64 .u64 .u8) :
    Calls Tryz.prog 4 #[.slice a0 n cap] W fun e w' => e = .returned (.bool true) ∧ Below W.heap.size W w' := by
  by_cases h100 : 100 < n
  · exact plays_long W _ haw a0 n cap h100
  · rcases F with rfl | ⟨b, off, rfl, hb, hF⟩
    · exact plays_empty W _ rfl haw a0 cap
    · exact plays_some W _ rfl haw b off n cap (by omega) hb hF

end Go.Proofs.YthpfbljbifcaoaaGreatDoor
