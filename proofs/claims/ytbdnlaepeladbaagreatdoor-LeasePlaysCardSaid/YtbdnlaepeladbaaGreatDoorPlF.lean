/- The law's switch at each act. Conditions: how both books lie in memory. -/
import Derived.Test.YtbdnlaepeladbaaGreatDoorPlE
import Derived.Deep.CutBlock
namespace Go.Proofs.YtbdnlaepeladbaaGreatDoor
open Go.ChangeShapes Go.WideShapes Go.ChangeAt Go.RowKit Go.Eng

variable {w w' W v v' : World} {b ml mm wl mt : Nat} {B : BK} {d : RK} {aL aM aT : Option Addr} {cL cM cT : Nat} {X : Nat} {lk : Int}

/-- A book is stored in the box. -/
def putB (v : World) (X : Nat) (lk : Int) (vL vM vT : Value) : World := (((v.setCell ⟨X, 0, none⟩ (.int .u64 lk)).setCell ⟨X, 1, none⟩ vL).setCell ⟨X, 2, none⟩ vM).setCell ⟨X, 3, none⟩ vT

theorem putB_other {vL vM vT : Value} {g : Nat} (h : g ≠ X) : (putB v X lk vL vM vT).heap[g]? = v.heap[g]? := by
  unfold putB
  rw [Below.heap_setCell _ _ _ _ h, Below.heap_setCell _ _ _ _ h, Below.heap_setCell _ _ _ _ h, Below.heap_setCell _ _ _ _ h]
theorem putB_row {lk0 : Int} {vL vM vT uL uM uT : Value} (h : RowB v X lk0 uL uM uT) : RowB (putB v X lk vL vM vT) X lk vL vM vT := (((h.set0 lk).set1 vL).set2 vM).set3 vT
theorem putB_below {B0 : Nat} {vL vM vT : Value} (h : Below B0 w v) (hX : B0 ≤ X) : Below B0 w (putB v X lk vL vM vT) := (((h.setCell hX _).setCell hX _).setCell hX _).setCell hX _
theorem putB_size {vL vM vT : Value} : (putB v X lk vL vM vT).heap.size = v.heap.size := by unfold putB; simp

/-- Values that are no slice. -/
def NoSl (u : Value) : Prop := ∀ a n c, u ≠ .slice a n c

theorem putB_seq {α : Type} {enc : α → List Value} {sz cap : Nat} {a : Option Addr} {xs : List α} (he : ∀ x, ∀ u ∈ enc x, NoSl u) {vL vM vT : Value} {a1 a2 a3 : Option Addr} {n1 n2 n3 c1 c2 c3 : Nat} (hx : RowB v X lk (.slice a1 n1 c1) (.slice a2 n2 c2) (.slice a3 n3 c3)) (h : SeqIn v sz enc a cap xs) : SeqIn (putB v X lk vL vM vT) sz enc a cap xs :=
  ⟨h.le, h.no, h.plain, fun k x hk => by
    obtain ⟨g, o, e, hc⟩ := h.cell k x hk
    refine ⟨g, o, e, fun j u hj => ?_⟩
    have h1 := hc j u hj
    have hu := he x u (List.mem_of_getElem? hj)
    by_cases hg : g = X
    · subst hg
      generalize o + k * sz + j = p at h1 ⊢
      match p, h1 with
      | 0, h1 =>
        rw [RowB.q0 hx] at h1
        rw [RowB.q0 (putB_row hx)]
        exact h1
      | 1, h1 => rw [RowB.q1 hx] at h1; exact absurd (Option.some.inj h1).symm (hu _ _ _)
      | 2, h1 => rw [RowB.q2 hx] at h1; exact absurd (Option.some.inj h1).symm (hu _ _ _)
      | 3, h1 => rw [RowB.q3 hx] at h1; exact absurd (Option.some.inj h1).symm (hu _ _ _)
      | p + 4, h1 =>
        unfold RowB at hx
        simp [World.cell?, hx] at h1
    · simp only [World.cell?] at h1 ⊢
      rw [putB_other hg]; exact h1⟩

theorem leE_nosl (x : Int × Le) : ∀ u ∈ leE x, NoSl u := by
  intro u hu a n c e
  simp only [leE, List.mem_cons, List.not_mem_nil, or_false] at hu
  subst e
  rcases hu with h | h | h | h <;> cases h
theorem tmE_nosl (x : Int × Int) : ∀ u ∈ tmE x, NoSl u := by
  intro u hu a n c e
  simp only [tmE, List.mem_cons, List.not_mem_nil, or_false] at hu
  subst e
  rcases hu with h | h <;> cases h
theorem idE_nosl (x : Int) : ∀ u ∈ idE x, NoSl u := by
  intro u hu a n c e
  simp only [idE, List.mem_cons, List.not_mem_nil, or_false] at hu
  subst e
  cases hu

theorem RbAt.putB {vL vM vT : Value} {a1 a2 a3 : Option Addr} {n1 n2 n3 c1 c2 c3 : Nat} (hx : RowB v X lk (.slice a1 n1 c1) (.slice a2 n2 c2) (.slice a3 n3 c3)) (h : RbAt v d aL aM aT cL cM cT) : RbAt (putB v X lk vL vM vT) d aL aM aT cL cM cT :=
  ⟨putB_seq leE_nosl hx h.l, putB_seq idE_nosl hx h.m, putB_seq tmE_nosl hx h.t⟩

theorem BkAt.putB {vL vM vT uL uM uT : Value} (hx : RowB v X lk uL uM uT) (h : BkAt v b ml mm wl mt B) : BkAt (putB v X lk vL vM vT) b ml mm wl mt B := by
  unfold RowB at hx
  have n1 : b ≠ X := by rintro rfl; rw [h.row] at hx; simp at hx
  have n2 : wl ≠ X := by rintro rfl; rw [h.wh.row] at hx; simp at hx
  have n3 : ml ≠ X := map_ne h.ls hx
  have n4 : mm ≠ X := map_ne h.ms hx
  have n5 : mt ≠ X := map_ne h.wh.tt hx
  exact ⟨(putB_other n1).trans h.row, h.ls.same (putB_other n3), h.kl, h.ms.same (putB_other n4), h.km, ⟨(putB_other n2).trans h.wh.row, h.wh.tt.same (putB_other n5), h.wh.kt⟩, h.lm, h.lt, h.mt⟩

/-- Rows stay where only maps are changed. -/
theorem SeqIn.upto {S : Nat → Prop} {α : Type} {enc : α → List Value} {sz cap : Nat} {a : Option Addr} {xs : List α} (h : SeqIn v sz enc a cap xs) (hu : Upto S v v') (hS : ∀ k, S k → ∃ es ck, v.heap[k]? = some (.map es ck)) : SeqIn v' sz enc a cap xs :=
  h.same fun _ _ _ _ _ hc => hu.cell hc hS
theorem RbAt.upto {S : Nat → Prop} (h : RbAt v d aL aM aT cL cM cT) (hu : Upto S v v') (hS : ∀ k, S k → ∃ es ck, v.heap[k]? = some (.map es ck)) : RbAt v' d aL aM aT cL cM cT :=
  ⟨SeqIn.upto h.l hu hS, SeqIn.upto h.m hu hS, SeqIn.upto h.t hu hS⟩
theorem RowB.upto {S : Nat → Prop} {vL vM vT : Value} (h : RowB v X lk vL vM vT) (hu : Upto S v v') (hS : ∀ k, S k → ∃ es ck, v.heap[k]? = some (.map es ck)) : RowB v' X lk vL vM vT := by
  have hl := RowB.lt h
  unfold RowB at h ⊢
  rw [hu.block X hl fun hs => by obtain ⟨es, ck, e⟩ := hS X hs; rw [h] at e; cases e]
  exact h

/-- What holds at each round of the law. -/
structure PL (W : World) (X k : Nat) (lk : Int) (b ml mm wl mt : Nat) (B : BK) (d : RK) (aL aM aT : Option Addr) (cL cM cT : Nat) (v : World) : Prop where
  bk : BkAt v b ml mm wl mt B
  box : RowB v X lk (.slice aL d.L.length cL) (.slice aM d.M.length cM) (.slice aT d.T.length cT)
  rb : RbAt v d aL aM aT cL cM cT
  lkd : d.leak = lk
  low : Below W.heap.size W v
  hX : W.heap.size ≤ X
  hm : W.heap.size ≤ ml ∧ W.heap.size ≤ mm ∧ W.heap.size ≤ mt

variable {k : Nat}
theorem PL.below (h : PL W X k lk b ml mm wl mt B d aL aM aT cL cM cT v) (hb : Below v.heap.size v v') : PL W X k lk b ml mm wl mt B d aL aM aT cL cM cT v' :=
  ⟨h.bk.below hb, RowB.below h.box hb (RowB.lt h.box), h.rb.below hb, h.lkd, h.low.trans (hb.mono h.low.size), h.hX, h.hm⟩
theorem BkAt.objs3 (h : BkAt v b ml mm wl mt B) : ∀ k, k = ml ∨ k = mm ∨ k = mt → ∃ es ck, v.heap[k]? = some (.map es ck) := by
  rintro k (e | e | e)
  · rw [e]; exact MapSt.obj h.ls
  · rw [e]; exact MapSt.obj h.ms
  · rw [e]; exact MapSt.obj h.wh.tt
/-- The program's book is changed. -/
theorem PL.acts {B' : BK} (h : PL W X k lk b ml mm wl mt B d aL aM aT cL cM cT v) (hb : BkAt v' b ml mm wl mt B') (hu : Upto (fun j => j = ml ∨ j = mm ∨ j = mt) v v') : PL W X k lk b ml mm wl mt B' d aL aM aT cL cM cT v' :=
  ⟨hb, RowB.upto h.box hu h.bk.objs3, RbAt.upto h.rb hu h.bk.objs3, h.lkd, h.low.trans (hu.below h.low.size (by
    rintro j (e | e | e)
    · rw [e]; exact h.hm.1
    · rw [e]; exact h.hm.2.1
    · rw [e]; exact h.hm.2.2)), h.hX, h.hm⟩
/-- The document's book is stored anew. -/
theorem PL.store {d' : RK} {aL' aM' aT' : Option Addr} {cL' cM' cT' : Nat} (h : PL W X k lk b ml mm wl mt B d aL aM aT cL cM cT v) (hr : RbAt v d' aL' aM' aT' cL' cM' cT') (hd : d'.leak = lk) : PL W X k lk b ml mm wl mt B d' aL' aM' aT' cL' cM' cT' (putB v X lk (.slice aL' d'.L.length cL') (.slice aM' d'.M.length cM') (.slice aT' d'.T.length cT')) :=
  ⟨BkAt.putB h.box h.bk, putB_row h.box, RbAt.putB h.box hr, hd, putB_below h.low h.hX, h.hX, h.hm⟩

theorem BkAt.uptoS {S : Nat → Prop} (h : BkAt v b ml mm wl mt B) (hu : Upto S v v') (hS : ∀ k, S k → ∃ es ck, v.heap[k]? = some (.map es ck)) (h1 : ¬ S ml) (h2 : ¬ S mm) (h3 : ¬ S mt) : BkAt v' b ml mm wl mt B := by
  have nb : ¬ S b := fun hs => by obtain ⟨es, ck, e⟩ := hS b hs; rw [h.row] at e; cases e
  have nw : ¬ S wl := fun hs => by obtain ⟨es, ck, e⟩ := hS wl hs; rw [h.wh.row] at e; cases e
  exact ⟨(hu.block b h.blt nb).trans h.row, h.ls.same (hu.block ml h.ls.lt h1), h.kl, h.ms.same (hu.block mm h.ms.lt h2), h.km, ⟨(hu.block wl h.wh.lt nw).trans h.wh.row, h.wh.tt.same (hu.block mt h.wh.tt.lt h3), h.wh.kt⟩, h.lm, h.lt, h.mt⟩

/-- Another book is changed. -/
theorem PL.other {S : Nat → Prop} (h : PL W X k lk b ml mm wl mt B d aL aM aT cL cM cT v) (hu : Upto S v v') (hS : ∀ k, S k → ∃ es ck, v.heap[k]? = some (.map es ck)) (hlow : ∀ j, S j → W.heap.size ≤ j) (h1 : ¬ S ml) (h2 : ¬ S mm) (h3 : ¬ S mt) : PL W X k lk b ml mm wl mt B d aL aM aT cL cM cT v' :=
  ⟨h.bk.uptoS hu hS h1 h2 h3, RowB.upto h.box hu hS, RbAt.upto h.rb hu hS, h.lkd, h.low.trans (hu.below h.low.size hlow), h.hX, h.hm⟩

end Go.Proofs.YtbdnlaepeladbaaGreatDoor

namespace Go.Proofs.YtbdnlaepeladbaaGreatDoor
open Go.ChangeShapes Go.WideShapes Go.ChangeAt Go.RowKit Go.Eng

variable {w w' W v v' : World} {b ml mm wl mt : Nat} {B B' : BK} {d d' : RK} {aL aM aT aL' aM' aT' : Option Addr} {cL cM cT cL' cM' cT' : Nat} {X Y k : Nat} {lk dd id t nw : Int}

/-- An act in memory. -/
structure ActQ (v : World) (blk o : Nat) (d i t nw : Int) : Prop where
  c0 : v.cell? ⟨blk, o, none⟩ = some (.int .u8 d)
  c1 : v.cell? ⟨blk, o + 1, none⟩ = some (.int .u64 i)
  c2 : v.cell? ⟨blk, o + 2, none⟩ = some (.int .i64 t)
  c3 : v.cell? ⟨blk, o + 3, none⟩ = some (.int .u64 nw)

theorem ActQ.below {o : Nat} (h : ActQ v Y o dd id t nw) (hb : Below v.heap.size v v') : ActQ v' Y o dd id t nw :=
  ⟨cell_below hb h.c0, cell_below hb h.c1, cell_below hb h.c2, cell_below hb h.c3⟩
theorem ActQ.upto {S : Nat → Prop} {o : Nat} (h : ActQ v Y o dd id t nw) (hu : Upto S v v') (hS : ∀ k, S k → ∃ es ck, v.heap[k]? = some (.map es ck)) : ActQ v' Y o dd id t nw :=
  ⟨hu.cell h.c0 hS, hu.cell h.c1 hS, hu.cell h.c2 hS, hu.cell h.c3 hS⟩
theorem ActQ.putB {o : Nat} {vL vM vT : Value} (h : ActQ v Y o dd id t nw) (hne : Y ≠ X) : ActQ (putB v X lk vL vM vT) Y o dd id t nw := by
  obtain ⟨h0, h1, h2, h3⟩ := h
  simp only [World.cell?] at h0 h1 h2 h3
  exact ⟨by simp only [World.cell?]; rw [putB_other hne]; exact h0, by simp only [World.cell?]; rw [putB_other hne]; exact h1, by simp only [World.cell?]; rw [putB_other hne]; exact h2, by simp only [World.cell?]; rw [putB_other hne]; exact h3⟩

/-- In a round: the act lies in Y. -/
structure QL (W : World) (X Y k : Nat) (lk dd id t nw : Int) (b ml mm wl mt : Nat) (B : BK) (d : RK) (aL aM aT : Option Addr) (cL cM cT : Nat) (v : World) : Prop where
  p : PL W X k lk b ml mm wl mt B d aL aM aT cL cM cT v
  a : ActQ v Y 0 dd id t nw
  ne : Y ≠ X

theorem QL.below (h : QL W X Y k lk dd id t nw b ml mm wl mt B d aL aM aT cL cM cT v) (hb : Below v.heap.size v v') : QL W X Y k lk dd id t nw b ml mm wl mt B d aL aM aT cL cM cT v' := ⟨h.p.below hb, h.a.below hb, h.ne⟩
theorem QL.acts (h : QL W X Y k lk dd id t nw b ml mm wl mt B d aL aM aT cL cM cT v) (hb : BkAt v' b ml mm wl mt B') (hu : Upto (fun j => j = ml ∨ j = mm ∨ j = mt) v v') : QL W X Y k lk dd id t nw b ml mm wl mt B' d aL aM aT cL cM cT v' := ⟨h.p.acts hb hu, h.a.upto hu h.p.bk.objs3, h.ne⟩
theorem QL.store (h : QL W X Y k lk dd id t nw b ml mm wl mt B d aL aM aT cL cM cT v) (hr : RbAt v d' aL' aM' aT' cL' cM' cT') (hd : d'.leak = lk) : QL W X Y k lk dd id t nw b ml mm wl mt B d' aL' aM' aT' cL' cM' cT' (putB v X lk (.slice aL' d'.L.length cL') (.slice aM' d'.M.length cM') (.slice aT' d'.T.length cT')) := ⟨h.p.store hr hd, h.a.putB h.ne, h.ne⟩

end Go.Proofs.YtbdnlaepeladbaaGreatDoor

namespace Go.Proofs.YtbdnlaepeladbaaGreatDoor
open Go.ChangeShapes Go.WideShapes Go.ChangeAt Go.RowKit Go.Eng

variable {w w' W v v' : World} {b ml mm wl mt : Nat} {B B' : BK} {d : RK} {aL aM aT : Option Addr} {cL cM cT : Nat} {X Y k : Nat} {lk : Int}

/-- What the document's act hands back, beside the program's. -/
def StepR (w : World) (lk : Int) (B2 : BK) (k : Nat) (f : Int) (e : Ending) (w' : World) : Prop :=
  ∃ d2 aL cL aM cM aT cT nL nM nT, e = .returned (.tuple #[.agg #[.int .u64 lk, .slice aL nL cL, .slice aM nM cM, .slice aT nT cT], .int .i64 f]) ∧ (nL = List.length d2.L ∧ nM = List.length d2.M ∧ nT = List.length d2.T) ∧ RbAt w' d2 aL aM aT cL cM cT ∧ Rel B2 d2 (k + 1) ∧ d2.leak = lk ∧ Below w.heap.size w w'

theorem stepR_of {B2 : BK} {d2 : RK} {f : Int} {e : Ending} (h : BackF w d2 f e w') (hr : Rel B2 d2 (k + 1)) (hl : d2.leak = lk) : StepR w lk B2 k f e w' := by
  obtain ⟨aL, cL, aM, cM, aT, cT, he, hb, hw⟩ := h
  exact ⟨d2, aL, cL, aM, cM, aT, cT, _, _, _, by rw [he, hl], ⟨rfl, rfl, rfl⟩, hb, hr, hl, hw⟩

theorem step_end (h : RbAt w d aL aM aT cL cM cT) (hr : Rel B d k) (hk : k ≤ 1000) (id t : Int) :
    Calls Tryz.prog 21 #[rbV d.leak aL d.L.length cL aM d.M.length cM aT d.T.length cT, .int .u64 id, .int .i64 t] w fun e w' => StepR w d.leak (B.end_ id t).1 k (B.end_ id t).2 e w' := by
  obtain ⟨h1, h2⟩ := hr.end_ id t
  refine (rend_calls h hr.kL (Nat.le_trans hr.len hk) (Nat.le_trans (Nat.le_trans hr.tle hr.len) hk) id t).mono fun e w' hb => ?_
  rw [h1]
  refine stepR_of hb (h2.mono (Nat.le_succ _)) ?_
  split <;> rfl

theorem step_mark (h : RbAt w d aL aM aT cL cM cT) (hr : Rel B d k) (hk : k ≤ 1000) (id t : Int) :
    Calls Tryz.prog 22 #[rbV d.leak aL d.L.length cL aM d.M.length cM aT d.T.length cT, .int .u64 id, .int .i64 t] w fun e w' => StepR w d.leak (B.mark id t).1 k (B.mark id t).2 e w' := by
  obtain ⟨h1, h2⟩ := hr.mark id t
  refine (rmark_calls h (Nat.le_trans hr.len hk) (Nat.le_trans hr.mlen hk) id t).mono fun e w' hb => ?_
  rw [h1]
  refine stepR_of hb h2 ?_
  split <;> rfl

theorem step_begin (h : RbAt w d aL aM aT cL cM cT) (hr : Rel B d k) (hk : k ≤ 999) (id t : Int) {now : Int} (hu : U64 d.leak) (hn : U64 now) (hid : (Lit.int .u64 id).wf = true) :
    Calls Tryz.prog 27 #[rbV d.leak aL d.L.length cL aM d.M.length cM aT d.T.length cT, .int .u64 id, .int .i64 t, .int .u64 now] w fun e w' => StepR w d.leak (B.begin id t now).1 k (B.begin id t now).2 e w' := by
  have hl := Nat.le_trans hr.len (show k ≤ 1000 by omega)
  have htl := Nat.le_trans hr.tle hl
  by_cases ht : t < 0 ∨ 7 < t
  · obtain ⟨h1, h2⟩ := hr.begin_range (id := id) (now := now) ht
    refine (rbegin_range h id t now ht).mono fun e w' hb => ?_
    rw [h1]
    exact stepR_of hb h2 rfl
  · have ht' : 0 ≤ t ∧ t ≤ 7 := by omega
    cases hs : aget id d.L with
    | some x =>
      have hs' : (aget id d.L).isSome := by rw [hs]; rfl
      obtain ⟨h1, h2⟩ := hr.begin_twice (now := now) ht' hs'
      refine (rbegin_twice h hl id t now ht' hs').mono fun e w' hb => ?_
      rw [h1]
      exact stepR_of hb h2 rfl
    | none =>
      refine (rbegin_new h hl htl id t now ht' hs hu hn).mono fun e w' hb => ?_
      obtain ⟨i, hI, hh⟩ := hb
      obtain ⟨h1, h2, h3⟩ := hr.begin_new (by omega) (now := now) ht' hs hid hI
      rw [h1]
      rcases hh with ⟨h0, hb⟩ | ⟨h0, m, hm, hb⟩
      · exact stepR_of hb (h2 h0) rfl
      · exact stepR_of hb (h3 h0 m hm) rfl

end Go.Proofs.YtbdnlaepeladbaaGreatDoor

namespace Go.Proofs.YtbdnlaepeladbaaGreatDoor
open Go.ChangeShapes Go.WideShapes Go.ChangeAt Go.RowKit Go.Eng

/-- A block within a code. -/
def _root_.Go.Code.blk (k : Nat) : Code → Option Code
  | .block id c => if id = k then some (.block id c) else c.blk k
  | .seq a b => match a.blk k with
    | some x => some x
    | none => b.blk k
  | .cond _ a b => match a.blk k with
    | some x => some x
    | none => b.blk k
  | .loop c => c.blk k
  | .scope c => c.blk k
  | _ => none

variable {W w : World} {b ml mm wl mt : Nat} {B : BK} {d : RK} {aL aM aT : Option Addr} {cL cM cT : Nat} {X Y k : Nat} {lk dd id t nw q : Int}

set_option maxHeartbeats 4000000 in
set_option maxRecDepth 1000000 in
theorem switch_end (code : Code) (hcode : (Tryz.f4.body.bind (Code.blk 2)) = some code) (Q : Exit → Act → World → Prop)
    (hq : QL W X Y k lk dd id t nw b ml mm wl mt B d aL aM aT cL cM cT w) (hrel : Rel B d k) (hk : k ≤ 200) (hq3 : q = 3 ∨ q = 4)
    {u0 u1 u2 u3 u4 u7 u9 u12 u13 u14 u15 u16 u17 u18 u19 u20 u21 u22 u23 u24 u25 u26 u27 u28 u29 u30 u31 u32 u33 u34 u35 u36 u37 u38 u39 u40 u41 u42 u43 u44 u45 u46 u47 u48 u50 u51 u52 u53 u54 u55 u56 u57 u58 u59 u60 u61 u62 u63 u64 u65 u66 u67 u68 u69 u70 u71 u72 u73 u74 u75 u76 u77 u78 u79 u80 u81 u82 u83 u84 u85 u86 u87 u88 u89 u90 u91 u92 u93 u94 u95 u96 u97 u98 u99 u100 u101 u102 u103 u104 u105 u106 u107 u108 u109 u110 u111 u112 u113 u114 u115 u116 u117 u118 u119 u120 u121 u122 u123 u124 u125 u126 u127 u128 u129 u130 u131 u132 u133 u134 u135 u136 u137 u138 u139 u140 u141 u142 u143 u144 : Value}
    (hQ : Aside (∀ (v12 v13 v50 v51 v52 v53 v54 v55 v56 v57 v58 v59 v60 v61 v62 v63 v64 v65 v66 v67 v68 v69 v70 v71 v72 v73 v74 v75 v76 v77 v78 v79 v80 v81 v82 v83 v84 v85 v86 v87 v88 v89 v90 v91 v92 v93 v94 v95 v96 v97 v98 v99 v100 v101 v102 v103 v104 v105 v106 v107 v108 v109 v110 v111 v112 v113 v114 v115 v116 v117 v118 v119 v120 v121 v122 v123 v124 v125 v126 v127 v128 v129 v130 : Value) (wx : World) (f : Int) (B2 : BK) (d2 : RK) (aL aM aT : Option Addr) (cL cM cT : Nat), QL W X Y k lk dd id t nw b ml mm wl mt B2 d2 aL aM aT cL cM cT wx → Rel B2 d2 (k + 1) → Q .normal { tmps := #[u0, u1, u2, u3, u4, .pointer (some ⟨b, 0, none⟩), .pointer (some ⟨X, 0, none⟩), u7, .pointer (some ⟨Y, 0, none⟩), u9, .int .i64 f, .int .i64 f, v12, v13, u14, u15, u16, u17, u18, u19, u20, u21, u22, u23, u24, u25, u26, u27, u28, u29, u30, u31, u32, u33, u34, u35, u36, u37, u38, u39, u40, u41, u42, u43, u44, u45, u46, u47, u48, .int .u8 q, v50, v51, v52, v53, v54, v55, v56, v57, v58, v59, v60, v61, v62, v63, v64, v65, v66, v67, v68, v69, v70, v71, v72, v73, v74, v75, v76, v77, v78, v79, v80, v81, v82, v83, v84, v85, v86, v87, v88, v89, v90, v91, v92, v93, v94, v95, v96, v97, v98, v99, v100, v101, v102, v103, v104, v105, v106, v107, v108, v109, v110, v111, v112, v113, v114, v115, v116, v117, v118, v119, v120, v121, v122, v123, v124, v125, v126, v127, v128, v129, v130, u131, u132, u133, u134, u135, u136, u137, u138, u139, u140, u141, u142, u143, u144], defers := [] } wx)) :
    code.wp Tryz.prog Q { tmps := #[u0, u1, u2, u3, u4, .pointer (some ⟨b, 0, none⟩), .pointer (some ⟨X, 0, none⟩), u7, .pointer (some ⟨Y, 0, none⟩), u9, .int .i64 0, .int .i64 0, u12, u13, u14, u15, u16, u17, u18, u19, u20, u21, u22, u23, u24, u25, u26, u27, u28, u29, u30, u31, u32, u33, u34, u35, u36, u37, u38, u39, u40, u41, u42, u43, u44, u45, u46, u47, u48, .int .u8 q, u50, u51, u52, u53, u54, u55, u56, u57, u58, u59, u60, u61, u62, u63, u64, u65, u66, u67, u68, u69, u70, u71, u72, u73, u74, u75, u76, u77, u78, u79, u80, u81, u82, u83, u84, u85, u86, u87, u88, u89, u90, u91, u92, u93, u94, u95, u96, u97, u98, u99, u100, u101, u102, u103, u104, u105, u106, u107, u108, u109, u110, u111, u112, u113, u114, u115, u116, u117, u118, u119, u120, u121, u122, u123, u124, u125, u126, u127, u128, u129, u130, u131, u132, u133, u134, u135, u136, u137, u138, u139, u140, u141, u142, u143, u144], defers := [] } w := by
  obtain rfl := Option.some.inj hcode
  clear hcode
  dsimp only at hQ ⊢
  rcases hq3 with rfl | rfl
  all_goals
    have hp := end_calls hq.p.bk id t
    obtain ⟨B2, hB2⟩ : ∃ B2, B2 = (B.end_ id t).1 := ⟨_, rfl⟩
    obtain ⟨f, hf⟩ : ∃ f, f = (B.end_ id t).2 := ⟨_, rfl⟩
    rw [← hB2, ← hf] at hp
    have HFF := aside_of (And.intro hB2 hf)
    clear hB2 hf
    have q0 := hq.p.box.q0; have q1 := hq.p.box.q1; have q2 := hq.p.box.q2; have q3 := hq.p.box.q3; have f0 := RowB.fz hq.p.box 0; have f1 := RowB.fz hq.p.box 1; have f2 := RowB.fz hq.p.box 2; have f3 := RowB.fz hq.p.box 3; have a0 := hq.a.c0; have a1 := hq.a.c1; have a2 := hq.a.c2; have a3 := hq.a.c3; simp only [Nat.zero_add] at a1 a2 a3
    have HF := aside_of (And.intro hq hrel)
    clear hrel
    go_upto_region 23 with (go_at_call 11; with_reducible refine hp.mono ?_; clear hp; rintro e w1 ⟨he, hb1, hu1⟩; subst he)
    have F1 := HF.out.1.acts hb1 (hu1.mono (fun k hk => hk.elim .inl fun h => .inr (.inr h)))
    have hr := step_end F1.p.rb HF.out.2 (by omega) id t
    rw [F1.p.lkd, ← HFF.out.1, ← HFF.out.2] at hr
    clear q0 q1 q2 q3 f0 f1 f2 f3 a0 a1 a2 a3
    have q0 := F1.p.box.q0; have q1 := F1.p.box.q1; have q2 := F1.p.box.q2; have q3 := F1.p.box.q3; have f0 := RowB.fz F1.p.box 0; have f1 := RowB.fz F1.p.box 1; have f2 := RowB.fz F1.p.box 2; have f3 := RowB.fz F1.p.box 3; have a0 := F1.a.c0; have a1 := F1.a.c1; have a2 := F1.a.c2; have a3 := F1.a.c3; simp only [Nat.zero_add] at a1 a2 a3
    have H1 := aside_of F1
    clear F1 hb1 hu1 hq
    unfold StepR at hr
    go_wp2_with (go_at_call 21; with_reducible refine hr.mono ?_; clear hr; rintro e w2 ⟨d2, aL', cL', aM', cM', aT', cT', nL', nM', nT', he, hlen, hrb, hrel2, hlk, b2⟩; subst he; have F2 := H1.out.below b2; have HS := aside_of (And.intro F2 (And.intro hrb (And.intro hrel2 (And.intro hlk hlen)))); clear q0 q1 q2 q3 f0 f1 f2 f3 a0 a1 a2 a3; have q0 := F2.p.box.q0; have q1 := F2.p.box.q1; have q2 := F2.p.box.q2; have q3 := F2.p.box.q3; have f0 := RowB.fz F2.p.box 0; have f1 := RowB.fz F2.p.box 1; have f2 := RowB.fz F2.p.box 2; have f3 := RowB.fz F2.p.box 3; have a0 := F2.a.c0; have a1 := F2.a.c1; have a2 := F2.a.c2; have a3 := F2.a.c3; simp only [Nat.zero_add] at a1 a2 a3; clear F2 hrb hrel2 hlk hlen b2)
    have F3 := HS.out.1.store HS.out.2.1 HS.out.2.2.2.1
    rw [← HS.out.2.2.2.2.1, ← HS.out.2.2.2.2.2.1, ← HS.out.2.2.2.2.2.2] at F3
    unfold putB at F3
    have HZ := aside_of (And.intro F3 HS.out.2.2.1)
    exact hQ.out _ _ _ _ _ _ _ _ _ _ _ _ _ _ _ _ _ _ _ _ _ _ _ _ _ _ _ _ _ _ _ _ _ _ _ _ _ _ _ _ _ _ _ _ _ _ _ _ _ _ _ _ _ _ _ _ _ _ _ _ _ _ _ _ _ _ _ _ _ _ _ _ _ _ _ _ _ _ _ _ _ _ _ _ _ _ _ _ _ _ _ _ _ HZ.out.1 HZ.out.2

set_option maxHeartbeats 4000000 in
set_option maxRecDepth 1000000 in
theorem switch_mark (code : Code) (hcode : (Tryz.f4.body.bind (Code.blk 2)) = some code) (Q : Exit → Act → World → Prop)
    (hq : QL W X Y k lk dd id t nw b ml mm wl mt B d aL aM aT cL cM cT w) (hrel : Rel B d k) (hk : k ≤ 200) (hq3 : q = 5)
    {u0 u1 u2 u3 u4 u7 u9 u12 u13 u14 u15 u16 u17 u18 u19 u20 u21 u22 u23 u24 u25 u26 u27 u28 u29 u30 u31 u32 u33 u34 u35 u36 u37 u38 u39 u40 u41 u42 u43 u44 u45 u46 u47 u48 u50 u51 u52 u53 u54 u55 u56 u57 u58 u59 u60 u61 u62 u63 u64 u65 u66 u67 u68 u69 u70 u71 u72 u73 u74 u75 u76 u77 u78 u79 u80 u81 u82 u83 u84 u85 u86 u87 u88 u89 u90 u91 u92 u93 u94 u95 u96 u97 u98 u99 u100 u101 u102 u103 u104 u105 u106 u107 u108 u109 u110 u111 u112 u113 u114 u115 u116 u117 u118 u119 u120 u121 u122 u123 u124 u125 u126 u127 u128 u129 u130 u131 u132 u133 u134 u135 u136 u137 u138 u139 u140 u141 u142 u143 u144 : Value}
    (hQ : Aside (∀ (v12 v13 v50 v51 v52 v53 v54 v55 v56 v57 v58 v59 v60 v61 v62 v63 v64 v65 v66 v67 v68 v69 v70 v71 v72 v73 v74 v75 v76 v77 v78 v79 v80 v81 v82 v83 v84 v85 v86 v87 v88 v89 v90 v91 v92 v93 v94 v95 v96 v97 v98 v99 v100 v101 v102 v103 v104 v105 v106 v107 v108 v109 v110 v111 v112 v113 v114 v115 v116 v117 v118 v119 v120 v121 v122 v123 v124 v125 v126 v127 v128 v129 v130 : Value) (wx : World) (f : Int) (B2 : BK) (d2 : RK) (aL aM aT : Option Addr) (cL cM cT : Nat), QL W X Y k lk dd id t nw b ml mm wl mt B2 d2 aL aM aT cL cM cT wx → Rel B2 d2 (k + 1) → Q .normal { tmps := #[u0, u1, u2, u3, u4, .pointer (some ⟨b, 0, none⟩), .pointer (some ⟨X, 0, none⟩), u7, .pointer (some ⟨Y, 0, none⟩), u9, .int .i64 f, .int .i64 f, v12, v13, u14, u15, u16, u17, u18, u19, u20, u21, u22, u23, u24, u25, u26, u27, u28, u29, u30, u31, u32, u33, u34, u35, u36, u37, u38, u39, u40, u41, u42, u43, u44, u45, u46, u47, u48, .int .u8 q, v50, v51, v52, v53, v54, v55, v56, v57, v58, v59, v60, v61, v62, v63, v64, v65, v66, v67, v68, v69, v70, v71, v72, v73, v74, v75, v76, v77, v78, v79, v80, v81, v82, v83, v84, v85, v86, v87, v88, v89, v90, v91, v92, v93, v94, v95, v96, v97, v98, v99, v100, v101, v102, v103, v104, v105, v106, v107, v108, v109, v110, v111, v112, v113, v114, v115, v116, v117, v118, v119, v120, v121, v122, v123, v124, v125, v126, v127, v128, v129, v130, u131, u132, u133, u134, u135, u136, u137, u138, u139, u140, u141, u142, u143, u144], defers := [] } wx)) :
    code.wp Tryz.prog Q { tmps := #[u0, u1, u2, u3, u4, .pointer (some ⟨b, 0, none⟩), .pointer (some ⟨X, 0, none⟩), u7, .pointer (some ⟨Y, 0, none⟩), u9, .int .i64 0, .int .i64 0, u12, u13, u14, u15, u16, u17, u18, u19, u20, u21, u22, u23, u24, u25, u26, u27, u28, u29, u30, u31, u32, u33, u34, u35, u36, u37, u38, u39, u40, u41, u42, u43, u44, u45, u46, u47, u48, .int .u8 q, u50, u51, u52, u53, u54, u55, u56, u57, u58, u59, u60, u61, u62, u63, u64, u65, u66, u67, u68, u69, u70, u71, u72, u73, u74, u75, u76, u77, u78, u79, u80, u81, u82, u83, u84, u85, u86, u87, u88, u89, u90, u91, u92, u93, u94, u95, u96, u97, u98, u99, u100, u101, u102, u103, u104, u105, u106, u107, u108, u109, u110, u111, u112, u113, u114, u115, u116, u117, u118, u119, u120, u121, u122, u123, u124, u125, u126, u127, u128, u129, u130, u131, u132, u133, u134, u135, u136, u137, u138, u139, u140, u141, u142, u143, u144], defers := [] } w := by
  obtain rfl := Option.some.inj hcode
  clear hcode
  dsimp only at hQ ⊢
  subst hq3
  have hp := mark_calls hq.p.bk id t
  obtain ⟨B2, hB2⟩ : ∃ B2, B2 = (B.mark id t).1 := ⟨_, rfl⟩
  obtain ⟨f, hf⟩ : ∃ f, f = (B.mark id t).2 := ⟨_, rfl⟩
  rw [← hB2, ← hf] at hp
  have HFF := aside_of (And.intro hB2 hf)
  clear hB2 hf
  have q0 := hq.p.box.q0; have q1 := hq.p.box.q1; have q2 := hq.p.box.q2; have q3 := hq.p.box.q3; have f0 := RowB.fz hq.p.box 0; have f1 := RowB.fz hq.p.box 1; have f2 := RowB.fz hq.p.box 2; have f3 := RowB.fz hq.p.box 3; have a0 := hq.a.c0; have a1 := hq.a.c1; have a2 := hq.a.c2; have a3 := hq.a.c3; simp only [Nat.zero_add] at a1 a2 a3
  have HF := aside_of (And.intro hq hrel)
  clear hrel
  go_upto_region 26 with (go_at_call 12; with_reducible refine hp.mono ?_; clear hp; rintro e w1 ⟨he, hb1, hu1⟩; subst he)
  have F1 := HF.out.1.acts hb1 (hu1.mono (fun k hk => .inr (.inl hk)))
  have hr := step_mark F1.p.rb HF.out.2 (by omega) id t
  rw [F1.p.lkd, ← HFF.out.1, ← HFF.out.2] at hr
  clear q0 q1 q2 q3 f0 f1 f2 f3 a0 a1 a2 a3
  have q0 := F1.p.box.q0; have q1 := F1.p.box.q1; have q2 := F1.p.box.q2; have q3 := F1.p.box.q3; have f0 := RowB.fz F1.p.box 0; have f1 := RowB.fz F1.p.box 1; have f2 := RowB.fz F1.p.box 2; have f3 := RowB.fz F1.p.box 3; have a0 := F1.a.c0; have a1 := F1.a.c1; have a2 := F1.a.c2; have a3 := F1.a.c3; simp only [Nat.zero_add] at a1 a2 a3
  have H1 := aside_of F1
  clear F1 hb1 hu1 hq
  unfold StepR at hr
  go_wp2_with (go_at_call 22; with_reducible refine hr.mono ?_; clear hr; rintro e w2 ⟨d2, aL', cL', aM', cM', aT', cT', nL', nM', nT', he, hlen, hrb, hrel2, hlk, b2⟩; subst he; have F2 := H1.out.below b2; have HS := aside_of (And.intro F2 (And.intro hrb (And.intro hrel2 (And.intro hlk hlen)))); clear q0 q1 q2 q3 f0 f1 f2 f3 a0 a1 a2 a3; have q0 := F2.p.box.q0; have q1 := F2.p.box.q1; have q2 := F2.p.box.q2; have q3 := F2.p.box.q3; have f0 := RowB.fz F2.p.box 0; have f1 := RowB.fz F2.p.box 1; have f2 := RowB.fz F2.p.box 2; have f3 := RowB.fz F2.p.box 3; have a0 := F2.a.c0; have a1 := F2.a.c1; have a2 := F2.a.c2; have a3 := F2.a.c3; simp only [Nat.zero_add] at a1 a2 a3; clear F2 hrb hrel2 hlk hlen b2)
  have F3 := HS.out.1.store HS.out.2.1 HS.out.2.2.2.1
  rw [← HS.out.2.2.2.2.1, ← HS.out.2.2.2.2.2.1, ← HS.out.2.2.2.2.2.2] at F3
  unfold putB at F3
  have HZ := aside_of (And.intro F3 HS.out.2.2.1)
  exact hQ.out _ _ _ _ _ _ _ _ _ _ _ _ _ _ _ _ _ _ _ _ _ _ _ _ _ _ _ _ _ _ _ _ _ _ _ _ _ _ _ _ _ _ _ _ _ _ _ _ _ _ _ _ _ _ _ _ _ _ _ _ _ _ _ _ _ _ _ _ _ _ _ _ _ _ _ _ _ _ _ _ _ _ _ _ _ _ _ _ _ _ _ _ _ HZ.out.1 HZ.out.2

set_option maxHeartbeats 4000000 in
set_option maxRecDepth 1000000 in
theorem switch_begin (code : Code) (hcode : (Tryz.f4.body.bind (Code.blk 2)) = some code) (Q : Exit → Act → World → Prop)
    (hq : QL W X Y k lk dd id t nw b ml mm wl mt B d aL aM aT cL cM cT w) (hrel : Rel B d k) (hk : k ≤ 200) (hq3 : 0 ≤ q ∧ q ≤ 2) (hlku : U64 lk) (hnw : U64 nw) (hid : (Lit.int .u64 id).wf = true)
    {u0 u1 u2 u3 u4 u7 u9 u12 u13 u14 u15 u16 u17 u18 u19 u20 u21 u22 u23 u24 u25 u26 u27 u28 u29 u30 u31 u32 u33 u34 u35 u36 u37 u38 u39 u40 u41 u42 u43 u44 u45 u46 u47 u48 u50 u51 u52 u53 u54 u55 u56 u57 u58 u59 u60 u61 u62 u63 u64 u65 u66 u67 u68 u69 u70 u71 u72 u73 u74 u75 u76 u77 u78 u79 u80 u81 u82 u83 u84 u85 u86 u87 u88 u89 u90 u91 u92 u93 u94 u95 u96 u97 u98 u99 u100 u101 u102 u103 u104 u105 u106 u107 u108 u109 u110 u111 u112 u113 u114 u115 u116 u117 u118 u119 u120 u121 u122 u123 u124 u125 u126 u127 u128 u129 u130 u131 u132 u133 u134 u135 u136 u137 u138 u139 u140 u141 u142 u143 u144 : Value}
    (hQ : Aside (∀ (v12 v13 v50 v51 v52 v53 v54 v55 v56 v57 v58 v59 v60 v61 v62 v63 v64 v65 v66 v67 v68 v69 v70 v71 v72 v73 v74 v75 v76 v77 v78 v79 v80 v81 v82 v83 v84 v85 v86 v87 v88 v89 v90 v91 v92 v93 v94 v95 v96 v97 v98 v99 v100 v101 v102 v103 v104 v105 v106 v107 v108 v109 v110 v111 v112 v113 v114 v115 v116 v117 v118 v119 v120 v121 v122 v123 v124 v125 v126 v127 v128 v129 v130 : Value) (wx : World) (f : Int) (B2 : BK) (d2 : RK) (aL aM aT : Option Addr) (cL cM cT : Nat), QL W X Y k lk dd id t nw b ml mm wl mt B2 d2 aL aM aT cL cM cT wx → Rel B2 d2 (k + 1) → Q .normal { tmps := #[u0, u1, u2, u3, u4, .pointer (some ⟨b, 0, none⟩), .pointer (some ⟨X, 0, none⟩), u7, .pointer (some ⟨Y, 0, none⟩), u9, .int .i64 f, .int .i64 f, v12, v13, u14, u15, u16, u17, u18, u19, u20, u21, u22, u23, u24, u25, u26, u27, u28, u29, u30, u31, u32, u33, u34, u35, u36, u37, u38, u39, u40, u41, u42, u43, u44, u45, u46, u47, u48, .int .u8 q, v50, v51, v52, v53, v54, v55, v56, v57, v58, v59, v60, v61, v62, v63, v64, v65, v66, v67, v68, v69, v70, v71, v72, v73, v74, v75, v76, v77, v78, v79, v80, v81, v82, v83, v84, v85, v86, v87, v88, v89, v90, v91, v92, v93, v94, v95, v96, v97, v98, v99, v100, v101, v102, v103, v104, v105, v106, v107, v108, v109, v110, v111, v112, v113, v114, v115, v116, v117, v118, v119, v120, v121, v122, v123, v124, v125, v126, v127, v128, v129, v130, u131, u132, u133, u134, u135, u136, u137, u138, u139, u140, u141, u142, u143, u144], defers := [] } wx)) :
    code.wp Tryz.prog Q { tmps := #[u0, u1, u2, u3, u4, .pointer (some ⟨b, 0, none⟩), .pointer (some ⟨X, 0, none⟩), u7, .pointer (some ⟨Y, 0, none⟩), u9, .int .i64 0, .int .i64 0, u12, u13, u14, u15, u16, u17, u18, u19, u20, u21, u22, u23, u24, u25, u26, u27, u28, u29, u30, u31, u32, u33, u34, u35, u36, u37, u38, u39, u40, u41, u42, u43, u44, u45, u46, u47, u48, .int .u8 q, u50, u51, u52, u53, u54, u55, u56, u57, u58, u59, u60, u61, u62, u63, u64, u65, u66, u67, u68, u69, u70, u71, u72, u73, u74, u75, u76, u77, u78, u79, u80, u81, u82, u83, u84, u85, u86, u87, u88, u89, u90, u91, u92, u93, u94, u95, u96, u97, u98, u99, u100, u101, u102, u103, u104, u105, u106, u107, u108, u109, u110, u111, u112, u113, u114, u115, u116, u117, u118, u119, u120, u121, u122, u123, u124, u125, u126, u127, u128, u129, u130, u131, u132, u133, u134, u135, u136, u137, u138, u139, u140, u141, u142, u143, u144], defers := [] } w := by
  obtain rfl := Option.some.inj hcode
  clear hcode
  dsimp only at hQ ⊢
  have hqq : q = 0 ∨ q = 1 ∨ q = 2 := by omega
  clear hq3
  have HU := aside_of (And.intro hlku (And.intro hnw hid))
  rcases hqq with rfl | rfl | rfl
  all_goals
    have hp := begin_calls hq.p.bk (by rw [← hrel.leak, hq.p.lkd]; exact hlku) id t hnw
    obtain ⟨B2, hB2⟩ : ∃ B2, B2 = (B.begin id t nw).1 := ⟨_, rfl⟩
    obtain ⟨f, hf⟩ : ∃ f, f = (B.begin id t nw).2 := ⟨_, rfl⟩
    rw [← hB2, ← hf] at hp
    have HFF := aside_of (And.intro hB2 hf)
    clear hB2 hf
    have q0 := hq.p.box.q0; have q1 := hq.p.box.q1; have q2 := hq.p.box.q2; have q3 := hq.p.box.q3; have f0 := RowB.fz hq.p.box 0; have f1 := RowB.fz hq.p.box 1; have f2 := RowB.fz hq.p.box 2; have f3 := RowB.fz hq.p.box 3; have a0 := hq.a.c0; have a1 := hq.a.c1; have a2 := hq.a.c2; have a3 := hq.a.c3; simp only [Nat.zero_add] at a1 a2 a3
    have HF := aside_of (And.intro hq hrel)
    clear hrel
    go_upto_region 19 with (go_at_call 15; with_reducible refine hp.mono ?_; clear hp; rintro e w1 ⟨he, hb1, hu1⟩; subst he)
    have F1 := HF.out.1.acts hb1 (hu1.mono (fun k hk => hk.elim .inl fun h => .inr (.inr h)))
    have hr := step_begin F1.p.rb HF.out.2 (by omega) id t (by rw [F1.p.lkd]; exact hlku) hnw hid
    rw [F1.p.lkd, ← HFF.out.1, ← HFF.out.2] at hr
    clear q0 q1 q2 q3 f0 f1 f2 f3 a0 a1 a2 a3
    have q0 := F1.p.box.q0; have q1 := F1.p.box.q1; have q2 := F1.p.box.q2; have q3 := F1.p.box.q3; have f0 := RowB.fz F1.p.box 0; have f1 := RowB.fz F1.p.box 1; have f2 := RowB.fz F1.p.box 2; have f3 := RowB.fz F1.p.box 3; have a0 := F1.a.c0; have a1 := F1.a.c1; have a2 := F1.a.c2; have a3 := F1.a.c3; simp only [Nat.zero_add] at a1 a2 a3
    have H1 := aside_of F1
    clear F1 hb1 hu1 hq
    unfold StepR at hr
    go_wp2_with (go_at_call 27; with_reducible refine hr.mono ?_; clear hr; rintro e w2 ⟨d2, aL', cL', aM', cM', aT', cT', nL', nM', nT', he, hlen, hrb, hrel2, hlk, b2⟩; subst he; have F2 := H1.out.below b2; have HS := aside_of (And.intro F2 (And.intro hrb (And.intro hrel2 (And.intro hlk hlen)))); clear q0 q1 q2 q3 f0 f1 f2 f3 a0 a1 a2 a3; have q0 := F2.p.box.q0; have q1 := F2.p.box.q1; have q2 := F2.p.box.q2; have q3 := F2.p.box.q3; have f0 := RowB.fz F2.p.box 0; have f1 := RowB.fz F2.p.box 1; have f2 := RowB.fz F2.p.box 2; have f3 := RowB.fz F2.p.box 3; have a0 := F2.a.c0; have a1 := F2.a.c1; have a2 := F2.a.c2; have a3 := F2.a.c3; simp only [Nat.zero_add] at a1 a2 a3; clear F2 hrb hrel2 hlk hlen b2)
    have F3 := HS.out.1.store HS.out.2.1 HS.out.2.2.2.1
    rw [← HS.out.2.2.2.2.1, ← HS.out.2.2.2.2.2.1, ← HS.out.2.2.2.2.2.2] at F3
    unfold putB at F3
    have HZ := aside_of (And.intro F3 HS.out.2.2.1)
    exact hQ.out _ _ _ _ _ _ _ _ _ _ _ _ _ _ _ _ _ _ _ _ _ _ _ _ _ _ _ _ _ _ _ _ _ _ _ _ _ _ _ _ _ _ _ _ _ _ _ _ _ _ _ _ _ _ _ _ _ _ _ _ _ _ _ _ _ _ _ _ _ _ _ _ _ _ _ _ _ _ _ _ _ _ _ _ _ _ _ _ _ _ _ _ _ HZ.out.1 HZ.out.2

end Go.Proofs.YtbdnlaepeladbaaGreatDoor

namespace Go.Proofs.YtbdnlaepeladbaaGreatDoor
open Go.ChangeShapes Go.WideShapes Go.ChangeAt Go.RowKit Go.Eng

variable {W w : World} {b ml mm wl mt : Nat} {B : BK} {d : RK} {aL aM aT : Option Addr} {cL cM cT : Nat} {X Y k : Nat} {lk dd id t nw q : Int}

/-- wheel.keys tells all keys, by their ticks. -/
def KeysWh : Prop := ∀ (w : World) (wl mt : Nat) (tm : List (Int × Int)), WhAt w wl mt tm → (∀ p ∈ tm, (Lit.int .u64 p.1).wf = true) → tm.length ≤ 1000 →
  Calls Tryz.prog 160 #[.pointer (some ⟨wl, 0, none⟩)] w fun e w' => ∃ a cap L, e = .returned (.slice a (List.length L) cap) ∧ IsKeys tm L ∧ IdsAt w' a L ∧ Below w.heap.size w w'

theorem Rel.wfT (h : Rel B d k) : ∀ p ∈ B.tm, (Lit.int .u64 p.1).wf = true := fun p hp => by
  have h1 : p ∈ d.T := h.permT.mem_iff.1 hp
  obtain ⟨x, hx⟩ := Option.isSome_iff_exists.1 (h.sub p h1)
  exact h.wf _ (aget_mem hx)
theorem Rel.wfL (h : Rel B d k) : ∀ p ∈ B.ls, (Lit.int .u64 p.1).wf = true := fun p hp => h.wf p (h.permL.mem_iff.1 hp)

/-- The program's Leaks. -/
theorem pleaks (hkw : KeysWh) (h : BkAt w b ml mm wl mt B) (hr : Rel B d k) (hk : k ≤ 1000) (nw : Int) :
    Calls Tryz.prog 13 #[.pointer (some ⟨b, 0, none⟩), .int .u64 nw] w fun e w' => ∃ a cap D, e = .returned (.slice a (List.length D) cap) ∧ IsDue B.tm nw D ∧ IdsAt w' a D ∧ BkAt w' b ml mm wl mt (B.leaks D) ∧ Upto (fun j => j = ml ∨ j = mt) w w' := by
  have hl : B.tm.length ≤ 1000 := by rw [hr.permT.length_eq]; exact Nat.le_trans (Nat.le_trans hr.tle hr.len) hk
  refine (leaks_calls h (due_calls h.wh (hkw w wl mt B.tm h.wh hr.wfT hl))).mono ?_
  rintro e w' ⟨a, cap, D, h1, h2, _, h4, h5, h6⟩
  exact ⟨a, cap, D, h1, h2, h4, h5, h6⟩

set_option maxHeartbeats 4000000 in
set_option maxRecDepth 1000000 in
theorem switch_forget (code : Code) (hcode : (Tryz.f4.body.bind (Code.blk 2)) = some code) (Q : Exit → Act → World → Prop)
    (hq : QL W X Y k lk dd id t nw b ml mm wl mt B d aL aM aT cL cM cT w) (hrel : Rel B d k) (hk : k ≤ 200) (hq3 : q = 6)
    {u0 u1 u2 u3 u4 u7 u9 u12 u13 u14 u15 u16 u17 u18 u19 u20 u21 u22 u23 u24 u25 u26 u27 u28 u29 u30 u31 u32 u33 u34 u35 u36 u37 u38 u39 u40 u41 u42 u43 u44 u45 u46 u47 u48 u50 u51 u52 u53 u54 u55 u56 u57 u58 u59 u60 u61 u62 u63 u64 u65 u66 u67 u68 u69 u70 u71 u72 u73 u74 u75 u76 u77 u78 u79 u80 u81 u82 u83 u84 u85 u86 u87 u88 u89 u90 u91 u92 u93 u94 u95 u96 u97 u98 u99 u100 u101 u102 u103 u104 u105 u106 u107 u108 u109 u110 u111 u112 u113 u114 u115 u116 u117 u118 u119 u120 u121 u122 u123 u124 u125 u126 u127 u128 u129 u130 u131 u132 u133 u134 u135 u136 u137 u138 u139 u140 u141 u142 u143 u144 : Value}
    (hQ : Aside (∀ (v12 v13 v50 v51 v52 v53 v54 v55 v56 v57 v58 v59 v60 v61 v62 v63 v64 v65 v66 v67 v68 v69 v70 v71 v72 v73 v74 v75 v76 v77 v78 v79 v80 v81 v82 v83 v84 v85 v86 v87 v88 v89 v90 v91 v92 v93 v94 v95 v96 v97 v98 v99 v100 v101 v102 v103 v104 v105 v106 v107 v108 v109 v110 v111 v112 v113 v114 v115 v116 v117 v118 v119 v120 v121 v122 v123 v124 v125 v126 v127 v128 v129 v130 : Value) (wx : World) (f : Int) (B2 : BK) (d2 : RK) (aL aM aT : Option Addr) (cL cM cT : Nat), QL W X Y k lk dd id t nw b ml mm wl mt B2 d2 aL aM aT cL cM cT wx → Rel B2 d2 (k + 1) → Q .normal { tmps := #[u0, u1, u2, u3, u4, .pointer (some ⟨b, 0, none⟩), .pointer (some ⟨X, 0, none⟩), u7, .pointer (some ⟨Y, 0, none⟩), u9, .int .i64 f, .int .i64 f, v12, v13, u14, u15, u16, u17, u18, u19, u20, u21, u22, u23, u24, u25, u26, u27, u28, u29, u30, u31, u32, u33, u34, u35, u36, u37, u38, u39, u40, u41, u42, u43, u44, u45, u46, u47, u48, .int .u8 q, v50, v51, v52, v53, v54, v55, v56, v57, v58, v59, v60, v61, v62, v63, v64, v65, v66, v67, v68, v69, v70, v71, v72, v73, v74, v75, v76, v77, v78, v79, v80, v81, v82, v83, v84, v85, v86, v87, v88, v89, v90, v91, v92, v93, v94, v95, v96, v97, v98, v99, v100, v101, v102, v103, v104, v105, v106, v107, v108, v109, v110, v111, v112, v113, v114, v115, v116, v117, v118, v119, v120, v121, v122, v123, v124, v125, v126, v127, v128, v129, v130, u131, u132, u133, u134, u135, u136, u137, u138, u139, u140, u141, u142, u143, u144], defers := [] } wx)) :
    code.wp Tryz.prog Q { tmps := #[u0, u1, u2, u3, u4, .pointer (some ⟨b, 0, none⟩), .pointer (some ⟨X, 0, none⟩), u7, .pointer (some ⟨Y, 0, none⟩), u9, .int .i64 0, .int .i64 0, u12, u13, u14, u15, u16, u17, u18, u19, u20, u21, u22, u23, u24, u25, u26, u27, u28, u29, u30, u31, u32, u33, u34, u35, u36, u37, u38, u39, u40, u41, u42, u43, u44, u45, u46, u47, u48, .int .u8 q, u50, u51, u52, u53, u54, u55, u56, u57, u58, u59, u60, u61, u62, u63, u64, u65, u66, u67, u68, u69, u70, u71, u72, u73, u74, u75, u76, u77, u78, u79, u80, u81, u82, u83, u84, u85, u86, u87, u88, u89, u90, u91, u92, u93, u94, u95, u96, u97, u98, u99, u100, u101, u102, u103, u104, u105, u106, u107, u108, u109, u110, u111, u112, u113, u114, u115, u116, u117, u118, u119, u120, u121, u122, u123, u124, u125, u126, u127, u128, u129, u130, u131, u132, u133, u134, u135, u136, u137, u138, u139, u140, u141, u142, u143, u144], defers := [] } w := by
  obtain rfl := Option.some.inj hcode
  clear hcode
  dsimp only at hQ ⊢
  subst hq3
  have hp := forget_calls hq.p.bk id
  have q0 := hq.p.box.q0; have q1 := hq.p.box.q1; have q2 := hq.p.box.q2; have q3 := hq.p.box.q3; have f0 := RowB.fz hq.p.box 0; have f1 := RowB.fz hq.p.box 1; have f2 := RowB.fz hq.p.box 2; have f3 := RowB.fz hq.p.box 3; have a0 := hq.a.c0; have a1 := hq.a.c1; have a2 := hq.a.c2; have a3 := hq.a.c3; simp only [Nat.zero_add] at a1 a2 a3
  have HF := aside_of (And.intro hq hrel)
  clear hrel
  go_upto_region 29 with (go_at_call 23; with_reducible refine hp.mono ?_; clear hp; rintro e w1 ⟨he, hb1, hu1⟩; subst he)
  have F1 := HF.out.1.acts hb1 (hu1.mono fun k hk => .inr (.inl hk))
  have hr := rforget_calls F1.p.rb (Nat.le_trans HF.out.2.mlen (by omega)) id
  rw [F1.p.lkd] at hr
  clear q0 q1 q2 q3 f0 f1 f2 f3 a0 a1 a2 a3
  have q0 := F1.p.box.q0; have q1 := F1.p.box.q1; have q2 := F1.p.box.q2; have q3 := F1.p.box.q3; have f0 := RowB.fz F1.p.box 0; have f1 := RowB.fz F1.p.box 1; have f2 := RowB.fz F1.p.box 2; have f3 := RowB.fz F1.p.box 3; have a0 := F1.a.c0; have a1 := F1.a.c1; have a2 := F1.a.c2; have a3 := F1.a.c3; simp only [Nat.zero_add] at a1 a2 a3
  have H1 := aside_of F1
  clear F1 hb1 hu1 hq
  go_wp2_with (go_at_call 24; with_reducible refine hr.mono ?_; clear hr; rintro e w2 ⟨aM', cM', he, own2, b2⟩; subst he; have F2 := H1.out.below b2; have HS := aside_of (And.intro F2 own2); clear q0 q1 q2 q3 f0 f1 f2 f3 a0 a1 a2 a3; have q0 := F2.p.box.q0; have q1 := F2.p.box.q1; have q2 := F2.p.box.q2; have q3 := F2.p.box.q3; have f0 := RowB.fz F2.p.box 0; have f1 := RowB.fz F2.p.box 1; have f2 := RowB.fz F2.p.box 2; have f3 := RowB.fz F2.p.box 3; have a0 := F2.a.c0; have a1 := F2.a.c1; have a2 := F2.a.c2; have a3 := F2.a.c3; simp only [Nat.zero_add] at a1 a2 a3; clear F2 own2 b2)
  have hrb : RbAt w2 (d.forget id) aL aM' aT cL cM' cT := ⟨HS.out.1.p.rb.l, .of_own idE_len (n := (d.M.filter fun x => x != id).length) (by rw [flat_id]; exact HS.out.2) rfl, HS.out.1.p.rb.t⟩
  have F3 := HS.out.1.store hrb HS.out.1.p.lkd
  unfold putB at F3
  have HZ := aside_of (And.intro F3 ((HF.out.2.forget id).mono (Nat.le_succ k)))
  exact hQ.out _ _ _ _ _ _ _ _ _ _ _ _ _ _ _ _ _ _ _ _ _ _ _ _ _ _ _ _ _ _ _ _ _ _ _ _ _ _ _ _ _ _ _ _ _ _ _ _ _ _ _ _ _ _ _ _ _ _ _ _ _ _ _ _ _ _ _ _ _ _ _ _ _ _ _ _ _ _ _ _ _ _ _ _ 0 _ _ _ _ _ _ _ _ HZ.out.1 HZ.out.2
set_option maxHeartbeats 4000000 in
set_option maxRecDepth 1000000 in
theorem switch_leaks (code : Code) (hcode : (Tryz.f4.body.bind (Code.blk 2)) = some code) (Q : Exit → Act → World → Prop)
    (hq : QL W X Y k lk dd id t nw b ml mm wl mt B d aL aM aT cL cM cT w) (hrel : Rel B d k) (hk : k ≤ 200) (hq3 : q = 7) (hkw : KeysWh)
    {u0 u1 u2 u3 u4 u7 u9 u12 u13 u14 u15 u16 u17 u18 u19 u20 u21 u22 u23 u24 u25 u26 u27 u28 u29 u30 u31 u32 u33 u34 u35 u36 u37 u38 u39 u40 u41 u42 u43 u44 u45 u46 u47 u48 u50 u51 u52 u53 u54 u55 u56 u57 u58 u59 u60 u61 u62 u63 u64 u65 u66 u67 u68 u69 u70 u71 u72 u73 u74 u75 u76 u77 u78 u79 u80 u81 u82 u83 u84 u85 u86 u87 u88 u89 u90 u91 u92 u93 u94 u95 u96 u97 u98 u99 u100 u101 u102 u103 u104 u105 u106 u107 u108 u109 u110 u111 u112 u113 u114 u115 u116 u117 u118 u119 u120 u121 u122 u123 u124 u125 u126 u127 u128 u129 u130 u131 u132 u133 u134 u135 u136 u137 u138 u139 u140 u141 u142 u143 u144 : Value}
    (hQ : Aside (∀ (v12 v13 v50 v51 v52 v53 v54 v55 v56 v57 v58 v59 v60 v61 v62 v63 v64 v65 v66 v67 v68 v69 v70 v71 v72 v73 v74 v75 v76 v77 v78 v79 v80 v81 v82 v83 v84 v85 v86 v87 v88 v89 v90 v91 v92 v93 v94 v95 v96 v97 v98 v99 v100 v101 v102 v103 v104 v105 v106 v107 v108 v109 v110 v111 v112 v113 v114 v115 v116 v117 v118 v119 v120 v121 v122 v123 v124 v125 v126 v127 v128 v129 v130 : Value) (wx : World) (f : Int) (B2 : BK) (d2 : RK) (aL aM aT : Option Addr) (cL cM cT : Nat), QL W X Y k lk dd id t nw b ml mm wl mt B2 d2 aL aM aT cL cM cT wx → Rel B2 d2 (k + 1) → Q .normal { tmps := #[u0, u1, u2, u3, u4, .pointer (some ⟨b, 0, none⟩), .pointer (some ⟨X, 0, none⟩), u7, .pointer (some ⟨Y, 0, none⟩), u9, .int .i64 f, .int .i64 f, v12, v13, u14, u15, u16, u17, u18, u19, u20, u21, u22, u23, u24, u25, u26, u27, u28, u29, u30, u31, u32, u33, u34, u35, u36, u37, u38, u39, u40, u41, u42, u43, u44, u45, u46, u47, u48, .int .u8 q, v50, v51, v52, v53, v54, v55, v56, v57, v58, v59, v60, v61, v62, v63, v64, v65, v66, v67, v68, v69, v70, v71, v72, v73, v74, v75, v76, v77, v78, v79, v80, v81, v82, v83, v84, v85, v86, v87, v88, v89, v90, v91, v92, v93, v94, v95, v96, v97, v98, v99, v100, v101, v102, v103, v104, v105, v106, v107, v108, v109, v110, v111, v112, v113, v114, v115, v116, v117, v118, v119, v120, v121, v122, v123, v124, v125, v126, v127, v128, v129, v130, u131, u132, u133, u134, u135, u136, u137, u138, u139, u140, u141, u142, u143, u144], defers := [] } wx)) :
    code.wp Tryz.prog Q { tmps := #[u0, u1, u2, u3, u4, .pointer (some ⟨b, 0, none⟩), .pointer (some ⟨X, 0, none⟩), u7, .pointer (some ⟨Y, 0, none⟩), u9, .int .i64 0, .int .i64 0, u12, u13, u14, u15, u16, u17, u18, u19, u20, u21, u22, u23, u24, u25, u26, u27, u28, u29, u30, u31, u32, u33, u34, u35, u36, u37, u38, u39, u40, u41, u42, u43, u44, u45, u46, u47, u48, .int .u8 q, u50, u51, u52, u53, u54, u55, u56, u57, u58, u59, u60, u61, u62, u63, u64, u65, u66, u67, u68, u69, u70, u71, u72, u73, u74, u75, u76, u77, u78, u79, u80, u81, u82, u83, u84, u85, u86, u87, u88, u89, u90, u91, u92, u93, u94, u95, u96, u97, u98, u99, u100, u101, u102, u103, u104, u105, u106, u107, u108, u109, u110, u111, u112, u113, u114, u115, u116, u117, u118, u119, u120, u121, u122, u123, u124, u125, u126, u127, u128, u129, u130, u131, u132, u133, u134, u135, u136, u137, u138, u139, u140, u141, u142, u143, u144], defers := [] } w := by
  obtain rfl := Option.some.inj hcode
  clear hcode
  dsimp only at hQ ⊢
  subst hq3
  have HKW := aside_of hkw
  have hlen := hrel.len
  have htle := hrel.tle
  have hr := rleaks_calls hq.p.rb hrel.kL hrel.sub (by omega) (by omega) nw
  rw [hq.p.lkd] at *
  have q0 := hq.p.box.q0; have q1 := hq.p.box.q1; have q2 := hq.p.box.q2; have q3 := hq.p.box.q3; have f0 := RowB.fz hq.p.box 0; have f1 := RowB.fz hq.p.box 1; have f2 := RowB.fz hq.p.box 2; have f3 := RowB.fz hq.p.box 3; have a0 := hq.a.c0; have a1 := hq.a.c1; have a2 := hq.a.c2; have a3 := hq.a.c3; simp only [Nat.zero_add] at a1 a2 a3
  have HF := aside_of (And.intro hq hrel)
  clear hrel hkw
  unfold LeakB at hr
  go_upto_region 32 with (go_at_call 25; with_reducible refine hr.mono ?_; clear hr; rintro e w2 ⟨m, aL', cL', aM', cM', aT', cT', aD, cD, hcut, he, hrb, hd, b2⟩; generalize hDq : (d.T.take m).map (·.1) = D at he hd; generalize hnD : List.length D = nD at he; generalize hd2 : d.leaks m = d2 at he hrb; generalize hn1 : d2.L.length = n1 at he; generalize hn3 : d2.T.length = n3 at he; rw [HF.out.1.p.lkd] at he; subst he; have F2 := HF.out.1.below b2; have HS := aside_of (And.intro F2 (And.intro hrb (And.intro hd (And.intro hcut (And.intro hDq (And.intro hnD (And.intro hd2 (And.intro hn1 hn3)))))))); clear q0 q1 q2 q3 f0 f1 f2 f3 a0 a1 a2 a3; clear F2 hrb hd hcut b2 hDq hnD hd2 hn1 hn3)
  obtain ⟨w3, hw3⟩ : ∃ w3, w3 = w2.alloc (.cells #[.int .u64 lk, .slice aL' n1 cL', .slice aM' (List.length d.M) cM', .slice aT' n3 cT'] 45) := ⟨_, rfl⟩
  have B3 : Below w2.heap.size w2 w3 := by rw [hw3]; exact below_alloc w2 _
  have Z3 : RowB w3 w2.heap.size lk (.slice aL' n1 cL') (.slice aM' (List.length d.M) cM') (.slice aT' n3 cT') := by rw [hw3]; exact RowB.new w2 lk _ _ _
  rw [← hw3]
  have F3 := HS.out.1.below B3
  have hp := pleaks HKW.out F3.p.bk HF.out.2 (by omega) nw
  have i3 := (ids_of_seq HS.out.2.2.1).below B3
  have r3 := HS.out.2.1.below B3
  have q0 := F3.p.box.q0; have q1 := F3.p.box.q1; have q2 := F3.p.box.q2; have q3 := F3.p.box.q3; have f0 := RowB.fz F3.p.box 0; have f1 := RowB.fz F3.p.box 1; have f2 := RowB.fz F3.p.box 2; have f3 := RowB.fz F3.p.box 3; have a0 := F3.a.c0; have a1 := F3.a.c1; have a2 := F3.a.c2; have a3 := F3.a.c3; simp only [Nat.zero_add] at a1 a2 a3
  have H3 := aside_of (And.intro F3 (And.intro Z3 (And.intro i3 r3)))
  clear hw3 B3 Z3 F3 i3 r3 hq
  go_upto_region 34 with (first
    | (go_at_call 13; with_reducible refine hp.mono ?_; clear hp; rintro e w4 ⟨a4, c4, D4, he, hdue, i4, hb4, hu4⟩; have hDD := (HF.out.2.due hdue HS.out.2.2.2.1).trans HS.out.2.2.2.2.1; rw [hDD] at he i4; rw [HS.out.2.2.2.2.2.1] at he; subst he; have hrel4 := HF.out.2.leaks hdue HS.out.2.2.2.1; rw [HS.out.2.2.2.2.2.2.1] at hrel4; have F4 := H3.out.1.acts hb4 (hu4.mono fun k hk => hk.elim .inl fun h => .inr (.inr h)); have hob : ∀ k, k = ml ∨ k = mt → ∃ es ck, w3.heap[k]? = some (.map es ck) := (fun k hk => H3.out.1.p.bk.objs3 k (hk.elim .inl fun h => .inr (.inr h))); have Z4 := RowB.upto H3.out.2.1 hu4 hob; have j4 := H3.out.2.2.1.upto hu4 hob; have r4 := RbAt.upto H3.out.2.2.2 hu4 hob; have heq := eqU_calls c4 cD i4 j4 (by rw [HS.out.2.2.2.2.2.1]; have h5 := HS.out.2.2.2.2.2.1; rw [← HS.out.2.2.2.2.1, List.length_map, List.length_take] at h5; omega); rw [HS.out.2.2.2.2.2.1] at heq; have H4 := aside_of (And.intro F4 (And.intro Z4 (And.intro r4 hrel4))); clear q0 q1 q2 q3 f0 f1 f2 f3 a0 a1 a2 a3; clear hdue i4 hb4 hu4 hDD hrel4 F4 hob Z4 j4 r4)
    | (go_at_call 26; with_reducible refine heq.mono ?_; clear heq; rintro e w5 ⟨he, b5⟩; subst he))
  have F5 := H4.out.1.below b5
  have Z5 := RowB.below H4.out.2.1 b5 (RowB.lt H4.out.2.1)
  have r5 := H4.out.2.2.1.below b5
  have z0 := Z5.q0
  have z1 := Z5.q1
  have z2 := Z5.q2
  have z3 := Z5.q3
  have q0 := F5.p.box.q0; have q1 := F5.p.box.q1; have q2 := F5.p.box.q2; have q3 := F5.p.box.q3; have f0 := RowB.fz F5.p.box 0; have f1 := RowB.fz F5.p.box 1; have f2 := RowB.fz F5.p.box 2; have f3 := RowB.fz F5.p.box 3; have a0 := F5.a.c0; have a1 := F5.a.c1; have a2 := F5.a.c2; have a3 := F5.a.c3; simp only [Nat.zero_add] at a1 a2 a3
  have H5 := aside_of (And.intro F5 r5)
  clear F5 r5 Z5 b5
  have hlk2 : d2.leak = lk := by rw [← HS.out.2.2.2.2.2.2.1]; exact HF.out.1.p.lkd
  have hM2 : d2.M.length = d.M.length := by rw [← HS.out.2.2.2.2.2.2.1]; rfl
  have HL2 := aside_of (And.intro hlk2 hM2)
  clear hlk2 hM2
  go_wp2
  have F6 := H5.out.1.store H5.out.2 HL2.out.1
  rw [HS.out.2.2.2.2.2.2.2.1, HS.out.2.2.2.2.2.2.2.2, HL2.out.2] at F6
  unfold putB at F6
  have HZ := aside_of (And.intro F6 (H4.out.2.2.2.mono (Nat.le_succ k)))
  exact hQ.out _ _ _ _ _ _ _ _ _ _ _ _ _ _ _ _ _ _ _ _ _ _ _ _ _ _ _ _ _ _ _ _ _ _ _ _ _ _ _ _ _ _ _ _ _ _ _ _ _ _ _ _ _ _ _ _ _ _ _ _ _ _ _ _ _ _ _ _ _ _ _ _ _ _ _ _ _ _ _ _ _ _ _ _ 0 _ _ _ _ _ _ _ _ HZ.out.1 HZ.out.2

end Go.Proofs.YtbdnlaepeladbaaGreatDoor
