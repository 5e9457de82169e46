/- The document's functions, part 2: Leaks, Begin, End, Mark, Forget. Conditions: how the lists lie in memory. -/
import Derived.Test.YtbdnlaepeladbaaGreatDoorPlB
namespace Go.Proofs.YtbdnlaepeladbaaGreatDoor
open Go.ChangeShapes Go.WideShapes Go.ChangeAt Go.RowKit Go.Eng

variable {w w' : World} {d : RK} {aL aM aT : Option Addr} {cL cM cT : Nat}

set_option maxHeartbeats 1000000 in
set_option maxRecDepth 1000000 in
theorem rmark_calls (h : RbAt w d aL aM aT cL cM cT) (hl : d.L.length ≤ 1000) (hm : d.M.length ≤ 1000) (id t : Int) :
    Calls Tryz.prog 22 #[rbV d.leak aL d.L.length cL aM d.M.length cM aT d.T.length cT, .int .u64 id, .int .i64 t] w fun e w' => BackF w (if d.holds id t then d.mark id else d) (if d.holds id t then 0 else 5) e w' := by
  obtain ⟨i0, hi, hz0, hz1, hz2⟩ := info_partsU infoW
  obtain ⟨lk, L, M, T⟩ := d
  have HR := aside_of h
  have T1 := TwoB.start w lk (.slice aL L.length cL) (.slice aM M.length cM) (.slice aT T.length cT)
  have h1 := (h.below (below_alloc w (.cells #[.int .u64 lk, .slice aL L.length cL, .slice aM M.length cM, .slice aT T.length cT] 45))).below (below_alloc _ (.cells #[.int .u64 0, .slice none 0 0, .slice none 0 0, .slice none 0 0] 45))
  have hh0 := rholds_no (aM := aM) (nM := M.length) (cM := cM) (aT := aT) (nT := T.length) (cT := cT) (lk := lk) h1.l hl id t
  have hh1 := rholds_yes (aM := aM) (nM := M.length) (cM := cM) (aT := aT) (nT := T.length) (cT := cT) (lk := lk) h1.l hl id t
  simp only at hl hm h1 hh0 hh1 ⊢
  have hfg := fun (v : World) (hv : RbAt v ⟨lk, L, M, T⟩ aL aM aT cL cM cT) => rforget_calls hv hm id
  have HF : Aside ((M.filter fun x => x != id).length ≤ 1000) := aside_of (Nat.le_trans (List.length_filter_le _ _) hm)
  have H1 := aside_of h1
  simp only at hfg
  have FIN5 : Aside (∀ (e : Ending) (v : World), e = .returned (.tuple #[rbV lk aL L.length cL aM M.length cM aT T.length cT, .int .i64 5]) → Below w.heap.size w v → BackF w ⟨lk, L, M, T⟩ 5 e v) := aside_of fun e v he hb => ⟨aL, cL, aM, cM, aT, cT, he, HR.out.below hb, hb⟩
  have FIN0 : Aside (∀ (e : Ending) (v : World) (aM' : Option Addr) (cM' : Nat), e = .returned (.tuple #[rbV lk aL L.length cL aM' ((M.filter fun x => x != id).length + 1) cM' aT T.length cT, .int .i64 0]) → Below w.heap.size w v → SeqIn v 1 idE aM' cM' ((M.filter fun x => x != id) ++ [id]) → BackF w (RK.mark ⟨lk, L, M, T⟩ id) 0 e v) := aside_of fun e v aM' cM' he hb hs => ⟨aL, cL, aM', cM', aT, cT, by rw [he]; simp [RK.mark], ⟨(HR.out.below hb).l, hs, (HR.out.below hb).t⟩, hb⟩
  have hho : RK.holds ⟨lk, L, M, T⟩ id t = RK.holds ⟨lk, L, [], []⟩ id t := rfl
  rw [hho]
  generalize RK.holds ⟨lk, L, [], []⟩ id t = ho at *
  generalize hR : (M.filter fun x => x != id) = R at hfg HF FIN0
  generalize L.length = nL at *
  generalize M.length = nM at *
  generalize T.length = nT at *
  have h2 : R.length ≤ 1000 := HF.out
  obtain ⟨n, hn⟩ : ∃ n, n = R.length := ⟨_, rfl⟩
  rw [← hn] at h2 FIN0 hfg
  have HN := aside_of hn
  clear hn hR h h1 HF hl hm hho
  obtain ⟨w1, hw1⟩ : ∃ w1, w1 = ((w.alloc (.cells #[.int .u64 lk, .slice aL nL cL, .slice aM nM cM, .slice aT nT cT] 45)).alloc (.cells #[.int .u64 0, .slice none 0 0, .slice none 0 0, .slice none 0 0] 45)) := ⟨_, rfl⟩
  have s1 : w1.heap.size = w.heap.size + 2 := by rw [hw1]; simp
  rw [← hw1] at T1 hh0 hh1 H1
  have HT := aside_of (And.intro T1 s1)
  clear s1
  subst hw1
  cases ho with
  | false =>
    simp only [Bool.false_eq_true, if_false]
    have hh := hh0 rfl
    clear hh0 hh1
    go_enter Tryz.func22, Tryz.ntmps22
    go_upto_region 1 with fail
    generalize ((w.alloc (.cells #[.int .u64 lk, .slice aL nL cL, .slice aM nM cM, .slice aT nT cT] 45)).alloc (.cells #[.int .u64 0, .slice none 0 0, .slice none 0 0, .slice none 0 0] 45)) = w1 at HT T1 hh H1 ⊢
    have q0 := T1.box.q0
    have q1 := T1.box.q1
    have q2 := T1.box.q2
    have q3 := T1.box.q3
    have f0 := T1.box.fz 0
    have f1 := T1.box.fz 1
    have f2 := T1.box.fz 2
    have f3 := T1.box.fz 3
    have r0 := T1.res.q0
    have r1 := T1.res.q1
    have r2 := T1.res.q2
    have r3 := T1.res.q3
    have g0 := T1.res.fz 0
    have g1 := T1.res.fz 1
    have g2 := T1.res.fz 2
    have g3 := T1.res.fz 3
    clear T1
    go_wp2_with (go_at_call 82; with_reducible refine hh.mono ?_; clear hh; rintro e w3 ⟨he, b3⟩; subst he; have T3 := HT.out.1.below b3; have HO := aside_of T3; clear q0 q1 q2 q3 f0 f1 f2 f3 r0 r1 r2 r3 g0 g1 g2 g3; have q0 := T3.box.q0; have q1 := T3.box.q1; have q2 := T3.box.q2; have q3 := T3.box.q3; have f0 := T3.box.fz 0; have f1 := T3.box.fz 1; have f2 := T3.box.fz 2; have f3 := T3.box.fz 3; have r0 := T3.res.q0; have r1 := T3.res.q1; have r2 := T3.res.q2; have r3 := T3.res.q3; have g0 := T3.res.fz 0; have g1 := T3.res.fz 1; have g2 := T3.res.fz 2; have g3 := T3.res.fz 3; clear T3 b3)
    obtain ⟨F3, F2, F1⟩ := HO.out.out
    unfold outB at F3 F2 F1
    have y0 := F3.q0
    have y1 := F3.q1
    have y2 := F3.q2
    have y3 := F3.q3
    exact bodyPost_ret (v := .tuple #[rbV lk aL nL cL aM nM cM aT nT cT, .int .i64 5]) (by simp [results, Tryz.results22, go_sem, y0, y1, y2, y3]) rfl (FIN5.out _ _ rfl F2)
  | true =>
    simp only [if_true]
    have hh := hh1 rfl
    clear hh0 hh1
    go_enter Tryz.func22, Tryz.ntmps22
    go_upto_region 1 with fail
    generalize ((w.alloc (.cells #[.int .u64 lk, .slice aL nL cL, .slice aM nM cM, .slice aT nT cT] 45)).alloc (.cells #[.int .u64 0, .slice none 0 0, .slice none 0 0, .slice none 0 0] 45)) = w1 at HT T1 hh H1 ⊢
    have q0 := T1.box.q0
    have q1 := T1.box.q1
    have q2 := T1.box.q2
    have q3 := T1.box.q3
    have f0 := T1.box.fz 0
    have f1 := T1.box.fz 1
    have f2 := T1.box.fz 2
    have f3 := T1.box.fz 3
    have r0 := T1.res.q0
    have r1 := T1.res.q1
    have r2 := T1.res.q2
    have r3 := T1.res.q3
    have g0 := T1.res.fz 0
    have g1 := T1.res.fz 1
    have g2 := T1.res.fz 2
    have g3 := T1.res.fz 3
    clear T1
    go_upto_region 3 with (go_at_call 82; with_reducible refine hh.mono ?_; clear hh; rintro e w3 ⟨k, x, he, _, b3⟩; subst he; have hk0 : ¬ (k : Int) < 0 := by omega)
    have T3 := HT.out.1.below b3
    clear q0 q1 q2 q3 f0 f1 f2 f3 r0 r1 r2 r3 g0 g1 g2 g3
    have q0 := T3.box.q0
    have q1 := T3.box.q1
    have q2 := T3.box.q2
    have q3 := T3.box.q3
    have f0 := T3.box.fz 0
    have f1 := T3.box.fz 1
    have f2 := T3.box.fz 2
    have f3 := T3.box.fz 3
    have r0 := T3.res.q0
    have r1 := T3.res.q1
    have r2 := T3.res.q2
    have r3 := T3.res.q3
    have g0 := T3.res.fz 0
    have g1 := T3.res.fz 1
    have g2 := T3.res.fz 2
    have g3 := T3.res.fz 3
    have h3 := H1.out.below b3
    have hfg3 := hfg w3 h3
    have HO := aside_of (And.intro T3 b3)
    clear hfg h3 T3 b3
    go_upto_region 4 with (go_at_call 24; with_reducible refine hfg3.mono ?_; clear hfg3; rintro e w4 ⟨aM', cM', he, own4, b4⟩; subst he; have T4 := HO.out.1.below b4; clear q0 q1 q2 q3 f0 f1 f2 f3 r0 r1 r2 r3 g0 g1 g2 g3; have q0 := T4.box.q0; have q1 := T4.box.q1; have q2 := T4.box.q2; have q3 := T4.box.q3; have f0 := T4.box.fz 0; have f1 := T4.box.fz 1; have f2 := T4.box.fz 2; have f3 := T4.box.fz 3; have r0 := T4.res.q0; have r1 := T4.res.q1; have r2 := T4.res.q2; have r3 := T4.res.q3; have g0 := T4.res.fz 0; have g1 := T4.res.fz 1; have g2 := T4.res.fz 2; have g3 := T4.res.fz 3)
    have T5 := (((T4.put0 lk).put1 (.slice aL nL cL)).put2 (.slice aM' n cM')).put3 (.slice aT nT cT)
    have hz3 : w.heap.size + 2 ≤ w3.heap.size := by have := HO.out.2.size; rw [HT.out.2] at this; exact this
    have own5 := own_same own4 (w' := (((w4.setCell ⟨w.heap.size, 0, none⟩ (.int .u64 lk)).setCell ⟨w.heap.size, 1, none⟩ (.slice aL nL cL)).setCell ⟨w.heap.size, 2, none⟩ (.slice aM' n cM')).setCell ⟨w.heap.size, 3, none⟩ (.slice aT nT cT)) fun g hg => by
      rw [Below.heap_setCell _ _ _ _ (by show g ≠ w.heap.size; omega), Below.heap_setCell _ _ _ _ (by show g ≠ w.heap.size; omega), Below.heap_setCell _ _ _ _ (by show g ≠ w.heap.size; omega), Below.heap_setCell _ _ _ _ (by show g ≠ w.heap.size; omega)]
    have sz5 : ((((w4.setCell ⟨w.heap.size, 0, none⟩ (.int .u64 lk)).setCell ⟨w.heap.size, 1, none⟩ (.slice aL nL cL)).setCell ⟨w.heap.size, 2, none⟩ (.slice aM' n cM')).setCell ⟨w.heap.size, 3, none⟩ (.slice aT nT cT)).heap.size = w4.heap.size := by simp
    generalize ((((w4.setCell ⟨w.heap.size, 0, none⟩ (.int .u64 lk)).setCell ⟨w.heap.size, 1, none⟩ (.slice aL nL cL)).setCell ⟨w.heap.size, 2, none⟩ (.slice aM' n cM')).setCell ⟨w.heap.size, 3, none⟩ (.slice aT nT cT)) = w5 at T5 own5 sz5 ⊢
    have hb5 : w3.heap.size ≤ w5.heap.size := by rw [sz5]; exact b4.size
    have OW := aside_of (And.intro own5 (And.intro T5 (And.intro hb5 hz3)))
    clear q0 q1 q2 q3 f0 f1 f2 f3 r0 r1 r2 r3 g0 g1 g2 g3
    have q0 := T5.box.q0
    have q1 := T5.box.q1
    have q2 := T5.box.q2
    have q3 := T5.box.q3
    have f0 := T5.box.fz 0
    have f1 := T5.box.fz 1
    have f2 := T5.box.fz 2
    have f3 := T5.box.fz 3
    have r0 := T5.res.q0
    have r1 := T5.res.q1
    have r2 := T5.res.q2
    have r3 := T5.res.q3
    have g0 := T5.res.fz 0
    have g1 := T5.res.fz 1
    have g2 := T5.res.fz 2
    have g3 := T5.res.fz 3
    clear T4 T5 own4 own5 sz5 hb5 hz3 b4
    go_wp2_with (at_builtin; refine wpList_append_own _ rfl (.tmp 18) (.tmp 20) 33 rfl w3.heap.size 22 i0 (.int .u64 0) 1 8 Tryz.underlying33 hi hz0 hz1 hz2 rfl (by decide) (.slice aM' n cM') n (R.map (Value.int .u64)) rfl (World.ownsRow.alloc OW.out.1 _) ⟨w5.heap.size, 0, none⟩ 1 1 [.int .u64 id] rfl rfl (own_oneU _ _) (by simp [Value.oneCell']) (by unfold maxLen; omega) (by omega) (by have := OW.out.2.2.1; simp; omega) ?_; intro v7 w7 own7 gr7 _; have b7 : Below w3.heap.size w5 w7 := ((Below.refl w3.heap.size w5).alloc OW.out.2.2.1 _).trans (grown_ownU (by have := OW.out.2.2.1; simp; omega) (World.ownsRow.alloc OW.out.1 _) gr7); obtain ⟨a7, c7, rfl⟩ := own_shapeU own7; have T7 := OW.out.2.1.belowB b7 (by have := OW.out.2.2.2; omega); have OX := aside_of (And.intro own7 T7); clear q0 q1 q2 q3 f0 f1 f2 f3 r0 r1 r2 r3 g0 g1 g2 g3; have q0 := T7.box.q0; have q1 := T7.box.q1; have q2 := T7.box.q2; have q3 := T7.box.q3; have f0 := T7.box.fz 0; have f1 := T7.box.fz 1; have f2 := T7.box.fz 2; have f3 := T7.box.fz 3; have r0 := T7.res.q0; have r1 := T7.res.q1; have r2 := T7.res.q2; have r3 := T7.res.q3; have g0 := T7.res.fz 0; have g1 := T7.res.fz 1; have g2 := T7.res.fz 2; have g3 := T7.res.fz 3; clear own7 T7 b7)
    obtain ⟨F3, F2, F1⟩ := (OX.out.2.put2 (.slice a7 (n + 1) c7)).out
    unfold outB at F3 F2 F1
    have y0 := F3.q0
    have y1 := F3.q1
    have y2 := F3.q2
    have y3 := F3.q3
    refine bodyPost_ret (v := .tuple #[rbV lk aL nL cL a7 (n + 1) c7 aT nT cT, .int .i64 0]) (by simp [results, Tryz.results22, go_sem, y0, y1, y2, y3]) rfl (FIN0.out _ _ _ _ rfl F2 ?_)
    refine .of_own idE_len (base := w3.heap.size) (e := 22) (n := n + 1) ?_ (by rw [List.length_append, HN.out]; rfl)
    rw [List.flatMap_append, flat_id]
    refine own_same OX.out.1 fun g hg => ?_
    have := OW.out.2.2.2
    rw [F1 g (by omega)]
    exact Below.heap_setCell _ _ _ _ (by show g ≠ w.heap.size; omega)

end Go.Proofs.YtbdnlaepeladbaaGreatDoor

namespace Go.Proofs.YtbdnlaepeladbaaGreatDoor
open Go.ChangeShapes Go.WideShapes Go.ChangeAt Go.RowKit Go.Eng

variable {w w' : World} {d : RK} {aL aM aT : Option Addr} {cL cM cT : Nat}

theorem cut_filter : ∀ {L : List (Int × Le)} {k : Nat} {id : Int} {x : Le}, Keys1 L → L[k]? = some (id, x) → L.take k ++ L.drop (k + 1) = L.filter fun p => p.1 != id
  | [], k, id, x, _, h => by simp at h
  | p :: L, 0, id, x, hK, h => by
    obtain rfl := Option.some.inj (by simpa using h)
    have hall : ∀ q ∈ L, (q.1 != id) = true := fun q hq => by
      have := (List.pairwise_cons.1 hK).1 q hq
      simpa using fun e => this e.symm
    simp only [List.take_zero, List.nil_append, List.drop_succ_cons, List.drop_zero]
    rw [List.filter_cons]
    simp only [bne_self_eq_false, Bool.false_eq_true, if_false]
    exact (List.filter_eq_self.2 hall).symm
  | p :: L, k + 1, id, x, hK, h => by
    have h' : L[k]? = some (id, x) := by simpa using h
    have ih := cut_filter hK.tail h'
    have hne : (p.1 != id) = true := by
      have := (List.pairwise_cons.1 hK).1 _ (List.mem_of_getElem? h')
      simpa using this
    rw [List.filter_cons, if_pos hne, ← ih]
    rfl

set_option maxHeartbeats 2000000 in
set_option maxRecDepth 1000000 in
theorem rend_calls (h : RbAt w d aL aM aT cL cM cT) (hK : Keys1 d.L) (hl : d.L.length ≤ 1000) (htl : d.T.length ≤ 1000) (id t : Int) :
    Calls Tryz.prog 21 #[rbV d.leak aL d.L.length cL aM d.M.length cM aT d.T.length cT, .int .u64 id, .int .i64 t] w fun e w' => BackF w (if d.holds id t then d.end_ id else d) (if d.holds id t then 0 else 5) e w' := by
  obtain ⟨i0, hi, hz0, hz1, hz2⟩ := info_partsU infoL
  obtain ⟨lk, L, M, T⟩ := d
  have HR := aside_of h
  have T1 := TwoB.start w lk (.slice aL L.length cL) (.slice aM M.length cM) (.slice aT T.length cT)
  have h1 := (h.below (below_alloc w (.cells #[.int .u64 lk, .slice aL L.length cL, .slice aM M.length cM, .slice aT T.length cT] 45))).below (below_alloc _ (.cells #[.int .u64 0, .slice none 0 0, .slice none 0 0, .slice none 0 0] 45))
  have hh0 := rholds_no (aM := aM) (nM := M.length) (cM := cM) (aT := aT) (nT := T.length) (cT := cT) (lk := lk) h1.l hl id t
  have hh1 := rholds_yes (aM := aM) (nM := M.length) (cM := cM) (aT := aT) (nT := T.length) (cT := cT) (lk := lk) h1.l hl id t
  simp only at hl htl hK h1 hh0 hh1 ⊢
  have hwo := fun (v : World) (hv : SeqIn v 2 tmE aT cT T) => rwithout_calls hv htl id
  have FIN5 : Aside (∀ (e : Ending) (v : World), e = .returned (.tuple #[rbV lk aL L.length cL aM M.length cM aT T.length cT, .int .i64 5]) → Below w.heap.size w v → BackF w ⟨lk, L, M, T⟩ 5 e v) := aside_of fun e v he hb => ⟨aL, cL, aM, cM, aT, cT, he, HR.out.below hb, hb⟩
  have FIN0 : Aside (∀ (k : Nat) (x : Le) (e : Ending) (v : World) (aL' : Option Addr) (cL' : Nat) (aT' : Option Addr) (cT' : Nat) (n : Nat), L[k]? = some (id, x) → n = (L.take k ++ L.drop (k + 1)).length → e = .returned (.tuple #[rbV lk aL' n cL' aM M.length cM aT' (T.filter fun x => x.1 != id).length cT', .int .i64 0]) → Below w.heap.size w v → SeqIn v 4 leE aL' cL' (L.take k ++ L.drop (k + 1)) → SeqIn v 2 tmE aT' cT' (T.filter fun x => x.1 != id) → BackF w (RK.end_ ⟨lk, L, M, T⟩ id) 0 e v) := aside_of fun k x e v aL' cL' aT' cT' n hk hn he hb hs ht => by
    rw [cut_filter hK hk] at hn hs
    exact ⟨aL', cL', aM, cM, aT', cT', by rw [he, hn]; rfl, ⟨hs, (HR.out.below hb).m, ht⟩, hb⟩
  have hho : RK.holds ⟨lk, L, M, T⟩ id t = RK.holds ⟨lk, L, [], []⟩ id t := rfl
  rw [hho]
  have hsome : RK.holds ⟨lk, L, [], []⟩ id t = true → ∃ g o, aL = some ⟨g, o, none⟩ := fun hy => by
    cases aL with
    | none =>
      have := HR.out.l.none_nil.1
      simp only at this
      subst this
      simp [RK.holds, aget] at hy
    | some p =>
      obtain ⟨g, o, rfl⟩ := HR.out.l.plain p rfl
      exact ⟨g, o, rfl⟩
  generalize RK.holds ⟨lk, L, [], []⟩ id t = ho at *
  generalize hR : (T.filter fun x => x.1 != id) = R at hwo FIN0
  obtain ⟨nL, hnL⟩ : ∃ nL, nL = L.length := ⟨_, rfl⟩
  have HN := aside_of hnL
  rw [← hnL] at hl T1 hh0 hh1 h1 FIN5 ⊢
  generalize M.length = nM at *
  generalize T.length = nT at *
  have hcap := HR.out.l.le
  simp only at hcap
  rw [← hnL] at hcap
  clear hnL hR h hho hK htl
  cases ho with
  | false =>
    simp only [Bool.false_eq_true, if_false]
    have hh := hh0 rfl
    clear hh0 hh1 hsome hwo
    obtain ⟨w1, hw1⟩ : ∃ w1, w1 = ((w.alloc (.cells #[.int .u64 lk, .slice aL nL cL, .slice aM nM cM, .slice aT nT cT] 45)).alloc (.cells #[.int .u64 0, .slice none 0 0, .slice none 0 0, .slice none 0 0] 45)) := ⟨_, rfl⟩
    have s1 : w1.heap.size = w.heap.size + 2 := by rw [hw1]; simp
    rw [← hw1] at T1 hh h1
    have HT := aside_of (And.intro T1 s1)
    have H1 := aside_of h1
    clear s1 h1
    subst hw1
    go_enter Tryz.func21, Tryz.ntmps21
    go_upto_region 1 with fail
    generalize ((w.alloc (.cells #[.int .u64 lk, .slice aL nL cL, .slice aM nM cM, .slice aT nT cT] 45)).alloc (.cells #[.int .u64 0, .slice none 0 0, .slice none 0 0, .slice none 0 0] 45)) = w1 at HT T1 hh H1 ⊢
    have q0 := T1.box.q0
    have q1 := T1.box.q1
    have q2 := T1.box.q2
    have q3 := T1.box.q3
    have f0 := T1.box.fz 0
    have f1 := T1.box.fz 1
    have f2 := T1.box.fz 2
    have f3 := T1.box.fz 3
    have r0 := T1.res.q0
    have r1 := T1.res.q1
    have r2 := T1.res.q2
    have r3 := T1.res.q3
    have g0 := T1.res.fz 0
    have g1 := T1.res.fz 1
    have g2 := T1.res.fz 2
    have g3 := T1.res.fz 3
    clear T1
    go_wp2_with (go_at_call 82; with_reducible refine hh.mono ?_; clear hh; rintro e w3 ⟨he, b3⟩; subst he; have T3 := HT.out.1.below b3; have HO := aside_of T3; clear q0 q1 q2 q3 f0 f1 f2 f3 r0 r1 r2 r3 g0 g1 g2 g3; have q0 := T3.box.q0; have q1 := T3.box.q1; have q2 := T3.box.q2; have q3 := T3.box.q3; have f0 := T3.box.fz 0; have f1 := T3.box.fz 1; have f2 := T3.box.fz 2; have f3 := T3.box.fz 3; have r0 := T3.res.q0; have r1 := T3.res.q1; have r2 := T3.res.q2; have r3 := T3.res.q3; have g0 := T3.res.fz 0; have g1 := T3.res.fz 1; have g2 := T3.res.fz 2; have g3 := T3.res.fz 3; clear T3 b3)
    obtain ⟨F3, F2, F1⟩ := HO.out.out
    unfold outB at F3 F2 F1
    have y0 := F3.q0
    have y1 := F3.q1
    have y2 := F3.q2
    have y3 := F3.q3
    exact bodyPost_ret (v := .tuple #[rbV lk aL nL cL aM nM cM aT nT cT, .int .i64 5]) (by simp [results, Tryz.results21, go_sem, y0, y1, y2, y3]) rfl (FIN5.out _ _ rfl F2)
  | true =>
    simp only [if_true]
    have hh := hh1 rfl
    obtain ⟨g, o, rfl⟩ := hsome rfl
    clear hh0 hh1 hsome
    obtain ⟨w1, hw1⟩ : ∃ w1, w1 = ((w.alloc (.cells #[.int .u64 lk, .slice (some ⟨g, o, none⟩) nL cL, .slice aM nM cM, .slice aT nT cT] 45)).alloc (.cells #[.int .u64 0, .slice none 0 0, .slice none 0 0, .slice none 0 0] 45)) := ⟨_, rfl⟩
    have s1 : w1.heap.size = w.heap.size + 2 := by rw [hw1]; simp
    rw [← hw1] at T1 hh h1
    have HT := aside_of (And.intro T1 s1)
    have H1 := aside_of h1
    clear s1 h1
    subst hw1
    go_enter Tryz.func21, Tryz.ntmps21
    go_upto_region 1 with fail
    generalize ((w.alloc (.cells #[.int .u64 lk, .slice (some ⟨g, o, none⟩) nL cL, .slice aM nM cM, .slice aT nT cT] 45)).alloc (.cells #[.int .u64 0, .slice none 0 0, .slice none 0 0, .slice none 0 0] 45)) = w1 at HT T1 hh H1 ⊢
    have q0 := T1.box.q0
    have q1 := T1.box.q1
    have q2 := T1.box.q2
    have q3 := T1.box.q3
    have f0 := T1.box.fz 0
    have f1 := T1.box.fz 1
    have f2 := T1.box.fz 2
    have f3 := T1.box.fz 3
    have r0 := T1.res.q0
    have r1 := T1.res.q1
    have r2 := T1.res.q2
    have r3 := T1.res.q3
    have g0 := T1.res.fz 0
    have g1 := T1.res.fz 1
    have g2 := T1.res.fz 2
    have g3 := T1.res.fz 3
    clear T1
    go_upto_region 5 with (go_at_call 82; with_reducible refine hh.mono ?_; clear hh; rintro e w3 ⟨k, x, he, hk, b3⟩; subst he; have hk0 : ¬ (k : Int) < 0 := by omega)
    have T3 := HT.out.1.below b3
    have hS3 := H1.out.below b3
    have hkn : k < nL := by rw [HN.out]; exact (List.getElem?_eq_some_iff.1 hk).1
    have HKK := aside_of hk
    have hz3 : w.heap.size + 2 ≤ w3.heap.size := by have := b3.size; rw [HT.out.2] at this; exact this
    have HZ3 := aside_of hz3
    clear q0 q1 q2 q3 f0 f1 f2 f3 r0 r1 r2 r3 g0 g1 g2 g3
    have q0 := T3.box.q0
    have q1 := T3.box.q1
    have q2 := T3.box.q2
    have q3 := T3.box.q3
    have f0 := T3.box.fz 0
    have f1 := T3.box.fz 1
    have f2 := T3.box.fz 2
    have f3 := T3.box.fz 3
    have r0 := T3.res.q0
    have r1 := T3.res.q1
    have r2 := T3.res.q2
    have r3 := T3.res.q3
    have g0 := T3.res.fz 0
    have g1 := T3.res.fz 1
    have g2 := T3.res.fz 2
    have g3 := T3.res.fz 3
    have hlk : (L.take k).length = k := by rw [List.length_take, ← HN.out]; omega
    have hld : (L.drop (k + 1)).length = nL - (k + 1) := by rw [List.length_drop, ← HN.out]
    have f1' : Aside (((L.take k).flatMap leE).length = k * 4) := aside_of (by rw [flatE_length leE_len, hlk])
    have f2' : Aside (((L.drop (k + 1)).flatMap leE).length = (nL - (k + 1)) * 4) := aside_of (by rw [flatE_length leE_len, hld])
    have HL := aside_of (And.intro hlk hld)
    have HK := aside_of ((hS3.l.take k).src leE_len (by decide))
    have HO := aside_of (And.intro T3 (And.intro hS3 b3))
    clear T3 hS3 b3 hk hlk hld hz3
    go_upto_region 6 with (at_builtin; refine wpList_append_own _ rfl (.tmp 17) (.tmp 21) 42 rfl w3.heap.size 151 i0 (.agg #[.int .u64 0, .int .i64 0, .int .u64 0, .bool false]) 4 32 Tryz.underlying42 hi hz0 hz1 hz2 rfl (by decide) (.slice none 0 0) 0 [] rfl (World.ownsRow_nil w3 _ 151 4) ⟨g, o, none⟩ k cL ((L.take k).flatMap leE) rfl f1'.out HK.out (flatE_one leE_one _) (by unfold maxLen; omega) (by omega) (Nat.le_refl _) ?_; intro v4 w4 own4 gr4 _; rw [List.nil_append, Nat.zero_add] at own4; obtain ⟨a4, c4, rfl⟩ := own_shapeU own4; have b4 : Below w3.heap.size w3 w4 := grown_ownU (Nat.le_refl _) (World.ownsRow_nil w3 w3.heap.size 151 4) gr4; have T4 := HO.out.1.below b4; have OW := aside_of (And.intro own4 (And.intro b4 T4)); clear q0 q1 q2 q3 f0 f1 f2 f3 r0 r1 r2 r3 g0 g1 g2 g3; have q0 := T4.box.q0; have q1 := T4.box.q1; have q2 := T4.box.q2; have q3 := T4.box.q3; have f0 := T4.box.fz 0; have f1 := T4.box.fz 1; have f2 := T4.box.fz 2; have f3 := T4.box.fz 3; have r0 := T4.res.q0; have r1 := T4.res.q1; have r2 := T4.res.q2; have r3 := T4.res.q3; have g0 := T4.res.fz 0; have g1 := T4.res.fz 1; have g2 := T4.res.fz 2; have g3 := T4.res.fz 3; clear own4 b4 T4)
    go_cut [] (fun wx => ∃ aL' cL', Aside (wx.ownsRow w3.heap.size 151 4 (.slice aL' (k + (nL - (k + 1))) cL') (k + (nL - (k + 1))) ((L.take k).flatMap leE ++ (L.drop (k + 1)).flatMap leE)) ∧ TwoB w lk (.slice aL' (k + (nL - (k + 1))) cL') (.slice aM nM cM) (.slice aT nT cT) w.heap.size wx)
    case first =>
      have HK4 := aside_of (((HO.out.2.1.l.below OW.out.2.1).drop (k + 1)).src leE_len (by decide))
      by_cases hc : cL = k + 1
      · have hn1 : nL = k + 1 := by omega
        have hd0 : L.drop (k + 1) = [] := List.drop_eq_nil_of_le (by rw [← HN.out, hn1]; exact Nat.le_refl _)
        have HD := aside_of hd0
        subst hc
        subst hn1
        clear hd0
        go_wp2_with (at_builtin; refine wpList_append_own _ rfl (.tmp 23) (.tmp 28) 42 rfl w3.heap.size 151 i0 (.agg #[.int .u64 0, .int .i64 0, .int .u64 0, .bool false]) 4 32 Tryz.underlying42 hi hz0 hz1 hz2 rfl (by decide) (.slice a4 k c4) k ((L.take k).flatMap leE) rfl OW.out.1 ⟨g, o, none⟩ 0 0 [] rfl rfl (fun j u hj => by simp at hj) (by simp) (by unfold maxLen; omega) (by omega) OW.out.2.1.size ?_; intro v9 w9 own9 gr9 _; have b9 : Below w3.heap.size w4 w9 := grown_ownU OW.out.2.1.size OW.out.1 gr9; obtain ⟨a9, c9, rfl⟩ := own_shapeU own9; have T9 := OW.out.2.2.belowB b9 (by have := HZ3.out; omega); have OY := aside_of (And.intro own9 T9); clear q0 q1 q2 q3 f0 f1 f2 f3 r0 r1 r2 r3 g0 g1 g2 g3; have q0 := T9.box.q0; have q1 := T9.box.q1; have q2 := T9.box.q2; have q3 := T9.box.q3; have f0 := T9.box.fz 0; have f1 := T9.box.fz 1; have f2 := T9.box.fz 2; have f3 := T9.box.fz 3; have r0 := T9.res.q0; have r1 := T9.res.q1; have r2 := T9.res.q2; have r3 := T9.res.q3; have g0 := T9.res.fz 0; have g1 := T9.res.fz 1; have g2 := T9.res.fz 2; have g3 := T9.res.fz 3; clear own9 b9 T9)
        go_meet
        have e1 : k + (k + 1 - (k + 1)) = k + 0 := by omega
        refine ⟨a9, c9, aside_of ?_, ?_⟩
        · have := own_same OY.out.1 (w' := w9.setCell ⟨w.heap.size, 1, none⟩ (.slice a9 (k + 0) c9)) fun g hg => far_put (X := w.heap.size) _ _ _ g (by have := HZ3.out; omega)
          rw [HD.out, e1]
          exact this
        · rw [e1]
          exact OY.out.2.put1 _
      · go_wp2_with (at_builtin; refine wpList_append_own _ rfl (.tmp 23) (.tmp 28) 42 rfl w3.heap.size 151 i0 (.agg #[.int .u64 0, .int .i64 0, .int .u64 0, .bool false]) 4 32 Tryz.underlying42 hi hz0 hz1 hz2 rfl (by decide) (.slice a4 k c4) k ((L.take k).flatMap leE) rfl OW.out.1 ⟨g, o + (k + 1) * 4, none⟩ (nL - (k + 1)) (cL - (k + 1)) ((L.drop (k + 1)).flatMap leE) rfl f2'.out HK4.out (flatE_one leE_one _) (by unfold maxLen; omega) (by omega) OW.out.2.1.size ?_; intro v9 w9 own9 gr9 _; have b9 : Below w3.heap.size w4 w9 := grown_ownU OW.out.2.1.size OW.out.1 gr9; obtain ⟨a9, c9, rfl⟩ := own_shapeU own9; have T9 := OW.out.2.2.belowB b9 (by have := HZ3.out; omega); have OY := aside_of (And.intro own9 T9); clear q0 q1 q2 q3 f0 f1 f2 f3 r0 r1 r2 r3 g0 g1 g2 g3; have q0 := T9.box.q0; have q1 := T9.box.q1; have q2 := T9.box.q2; have q3 := T9.box.q3; have f0 := T9.box.fz 0; have f1 := T9.box.fz 1; have f2 := T9.box.fz 2; have f3 := T9.box.fz 3; have r0 := T9.res.q0; have r1 := T9.res.q1; have r2 := T9.res.q2; have r3 := T9.res.q3; have g0 := T9.res.fz 0; have g1 := T9.res.fz 1; have g2 := T9.res.fz 2; have g3 := T9.res.fz 3; clear own9 b9 T9)
        go_meet
        refine ⟨a9, c9, aside_of ?_, ?_⟩
        · exact own_same OY.out.1 fun g hg => far_put (X := w.heap.size) _ _ _ g (by have := HZ3.out; omega)
        · exact OY.out.2.put1 _
    case rest =>
      obtain ⟨aL', cL', HOL, T6⟩ := hcut
      clear q0 q1 q2 q3 f0 f1 f2 f3 r0 r1 r2 r3 g0 g1 g2 g3
      have q0 := T6.box.q0
      have q1 := T6.box.q1
      have q2 := T6.box.q2
      have q3 := T6.box.q3
      have f0 := T6.box.fz 0
      have f1 := T6.box.fz 1
      have f2 := T6.box.fz 2
      have f3 := T6.box.fz 3
      have r0 := T6.res.q0
      have r1 := T6.res.q1
      have r2 := T6.res.q2
      have r3 := T6.res.q3
      have g0 := T6.res.fz 0
      have g1 := T6.res.fz 1
      have g2 := T6.res.fz 2
      have g3 := T6.res.fz 3
      have hwo6 := hwo wc (SeqIn.low HR.out.t T6.low (Nat.le_refl _))
      have H6 := aside_of T6
      clear T6 hwo
      go_wp2_with (go_at_call 83; with_reducible refine hwo6.mono ?_; clear hwo6; rintro e w8 ⟨aT', cT', bT', he, hs8, hn8, b8⟩; subst he; have T8 := H6.out.below b8; have OZ := aside_of (And.intro T8 (And.intro hs8 (And.intro hn8 b8))); clear q0 q1 q2 q3 f0 f1 f2 f3 r0 r1 r2 r3 g0 g1 g2 g3; have q0 := T8.box.q0; have q1 := T8.box.q1; have q2 := T8.box.q2; have q3 := T8.box.q3; have f0 := T8.box.fz 0; have f1 := T8.box.fz 1; have f2 := T8.box.fz 2; have f3 := T8.box.fz 3; have r0 := T8.res.q0; have r1 := T8.res.q1; have r2 := T8.res.q2; have r3 := T8.res.q3; have g0 := T8.res.fz 0; have g1 := T8.res.fz 1; have g2 := T8.res.fz 2; have g3 := T8.res.fz 3; clear T8 hs8 hn8 b8)
      obtain ⟨F3, F2, F1⟩ := (OZ.out.1.put3 (.slice aT' R.length cT')).out
      unfold outB at F3 F2 F1
      have y0 := F3.q0
      have y1 := F3.q1
      have y2 := F3.q2
      have y3 := F3.q3
      have hX6 : w.heap.size + 2 ≤ wc.heap.size := H6.out.gt
      have hmv : ∀ g, w.heap.size + 2 ≤ g → (outB (w8.setCell ⟨w.heap.size, 3, none⟩ (.slice aT' R.length cT')) w.heap.size lk (.slice aL' (k + (nL - (k + 1))) cL') (.slice aM nM cM) (.slice aT' R.length cT')).heap[g]? = w8.heap[g]? := fun g hg => by
        rw [((OZ.out.1.put3 (.slice aT' R.length cT')).out).2.2 g (by omega)]
        exact far_put (X := w.heap.size) _ _ _ g hg
      unfold outB at hmv
      refine bodyPost_ret (v := .tuple #[rbV lk aL' (k + (nL - (k + 1))) cL' aM nM cM aT' R.length cT', .int .i64 0]) (by simp [results, Tryz.results21, go_sem, y0, y1, y2, y3]) rfl (FIN0.out k x _ _ aL' cL' aT' cT' (k + (nL - (k + 1))) HKK.out (by rw [List.length_append, HL.out.1, HL.out.2]) rfl F2 ?_ ?_)
      · refine SeqIn.far (w := w8) (X := w.heap.size) (.of_own leE_len (base := w3.heap.size) (e := 151) (n := k + (nL - (k + 1))) ?_ (by rw [List.length_append, HL.out.1, HL.out.2])) ?_ hmv
        · rw [List.flatMap_append]
          exact own_below HOL.out OZ.out.2.2.2
        · exact own_far HOL.out HZ3.out
      · exact SeqIn.far (w := w8) (X := w.heap.size) OZ.out.2.1 (fun g o e => Nat.le_trans hX6 (OZ.out.2.2.1 g o e)) hmv

end Go.Proofs.YtbdnlaepeladbaaGreatDoor

namespace Go.Proofs.YtbdnlaepeladbaaGreatDoor
open Go.ChangeShapes Go.WideShapes Go.ChangeAt Go.RowKit Go.Eng

variable {w w' : World} {d : RK} {aL aM aT : Option Addr} {cL cM cT : Nat}

def LeakB (w : World) (d : RK) (now : Int) (e : Ending) (w' : World) : Prop :=
  ∃ k aL cL aM cM aT cT aD cD, CutAt d.T now k ∧ e = .returned (.tuple #[rbV d.leak aL (d.leaks k).L.length cL aM d.M.length cM aT (d.leaks k).T.length cT, .slice aD (List.length ((d.T.take k).map (·.1))) cD]) ∧ RbAt w' (d.leaks k) aL aM aT cL cM cT ∧ SeqIn w' 1 idE aD cD ((d.T.take k).map (·.1)) ∧ Below w.heap.size w w'

theorem own_cell3 {base n c g : Nat} {L : List (Int × Le)} {e : TypeId} (h : w.ownsRow base e 4 (.slice (some ⟨g, 0, none⟩) n c) n (L.flatMap leE)) {i : Nat} {p : Int × Le} (hi : L[i]? = some p) : w.cell? ⟨g, i * 4 + 3, none⟩ = some (.bool p.2.fl) ∧ w.frozen? ⟨g, i * 4 + 3, none⟩ = false := by
  have hg := flatE_get leE_len L i p 3 hi (by decide)
  refine ⟨?_, ?_⟩
  · have hl := (List.getElem?_eq_some_iff.1 hg).1
    rw [World.ownsRow.cellAt h (i * 4 + 3) (by have := h.1; omega), hg]
    rfl
  · rcases h.2 with ⟨h1, _⟩ | ⟨g', cap, cur, h1, _, hb, _⟩
    · cases h1
    · simp only [Value.slice.injEq, Option.some.injEq, Addr.mk.injEq, and_true, true_and] at h1
      obtain ⟨rfl, _⟩ := h1
      simp [World.frozen?, hb]

set_option maxHeartbeats 2000000 in
set_option maxRecDepth 1000000 in
theorem rleaks_calls (h : RbAt w d aL aM aT cL cM cT) (hK : Keys1 d.L) (hin : ∀ p ∈ d.T, (aget p.1 d.L).isSome) (hl : d.L.length ≤ 1000) (htl : d.T.length ≤ 1000) (now : Int) :
    Calls Tryz.prog 25 #[rbV d.leak aL d.L.length cL aM d.M.length cM aT d.T.length cT, .int .u64 now] w fun e w' => LeakB w d now e w' := by
  obtain ⟨i0, hi, hz0, hz1, hz2⟩ := info_partsU infoL
  obtain ⟨lk, L, M, T⟩ := d
  have HR := aside_of h
  have T1 := TwoB.start w lk (.slice aL L.length cL) (.slice aM M.length cM) (.slice aT T.length cT)
  have h1 := (h.below (below_alloc w (.cells #[.int .u64 lk, .slice aL L.length cL, .slice aM M.length cM, .slice aT T.length cT] 45))).below (below_alloc _ (.cells #[.int .u64 0, .slice none 0 0, .slice none 0 0, .slice none 0 0] 45))
  have hdue := rdue_calls h1.t htl now
  simp only at hl htl hK hin h1 hdue ⊢
  have H0 := aside_of (And.intro hK hin)
  have FIN : Aside (∀ (k : Nat) (D : List Int) (e : Ending) (v : World) (aL' : Option Addr) (cL' : Nat) (aT' : Option Addr) (cT' : Nat) (aD : Option Addr) (cD n nD nR : Nat), CutAt T now k → D = (T.take k).map (·.1) → n = L.length → nD = D.length → nR = (T.drop k).length → e = .returned (.tuple #[rbV lk aL' n cL' aM M.length cM aT' nR cT', .slice aD nD cD]) → Below w.heap.size w v → SeqIn v 4 leE aL' cL' (flagL D L) → (∀ v, SeqIn v 2 tmE aT cT T → SeqIn v 2 tmE aT' cT' (T.drop k)) → SeqIn v 1 idE aD cD D → LeakB w ⟨lk, L, M, T⟩ now e v) := aside_of fun k D e v aL' cL' aT' cT' aD cD n nD nR hc hD hn hnD hnR he hb hs ht hd => by
    subst hD hn hnD hnR
    exact ⟨k, aL', cL', aM, cM, aT', cT', aD, cD, hc, by rw [he]; simp only [RK.leaks, flagL_length], ⟨hs, (HR.out.below hb).m, ht v (HR.out.below hb).t⟩, hd, hb⟩
  obtain ⟨nL, hnL⟩ : ∃ nL, nL = L.length := ⟨_, rfl⟩
  have HN := aside_of hnL
  rw [← hnL] at hl T1 h1 hdue ⊢
  generalize M.length = nM at *
  have hcap := HR.out.l.le
  simp only at hcap
  rw [← hnL] at hcap
  obtain ⟨nT, hnT⟩ : ∃ nT, nT = T.length := ⟨_, rfl⟩
  have HNT := aside_of hnT
  rw [← hnT] at htl T1 h1 hdue ⊢
  clear hnL hnT h hK hin
  obtain ⟨w1, hw1⟩ : ∃ w1, w1 = ((w.alloc (.cells #[.int .u64 lk, .slice aL nL cL, .slice aM nM cM, .slice aT nT cT] 45)).alloc (.cells #[.int .u64 0, .slice none 0 0, .slice none 0 0, .slice none 0 0] 45)) := ⟨_, rfl⟩
  have s1 : w1.heap.size = w.heap.size + 2 := by rw [hw1]; simp
  rw [← hw1] at T1 hdue h1
  have HT := aside_of (And.intro T1 s1)
  have H1 := aside_of h1
  clear s1 h1
  subst hw1
  go_enter Tryz.func25, Tryz.ntmps25
  go_upto_region 1 with fail
  generalize ((w.alloc (.cells #[.int .u64 lk, .slice aL nL cL, .slice aM nM cM, .slice aT nT cT] 45)).alloc (.cells #[.int .u64 0, .slice none 0 0, .slice none 0 0, .slice none 0 0] 45)) = w1 at HT T1 hdue H1 ⊢
  have q0 := T1.box.q0
  have q1 := T1.box.q1
  have q2 := T1.box.q2
  have q3 := T1.box.q3
  have f0 := T1.box.fz 0
  have f1 := T1.box.fz 1
  have f2 := T1.box.fz 2
  have f3 := T1.box.fz 3
  have r0 := T1.res.q0
  have r1 := T1.res.q1
  have r2 := T1.res.q2
  have r3 := T1.res.q3
  have g0 := T1.res.fz 0
  have g1 := T1.res.fz 1
  have g2 := T1.res.fz 2
  have g3 := T1.res.fz 3
  clear T1
  unfold DueOut at hdue
  go_upto_region 3 with (go_at_call 84; with_reducible refine hdue.mono ?_; clear hdue; rintro e w3 ⟨k, aR, cR, aD, cD, he, hcut3, hR3, hD3, hN3, b3⟩; subst he; generalize hDq : (T.take k).map (·.1) = D at hD3; generalize hnD : List.length D = nD; generalize hnR : List.length (T.drop k) = nR; have T3 := HT.out.1.below b3; have HE := aside_of (And.intro hDq (And.intro hnD hnR)); have HX := aside_of (And.intro hcut3 (And.intro hR3 (And.intro hD3 (And.intro hN3 (And.intro b3 T3))))); clear q0 q1 q2 q3 f0 f1 f2 f3 r0 r1 r2 r3 g0 g1 g2 g3; have q0 := T3.box.q0; have q1 := T3.box.q1; have q2 := T3.box.q2; have q3 := T3.box.q3; have f0 := T3.box.fz 0; have f1 := T3.box.fz 1; have f2 := T3.box.fz 2; have f3 := T3.box.fz 3; have r0 := T3.res.q0; have r1 := T3.res.q1; have r2 := T3.res.q2; have r3 := T3.res.q3; have g0 := T3.res.fz 0; have g1 := T3.res.fz 1; have g2 := T3.res.fz 2; have g3 := T3.res.fz 3; clear hcut3 hR3 hD3 hN3 b3 T3 hDq hnD hnR)
  have T5 := HX.out.2.2.2.2.2.put3 (.slice aR nR cR)
  have hD5 : SeqIn (w3.setCell ⟨w.heap.size, 3, none⟩ (.slice aR nR cR)) 1 idE aD cD D := SeqIn.far (X := w.heap.size) HX.out.2.2.1 (fun g o e => by have := HX.out.2.2.2.1 g o e; rw [HT.out.2] at this; exact this) (far_put _ _ _)
  have hL5 : SeqIn (w3.setCell ⟨w.heap.size, 3, none⟩ (.slice aR nR cR)) 4 leE aL cL L := SeqIn.low HR.out.l T5.low (Nat.le_refl _)
  clear q0 q1 q2 q3 f0 f1 f2 f3 r0 r1 r2 r3 g0 g1 g2 g3
  generalize w3.setCell ⟨w.heap.size, 3, none⟩ (.slice aR nR cR) = w5 at T5 hD5 hL5 ⊢
  have q0 := T5.box.q0
  have q1 := T5.box.q1
  have q2 := T5.box.q2
  have q3 := T5.box.q3
  have f0 := T5.box.fz 0
  have f1 := T5.box.fz 1
  have f2 := T5.box.fz 2
  have f3 := T5.box.fz 3
  have r0 := T5.res.q0
  have r1 := T5.res.q1
  have r2 := T5.res.q2
  have r3 := T5.res.q3
  have g0 := T5.res.fz 0
  have g1 := T5.res.fz 1
  have g2 := T5.res.fz 2
  have g3 := T5.res.fz 3
  have HS := aside_of (And.intro T5 (And.intro hD5 hL5))
  have hDin : ∀ j id, D[j]? = some id → ∃ (i : Nat) (x : Le), L[i]? = some (id, x) := fun j id hj => by
    have hm : id ∈ D := List.mem_of_getElem? hj
    rw [← HE.out.1] at hm
    obtain ⟨p, hp, rfl⟩ := List.mem_map.1 hm
    obtain ⟨x, hx⟩ := Option.isSome_iff_exists.1 (H0.out.2 p (List.mem_of_mem_take hp))
    obtain ⟨i, hi⟩ := List.getElem?_of_mem (aget_mem hx)
    exact ⟨i, x, hi⟩
  have HDI := aside_of hDin
  have hnD1 : nD ≤ 1000 := by rw [← HE.out.2.1, ← HE.out.1, List.length_map, List.length_take, ← HNT.out]; omega
  have hX5 : w.heap.size + 2 ≤ w5.heap.size := T5.gt
  have HX5 := aside_of hX5
  clear T5 hD5 hL5 hDin hX5
  go_upto_region 4 with fail
  go_cut [8] (fun v8 wx => ∃ a8 c8, v8 = .slice a8 nL c8 ∧ Aside (wx.ownsRow w5.heap.size 151 4 (.slice a8 nL c8) nL (L.flatMap leE)) ∧ Below w5.heap.size w5 wx)
  case first =>
    cases aL with
    | none =>
      obtain ⟨hL0, _⟩ := HS.out.2.2.none_nil
      have hn0 : nL = 0 := by rw [HN.out, hL0]; rfl
      have hc0 : cL = 0 := HR.out.l.no rfl
      subst hn0
      subst hc0
      have H9 := aside_of hL0
      clear hL0
      go_wp2_with (at_builtin; refine wpList_append_own_none rfl (.tmp 20) (.tmp 22) 42 rfl w5.heap.size 151 i0 4 Tryz.underlying42 hi (.slice none 0 0) 0 [] rfl (World.ownsRow_nil w5 _ 151 4) rfl ?_)
      go_meet
      exact ⟨none, 0, rfl, aside_of (by rw [H9.out]; exact World.ownsRow_nil w5 _ 151 4), Below.refl _ _⟩
    | some p =>
      obtain ⟨g, o, rfl⟩ := HS.out.2.2.plain p rfl
      have f1' : Aside ((L.flatMap leE).length = nL * 4) := aside_of (by rw [flatE_length leE_len, HN.out])
      have HK := aside_of (HS.out.2.2.src leE_len (by decide))
      go_wp2_with (at_builtin; refine wpList_append_own _ rfl (.tmp 20) (.tmp 22) 42 rfl w5.heap.size 151 i0 (.agg #[.int .u64 0, .int .i64 0, .int .u64 0, .bool false]) 4 32 Tryz.underlying42 hi hz0 hz1 hz2 rfl (by decide) (.slice none 0 0) 0 [] rfl (World.ownsRow_nil w5 _ 151 4) ⟨g, o, none⟩ nL cL (L.flatMap leE) rfl f1'.out HK.out (flatE_one leE_one _) (by unfold maxLen; omega) (by omega) (Nat.le_refl _) ?_; intro v4 w4 own4 gr4 _; rw [List.nil_append, Nat.zero_add] at own4; obtain ⟨a4, c4, rfl⟩ := own_shapeU own4; have b4 : Below w5.heap.size w5 w4 := grown_ownU (Nat.le_refl _) (World.ownsRow_nil w5 w5.heap.size 151 4) gr4)
      go_meet
      exact ⟨a4, c4, rfl, aside_of own4, b4⟩
  case rest =>
    obtain ⟨a8, c8, rfl, HO8, b8⟩ := hcut
    have T8 := HS.out.1.below b8
    have HB8 := aside_of (And.intro b8 T8)
    clear q0 q1 q2 q3 f0 f1 f2 f3 r0 r1 r2 r3 g0 g1 g2 g3
    clear b8
    have q0 := T8.box.q0
    have q1 := T8.box.q1
    have q2 := T8.box.q2
    have q3 := T8.box.q3
    have f0 := T8.box.fz 0
    have f1 := T8.box.fz 1
    have f2 := T8.box.fz 2
    have f3 := T8.box.fz 3
    have r0 := T8.res.q0
    have r1 := T8.res.q1
    have r2 := T8.res.q2
    have r3 := T8.res.q3
    have g0 := T8.res.fz 0
    have g1 := T8.res.fz 1
    have g2 := T8.res.fz 2
    have g3 := T8.res.fz 3
    clear T8
    go_upto_block 0 with fail
    go_cut [] (fun wx => Aside (wx.ownsRow w5.heap.size 151 4 (.slice a8 nL c8) nL ((flagL D L).flatMap leE)) ∧ Below w5.heap.size w5 wx)
    case first =>
      go_wp2
      go_loopg [26] nD (fun gh v26 wr => ∃ j : Nat, j ≤ nD ∧ gh = nD - j ∧ v26 = .int .i64 j ∧ Aside (wr.ownsRow w5.heap.size 151 4 (.slice a8 nL c8) nL ((flagL (D.take j) L).flatMap leE)) ∧ Below w5.heap.size w5 wr)
      case atStart => exact ⟨0, Nat.zero_le _, rfl, rfl, aside_of (by rw [List.take_zero, flagL_nil]; exact HO8.out), HB8.out.1⟩
      case round =>
        obtain ⟨j, hj, rfl, rfl, HO, b9⟩ := hrel
        clear q0 q1 q2 q3 f0 f1 f2 f3 r0 r1 r2 r3 g0 g1 g2 g3
        by_cases hjn : j < nD
        · obtain ⟨id, hid⟩ : ∃ id, D[j]? = some id := ⟨_, List.getElem?_eq_getElem (by rw [HE.out.2.1]; exact hjn)⟩
          obtain ⟨i, x, hix⟩ := HDI.out j id hid
          obtain ⟨gD, oD, rfl, c0⟩ := (HS.out.2.1.below b9).id1 hid
          have hfi := flagL_get (D := D.take j) hix
          simp only at hfi
          have hnn : a8 ≠ none := by
            rintro rfl
            have h0 := HO.out
            rcases h0.2 with ⟨h1, h2⟩ | ⟨_, _, _, h1, _⟩
            · have := (List.getElem?_eq_some_iff.1 hix).1
              rw [← HN.out, h2] at this
              omega
            · cases h1
          obtain ⟨g8, rfl⟩ : ∃ g8, a8 = some ⟨g8, 0, none⟩ := by
            rcases HO.out.2 with ⟨h1, _⟩ | ⟨g8, _, _, h1, _⟩
            · simp only [Value.slice.injEq] at h1
              exact absurd h1.1 hnn
            · simp only [Value.slice.injEq] at h1
              exact ⟨g8, h1.1⟩
          obtain ⟨x3, z3⟩ := own_cell3 HO.out hfi
          have hin : i < nL := by rw [HN.out]; exact (List.getElem?_eq_some_iff.1 hix).1
          have T9 := HS.out.1.below b9
          have hf := rfind_calls (aM := aM) (nM := nM) (cM := cM) (aT := aR) (nT := nR) (cT := cR) (lk := lk) (HS.out.2.2.below b9) (by rw [← HN.out]; exact hl) id
          rw [← HN.out] at hf
          have hf2 : Calls Tryz.prog 85 #[rbV lk aL nL cL aM nM cM aR nR cR, .int .u64 id] wr fun e w' => e = .returned (.int .i64 i) ∧ Below wr.heap.size wr w' := hf.mono (by
            rintro e w' ⟨i', he, hp, hb⟩
            refine ⟨?_, hb⟩
            rcases hp with ⟨_, hno⟩ | ⟨k', x', rfl, hk', _⟩
            · exfalso
              have := Keys1.get H0.out.1 (List.mem_of_getElem? hix)
              rw [hno] at this; cases this
            · have e1 : k' = i := by
                obtain ⟨h1, e1⟩ := List.getElem?_eq_some_iff.1 hk'
                obtain ⟨h2, e2⟩ := List.getElem?_eq_some_iff.1 hix
                have hp : L.Pairwise fun a b => a.1 ≠ b.1 := H0.out.1
                rw [List.pairwise_iff_getElem] at hp
                rcases Nat.lt_trichotomy k' i with h | h | h
                · exact absurd (by rw [e1, e2]) (hp k' i h1 h2 h)
                · exact h
                · exact absurd (by rw [e1, e2]) (hp i k' h2 h1 h)
              rw [he, e1])
          have HW := aside_of (And.intro hid (And.intro hix (And.intro hfi b9)))
          have hjn' : (j : Int) < (nD : Int) := by omega
          have hi0 : (0 : Int) ≤ (i : Int) := by omega
          have hin' : (i : Int) < (nL : Int) := by omega
          have HG : Aside (w5.heap.size ≤ g8) := by
            rcases HO.out.2 with ⟨h1, _⟩ | ⟨g', _, _, h1, hg, _⟩
            · cases h1
            · simp only [Value.slice.injEq, Option.some.injEq, Addr.mk.injEq, and_true] at h1
              rw [h1.1]; exact hg
          clear hf hid hix hfi b9 hnn
          have q0 := T9.box.q0
          have q1 := T9.box.q1
          have q2 := T9.box.q2
          have q3 := T9.box.q3
          have f0 := T9.box.fz 0
          have f1 := T9.box.fz 1
          have f2 := T9.box.fz 2
          have f3 := T9.box.fz 3
          have r0 := T9.res.q0
          have r1 := T9.res.q1
          have r2 := T9.res.q2
          have r3 := T9.res.q3
          have g0 := T9.res.fz 0
          have g1 := T9.res.fz 1
          have g2 := T9.res.fz 2
          have g3 := T9.res.fz 3
          clear T9
          go_wp2_with (go_at_call 85; with_reducible refine hf2.mono ?_; clear hf2; rintro e w10 ⟨he, b10⟩; subst he; have O10 := own_below HO.out b10; obtain ⟨x10, z10⟩ := own_cell3 O10 HW.out.2.2.1; have HV := aside_of (And.intro O10 b10); clear O10 b10 x3 z3 q0 q1 q2 q3 f0 f1 f2 f3 r0 r1 r2 r3 g0 g1 g2 g3)
          go_roundg (nD - (j + 1))
          case measure => omega
          case rel =>
            refine ⟨j + 1, by omega, rfl, by go_num, aside_of ?_, (HW.out.2.2.2.trans (HV.out.2.mono HW.out.2.2.2.size)).setCell HG.out _⟩
            have hs := own_store HV.out.1 (p := i * 4 + 3) (.bool true)
            obtain ⟨x', hx', ex'⟩ := flagL_get2 (D := D.take j) HW.out.2.1
            rw [leE_set hx', ex', flagL_set H0.out.1 HW.out.2.1] at hs
            have e1 : D.take (j + 1) = D.take j ++ [id] := by rw [List.take_add_one, HW.out.1]; rfl
            rw [e1]
            exact hs
        · obtain rfl : j = nD := by omega
          have ht : D.take j = D := by rw [← HE.out.2.1, List.take_length]
          have HZ := aside_of (And.intro HO.out b9)
          clear b9
          go_wp2
          go_meet
          exact ⟨aside_of (by have := HZ.out.1; rwa [ht] at this), HZ.out.2⟩
    case rest =>
      obtain ⟨HO, b9⟩ := hcut
      have T9 := HS.out.1.below b9
      have H9 := aside_of (And.intro T9 b9)
      clear q0 q1 q2 q3 f0 f1 f2 f3 r0 r1 r2 r3 g0 g1 g2 g3
      clear b9
      have q0 := T9.box.q0
      have q1 := T9.box.q1
      have q2 := T9.box.q2
      have q3 := T9.box.q3
      have f0 := T9.box.fz 0
      have f1 := T9.box.fz 1
      have f2 := T9.box.fz 2
      have f3 := T9.box.fz 3
      have r0 := T9.res.q0
      have r1 := T9.res.q1
      have r2 := T9.res.q2
      have r3 := T9.res.q3
      have g0 := T9.res.fz 0
      have g1 := T9.res.fz 1
      have g2 := T9.res.fz 2
      have g3 := T9.res.fz 3
      clear T9
      go_wp2
      obtain ⟨F3, F2, F1⟩ := (H9.out.1.put1 (.slice a8 nL c8)).out
      unfold outB at F3 F2 F1
      have y0 := F3.q0
      have y1 := F3.q1
      have y2 := F3.q2
      have y3 := F3.q3
      have hmv : ∀ g, w.heap.size + 2 ≤ g → (outB (wc.setCell ⟨w.heap.size, 1, none⟩ (.slice a8 nL c8)) w.heap.size lk (.slice a8 nL c8) (.slice aM nM cM) (.slice aR nR cR)).heap[g]? = wc.heap[g]? := fun g hg => by
        rw [((H9.out.1.put1 (.slice a8 nL c8)).out).2.2 g (by omega)]
        exact far_put (X := w.heap.size) _ _ _ g hg
      unfold outB at hmv
      refine bodyPost_ret (v := .tuple #[rbV lk a8 nL c8 aM nM cM aR nR cR, .slice aD nD cD]) (by simp [results, Tryz.results25, go_sem, y0, y1, y2, y3]) rfl (FIN.out k D _ _ a8 c8 aR cR aD cD nL nD nR HX.out.1 HE.out.1.symm HN.out HE.out.2.1.symm HE.out.2.2.symm rfl F2 ?_ HX.out.2.1 ?_)
      · exact SeqIn.far (w := wc) (X := w.heap.size) (.of_own leE_len (base := w5.heap.size) (e := 151) (n := nL) HO.out (by rw [flagL_length]; exact HN.out)) (own_far HO.out HX5.out) hmv
      · exact SeqIn.far (w := wc) (X := w.heap.size) (HS.out.2.1.below H9.out.2) (fun g o e => by have := HX.out.2.2.2.1 g o e; rw [HT.out.2] at this; exact this) hmv

end Go.Proofs.YtbdnlaepeladbaaGreatDoor

namespace Go.Proofs.YtbdnlaepeladbaaGreatDoor
open Go.ChangeShapes Go.WideShapes Go.ChangeAt Go.RowKit Go.Eng

variable {w w' : World} {d : RK} {aL aM aT : Option Addr} {cL cM cT : Nat}

theorem own_four (x0 x1 x2 x3 : Value) (e : TypeId) : ∀ (j : Nat) (u : Value), [x0, x1, x2, x3][j]? = some u → (w.alloc (.cells #[x0, x1, x2, x3] e)).cell? ((⟨w.heap.size, 0, none⟩ : Addr).add j) = some u := by
  intro j u hj
  match j with
  | 0 => simp at hj; subst hj; simp [Addr.add]
  | 1 => simp at hj; subst hj; simp [Addr.add]
  | 2 => simp at hj; subst hj; simp [Addr.add]
  | 3 => simp at hj; subst hj; simp [Addr.add]
  | j + 4 => simp at hj

set_option maxHeartbeats 1000000 in
set_option maxRecDepth 1000000 in
theorem rbegin_range (h : RbAt w d aL aM aT cL cM cT) (id t now : Int) (ht : t < 0 ∨ 7 < t) :
    Calls Tryz.prog 27 #[rbV d.leak aL d.L.length cL aM d.M.length cM aT d.T.length cT, .int .u64 id, .int .i64 t, .int .u64 now] w fun e w' => BackF w d 2 e w' := by
  obtain ⟨lk, L, M, T⟩ := d
  have HR := aside_of h
  have T1 := TwoB.start w lk (.slice aL L.length cL) (.slice aM M.length cM) (.slice aT T.length cT)
  have h1 := (h.below (below_alloc w (.cells #[.int .u64 lk, .slice aL L.length cL, .slice aM M.length cM, .slice aT T.length cT] 45))).below (below_alloc _ (.cells #[.int .u64 0, .slice none 0 0, .slice none 0 0, .slice none 0 0] 45))
  simp only at h1 ⊢
  have FIN : Aside (∀ (e : Ending) (v : World), e = .returned (.tuple #[rbV lk aL L.length cL aM M.length cM aT T.length cT, .int .i64 2]) → Below w.heap.size w v → BackF w ⟨lk, L, M, T⟩ 2 e v) := aside_of fun e v he hb => ⟨aL, cL, aM, cM, aT, cT, he, HR.out.below hb, hb⟩
  generalize L.length = nL at *
  generalize M.length = nM at *
  generalize T.length = nT at *
  clear h
  rcases ht with ht | ht
  all_goals
    obtain ⟨w1, hw1⟩ : ∃ w1, w1 = ((w.alloc (.cells #[.int .u64 lk, .slice aL nL cL, .slice aM nM cM, .slice aT nT cT] 45)).alloc (.cells #[.int .u64 0, .slice none 0 0, .slice none 0 0, .slice none 0 0] 45)) := ⟨_, rfl⟩
    have s1 : w1.heap.size = w.heap.size + 2 := by rw [hw1]; simp
    rw [← hw1] at T1 h1
    have HT := aside_of (And.intro T1 s1)
    have H1 := aside_of h1
    clear s1 h1
    subst hw1
    go_enter Tryz.func27, Tryz.ntmps27
    go_upto_region 1 with fail
    generalize ((w.alloc (.cells #[.int .u64 lk, .slice aL nL cL, .slice aM nM cM, .slice aT nT cT] 45)).alloc (.cells #[.int .u64 0, .slice none 0 0, .slice none 0 0, .slice none 0 0] 45)) = w1 at HT T1 H1 ⊢
    have q0 := T1.box.q0
    have q1 := T1.box.q1
    have q2 := T1.box.q2
    have q3 := T1.box.q3
    have f0 := T1.box.fz 0
    have f1 := T1.box.fz 1
    have f2 := T1.box.fz 2
    have f3 := T1.box.fz 3
    have r0 := T1.res.q0
    have r1 := T1.res.q1
    have r2 := T1.res.q2
    have r3 := T1.res.q3
    have g0 := T1.res.fz 0
    have g1 := T1.res.fz 1
    have g2 := T1.res.fz 2
    have g3 := T1.res.fz 3
    go_wp2
    obtain ⟨F3, F2, F1⟩ := (HT.out.1).out
    unfold outB at F3 F2 F1
    have y0 := F3.q0
    have y1 := F3.q1
    have y2 := F3.q2
    have y3 := F3.q3
    exact bodyPost_ret (v := .tuple #[.agg #[.int .u64 lk, .slice aL nL cL, .slice aM nM cM, .slice aT nT cT], .int .i64 2]) (by simp [results, Tryz.results27, go_sem, y0, y1, y2, y3]) rfl (FIN.out _ _ rfl F2)

set_option maxHeartbeats 1000000 in
set_option maxRecDepth 1000000 in
theorem rbegin_twice (h : RbAt w d aL aM aT cL cM cT) (hl : d.L.length ≤ 1000) (id t now : Int) (ht : 0 ≤ t ∧ t ≤ 7) (hs : (aget id d.L).isSome) :
    Calls Tryz.prog 27 #[rbV d.leak aL d.L.length cL aM d.M.length cM aT d.T.length cT, .int .u64 id, .int .i64 t, .int .u64 now] w fun e w' => BackF w d 10 e w' := by
  obtain ⟨lk, L, M, T⟩ := d
  have HR := aside_of h
  have T1 := TwoB.start w lk (.slice aL L.length cL) (.slice aM M.length cM) (.slice aT T.length cT)
  have h1 := (h.below (below_alloc w (.cells #[.int .u64 lk, .slice aL L.length cL, .slice aM M.length cM, .slice aT T.length cT] 45))).below (below_alloc _ (.cells #[.int .u64 0, .slice none 0 0, .slice none 0 0, .slice none 0 0] 45))
  have hf0 := rfind_calls (aM := aM) (nM := M.length) (cM := cM) (aT := aT) (nT := T.length) (cT := cT) (lk := lk) h1.l hl id
  simp only at h1 hf0 hs ⊢
  have hf := hf0.mono fun e w' (he : ∃ i, e = .returned (.int .i64 i) ∧ IsPos id L i ∧ Below _ _ w') => show ∃ k : Nat, e = .returned (.int .i64 k) ∧ Below _ _ w' from by
    obtain ⟨i, h1, h2, h3⟩ := he
    rcases h2 with ⟨_, hn⟩ | ⟨k, x, rfl, _⟩
    · rw [hn] at hs; cases hs
    · exact ⟨k, h1, h3⟩
  have FIN : Aside (∀ (e : Ending) (v : World), e = .returned (.tuple #[rbV lk aL L.length cL aM M.length cM aT T.length cT, .int .i64 10]) → Below w.heap.size w v → BackF w ⟨lk, L, M, T⟩ 10 e v) := aside_of fun e v he hb => ⟨aL, cL, aM, cM, aT, cT, he, HR.out.below hb, hb⟩
  generalize L.length = nL at *
  generalize M.length = nM at *
  generalize T.length = nT at *
  clear h hf0 hs
  obtain ⟨t0, t7⟩ := ht
  have t0' : ¬ t < 0 := by omega
  have t7' : ¬ 7 < t := by omega
  clear t0 t7
  obtain ⟨w1, hw1⟩ : ∃ w1, w1 = ((w.alloc (.cells #[.int .u64 lk, .slice aL nL cL, .slice aM nM cM, .slice aT nT cT] 45)).alloc (.cells #[.int .u64 0, .slice none 0 0, .slice none 0 0, .slice none 0 0] 45)) := ⟨_, rfl⟩
  have s1 : w1.heap.size = w.heap.size + 2 := by rw [hw1]; simp
  rw [← hw1] at T1 h1 hf
  have HT := aside_of (And.intro T1 s1)
  have H1 := aside_of h1
  clear s1 h1
  subst hw1
  go_enter Tryz.func27, Tryz.ntmps27
  go_upto_region 1 with fail
  generalize ((w.alloc (.cells #[.int .u64 lk, .slice aL nL cL, .slice aM nM cM, .slice aT nT cT] 45)).alloc (.cells #[.int .u64 0, .slice none 0 0, .slice none 0 0, .slice none 0 0] 45)) = w1 at HT T1 H1 hf ⊢
  have q0 := T1.box.q0
  have q1 := T1.box.q1
  have q2 := T1.box.q2
  have q3 := T1.box.q3
  have f0 := T1.box.fz 0
  have f1 := T1.box.fz 1
  have f2 := T1.box.fz 2
  have f3 := T1.box.fz 3
  have r0 := T1.res.q0
  have r1 := T1.res.q1
  have r2 := T1.res.q2
  have r3 := T1.res.q3
  have g0 := T1.res.fz 0
  have g1 := T1.res.fz 1
  have g2 := T1.res.fz 2
  have g3 := T1.res.fz 3
  clear T1
  go_wp2_with (go_at_call 85; with_reducible refine hf.mono ?_; clear hf; rintro e w3 ⟨k, he, b3⟩; subst he; have T3 := HT.out.1.below b3; have HO := aside_of T3; clear q0 q1 q2 q3 f0 f1 f2 f3 r0 r1 r2 r3 g0 g1 g2 g3; have q0 := T3.box.q0; have q1 := T3.box.q1; have q2 := T3.box.q2; have q3 := T3.box.q3; have f0 := T3.box.fz 0; have f1 := T3.box.fz 1; have f2 := T3.box.fz 2; have f3 := T3.box.fz 3; have r0 := T3.res.q0; have r1 := T3.res.q1; have r2 := T3.res.q2; have r3 := T3.res.q3; have g0 := T3.res.fz 0; have g1 := T3.res.fz 1; have g2 := T3.res.fz 2; have g3 := T3.res.fz 3; have hk0 : ¬ (k : Int) < 0 := (by omega); clear T3 b3)
  obtain ⟨F3, F2, F1⟩ := (HO.out).out
  unfold outB at F3 F2 F1
  have y0 := F3.q0
  have y1 := F3.q1
  have y2 := F3.q2
  have y3 := F3.q3
  exact bodyPost_ret (v := .tuple #[.agg #[.int .u64 lk, .slice aL nL cL, .slice aM nM cM, .slice aT nT cT], .int .i64 10]) (by simp [results, Tryz.results27, go_sem, y0, y1, y2, y3]) rfl (FIN.out _ _ rfl F2)

end Go.Proofs.YtbdnlaepeladbaaGreatDoor

namespace Go.Proofs.YtbdnlaepeladbaaGreatDoor
open Go.ChangeShapes Go.WideShapes Go.ChangeAt Go.RowKit Go.Eng

variable {w w' : World} {d : RK} {aL aM aT : Option Addr} {cL cM cT : Nat}

/-- The place at which an id goes in. -/
def InsL (L : List (Int × Le)) (id : Int) (i : Nat) : Prop := i ≤ L.length ∧ (∀ p ∈ L.take i, p.1 < id) ∧ ∀ p, L[i]? = some p → ¬ p.1 < id

def insL (L : List (Int × Le)) (id : Int) (x : Le) (i : Nat) : List (Int × Le) := L.take i ++ (id, x) :: L.drop i
def insT (T : List (Int × Int)) (id a : Int) (k : Nat) : List (Int × Int) := (T.filter fun x => x.1 != id).take k ++ (id, a) :: (T.filter fun x => x.1 != id).drop k

def BegNew (w : World) (d : RK) (id t now : Int) (e : Ending) (w' : World) : Prop :=
  ∃ i, InsL d.L id i ∧ ((d.leak = 0 ∧ BackF w { d with L := insL d.L id ⟨t, now, false⟩ i } 0 e w') ∨ (0 < d.leak ∧ ∃ k, InsAt (d.T.filter fun x => x.1 != id) (id, addT (addT now d.leak) 0) k ∧ BackF w { d with L := insL d.L id ⟨t, now, false⟩ i, T := insT d.T id (addT (addT now d.leak) 0) k } 0 e w'))

set_option maxHeartbeats 4000000 in
set_option maxRecDepth 1000000 in
theorem rbegin_new (h : RbAt w d aL aM aT cL cM cT) (hl : d.L.length ≤ 1000) (htl : d.T.length ≤ 1000) (id t now : Int) (ht : 0 ≤ t ∧ t ≤ 7) (hs : aget id d.L = none) (hk : U64 d.leak) (hn : U64 now) :
    Calls Tryz.prog 27 #[rbV d.leak aL d.L.length cL aM d.M.length cM aT d.T.length cT, .int .u64 id, .int .i64 t, .int .u64 now] w fun e w' => BegNew w d id t now e w' := by
  obtain ⟨i0, hi, hz0, hz1, hz2⟩ := info_partsU infoL
  obtain ⟨lk, L, M, T⟩ := d
  have HR := aside_of h
  have T1 := TwoB.start w lk (.slice aL L.length cL) (.slice aM M.length cM) (.slice aT T.length cT)
  have h1 := (h.below (below_alloc w (.cells #[.int .u64 lk, .slice aL L.length cL, .slice aM M.length cM, .slice aT T.length cT] 45))).below (below_alloc _ (.cells #[.int .u64 0, .slice none 0 0, .slice none 0 0, .slice none 0 0] 45))
  have hf0 := rfind_calls (aM := aM) (nM := M.length) (cM := cM) (aT := aT) (nT := T.length) (cT := cT) (lk := lk) h1.l hl id
  simp only at h1 hf0 hs hl htl hk hn ⊢
  have hf := hf0.mono fun e w' (he : ∃ i, e = .returned (.int .i64 i) ∧ IsPos id L i ∧ Below _ _ w') => show e = .returned (.int .i64 (-1)) ∧ Below _ _ w' from by
    obtain ⟨i, h1, h2, h3⟩ := he
    rcases h2 with ⟨rfl, _⟩ | ⟨k, x, _, _, hx⟩
    · exact ⟨h1, h3⟩
    · rw [hs] at hx; cases hx
  have hua : U64 (addT now lk) := by
    obtain ⟨a0, a1⟩ := hk
    obtain ⟨b0, b1⟩ := hn
    unfold addT maxT
    constructor <;> omega
  have harm := fun (v : World) (hv : SeqIn v 2 tmE aT cT T) => rarm_calls hv htl id hua
  have FIN0 : Aside (∀ (i : Nat) (e : Ending) (v : World) (aL' : Option Addr) (cL' : Nat), lk = 0 → InsL L id i → e = .returned (.tuple #[rbV lk aL' (L.length + 1) cL' aM M.length cM aT T.length cT, .int .i64 0]) → Below w.heap.size w v → SeqIn v 4 leE aL' cL' (insL L id ⟨t, now, false⟩ i) → BegNew w ⟨lk, L, M, T⟩ id t now e v) := aside_of fun i e v aL' cL' hlk hI he hb hsl => by
    refine ⟨i, hI, .inl ⟨hlk, aL', cL', aM, cM, aT, cT, ?_, ⟨hsl, (HR.out.below hb).m, (HR.out.below hb).t⟩, hb⟩⟩
    have e1 : (insL L id ⟨t, now, false⟩ i).length = L.length + 1 := by
      unfold insL
      rw [List.length_append, List.length_cons, List.length_take, List.length_drop]
      have := hI.1
      omega
    rw [he]; simp only [e1]
  have FIN1 : Aside (∀ (i k : Nat) (e : Ending) (v : World) (aL' : Option Addr) (cL' : Nat) (aT' : Option Addr) (cT' : Nat), 0 < lk → InsL L id i → InsAt (T.filter fun x => x.1 != id) (id, addT (addT now lk) 0) k → e = .returned (.tuple #[rbV lk aL' (L.length + 1) cL' aM M.length cM aT' ((T.filter fun x => x.1 != id).length + 1) cT', .int .i64 0]) → Below w.heap.size w v → SeqIn v 4 leE aL' cL' (insL L id ⟨t, now, false⟩ i) → SeqIn v 2 tmE aT' cT' (insT T id (addT (addT now lk) 0) k) → BegNew w ⟨lk, L, M, T⟩ id t now e v) := aside_of fun i k e v aL' cL' aT' cT' hlk hI hK he hb hsl hst => by
    refine ⟨i, hI, .inr ⟨hlk, k, hK, aL', cL', aM, cM, aT', cT', ?_, ⟨hsl, (HR.out.below hb).m, hst⟩, hb⟩⟩
    have e1 : (insL L id ⟨t, now, false⟩ i).length = L.length + 1 := by
      unfold insL
      rw [List.length_append, List.length_cons, List.length_take, List.length_drop]
      have := hI.1
      omega
    have e2 : (insT T id (addT (addT now lk) 0) k).length = (T.filter fun x => x.1 != id).length + 1 := by
      unfold insT
      rw [List.length_append, List.length_cons, List.length_take, List.length_drop]
      have := hK.1
      omega
    rw [he]; simp only [e1, e2]
  obtain ⟨n, hnL⟩ : ∃ n, n = L.length := ⟨_, rfl⟩
  have HN := aside_of hnL
  rw [← hnL] at hl T1 h1 hf FIN0 FIN1 ⊢
  generalize M.length = nM at *
  generalize T.length = nT at *
  have hcap := HR.out.l.le
  simp only at hcap
  rw [← hnL] at hcap
  obtain ⟨t0, t7⟩ := ht
  have t0' : ¬ t < 0 := by omega
  have t7' : ¬ 7 < t := by omega
  have hu := And.intro hk hn
  clear t0 t7 hnL h hf0 hs htl hua hk hn
  obtain ⟨w1, hw1⟩ : ∃ w1, w1 = ((w.alloc (.cells #[.int .u64 lk, .slice aL n cL, .slice aM nM cM, .slice aT nT cT] 45)).alloc (.cells #[.int .u64 0, .slice none 0 0, .slice none 0 0, .slice none 0 0] 45)) := ⟨_, rfl⟩
  have s1 : w1.heap.size = w.heap.size + 2 := by rw [hw1]; simp
  rw [← hw1] at T1 h1 hf
  have HT := aside_of (And.intro T1 s1)
  have H1 := aside_of h1
  clear s1 h1
  subst hw1
  go_enter Tryz.func27, Tryz.ntmps27
  go_upto_region 1 with fail
  generalize ((w.alloc (.cells #[.int .u64 lk, .slice aL n cL, .slice aM nM cM, .slice aT nT cT] 45)).alloc (.cells #[.int .u64 0, .slice none 0 0, .slice none 0 0, .slice none 0 0] 45)) = w1 at HT T1 H1 hf ⊢
  have q0 := T1.box.q0
  have q1 := T1.box.q1
  have q2 := T1.box.q2
  have q3 := T1.box.q3
  have f0 := T1.box.fz 0
  have f1 := T1.box.fz 1
  have f2 := T1.box.fz 2
  have f3 := T1.box.fz 3
  have r0 := T1.res.q0
  have r1 := T1.res.q1
  have r2 := T1.res.q2
  have r3 := T1.res.q3
  have g0 := T1.res.fz 0
  have g1 := T1.res.fz 1
  have g2 := T1.res.fz 2
  have g3 := T1.res.fz 3
  clear T1
  go_upto_block 0 with (go_at_call 85; with_reducible refine hf.mono ?_; clear hf; rintro e w3 ⟨he, b3⟩; subst he; have T3 := HT.out.1.below b3; have hS3 := (H1.out.below b3).l; have hz3 : w.heap.size + 2 ≤ w3.heap.size := (by have := b3.size; rw [HT.out.2] at this; exact this); have HO := aside_of (And.intro T3 (And.intro hS3 hz3)); clear q0 q1 q2 q3 f0 f1 f2 f3 r0 r1 r2 r3 g0 g1 g2 g3; have q0 := T3.box.q0; have q1 := T3.box.q1; have q2 := T3.box.q2; have q3 := T3.box.q3; have f0 := T3.box.fz 0; have f1 := T3.box.fz 1; have f2 := T3.box.fz 2; have f3 := T3.box.fz 3; have r0 := T3.res.q0; have r1 := T3.res.q1; have r2 := T3.res.q2; have r3 := T3.res.q3; have g0 := T3.res.fz 0; have g1 := T3.res.fz 1; have g2 := T3.res.fz 2; have g3 := T3.res.fz 3; clear T3 b3 hS3 hz3)
  go_cut [10] (fun v10 wx => ∃ i : Nat, i ≤ n ∧ v10 = .int .i64 i ∧ Aside (InsL L id i) ∧ w3 = wx)
  case first =>
    go_wp2
    go_loopg [10] n (fun gh v10 wr => ∃ k : Nat, k ≤ n ∧ gh = n - k ∧ v10 = .int .i64 k ∧ Aside (∀ p ∈ L.take k, p.1 < id) ∧ wr = w3)
    case atStart => exact ⟨0, Nat.zero_le _, rfl, rfl, aside_of (by simp), rfl⟩
    case round =>
      obtain ⟨k, hk, rfl, rfl, hlt, rfl⟩ := hrel
      by_cases hkn : k < n
      · obtain ⟨p, hp⟩ : ∃ p, L[k]? = some p := ⟨_, List.getElem?_eq_getElem (by rw [← HN.out]; exact hkn)⟩
        obtain ⟨g, o, rfl, c0, _, _, _⟩ := HO.out.2.1.le4 hp
        have HP := aside_of hp
        obtain ⟨p0, p1⟩ := p
        have hkn' : (k : Int) < (n : Int) := by omega
        clear hp
        by_cases hL : p0 < id
        · have hle8 : Aside (∀ p ∈ L.take (k + 1), p.1 < id) := aside_of (by
            intro q hq
            rw [List.take_add_one, HP.out] at hq
            rcases List.mem_append.1 hq with h | h
            · exact hlt.out q h
            · have : q = (p0, p1) := by simpa using h
              rw [this]; exact hL)
          go_wp2
          go_roundg (n - (k + 1))
          case measure => omega
          case rel => exact ⟨k + 1, by omega, rfl, by go_num, hle8, rfl⟩
        · have HI := aside_of (show InsL L id k from ⟨by rw [← HN.out]; exact hk, hlt.out, fun q hq => by rw [HP.out] at hq; obtain rfl := Option.some.inj hq; exact hL⟩)
          go_wp2
          go_meet
          exact ⟨k, hk, rfl, HI, rfl⟩
      · have HI := aside_of (show InsL L id k from ⟨by rw [← HN.out]; exact hk, hlt.out, fun q hq => by
          have := (List.getElem?_eq_some_iff.1 hq).1
          rw [← HN.out] at this; omega⟩)
        have hkn' : ¬ (k : Int) < (n : Int) := by omega
        go_wp2
        go_meet
        exact ⟨k, hk, rfl, HI, rfl⟩
  case rest =>
    obtain ⟨i, hin, rfl, HI, rfl⟩ := hcut
    have HZ3 := aside_of HO.out.2.2
    cases aL with
    | none =>
      obtain ⟨hL0, _⟩ := HO.out.2.1.none_nil
      have hn0 : n = 0 := by rw [HN.out, hL0]; rfl
      have hi0 : i = 0 := by omega
      have hc0 : cL = 0 := HR.out.l.no rfl
      subst hc0
      subst hi0
      subst hn0
      have H9 := aside_of hL0
      clear hL0
      go_upto_region 13 with (first
        | (at_builtin; refine wpList_append_own_none rfl (.tmp 47) (.tmp 51) 42 rfl w3.heap.size 151 i0 4 Tryz.underlying42 hi (.slice none 0 0) 0 [] rfl (World.ownsRow_nil w3 _ 151 4) rfl ?_)
        | (at_builtin; refine wpList_append_own _ rfl (.tmp 53) (.tmp 58) 42 rfl w3.heap.size 151 i0 (.agg #[.int .u64 0, .int .i64 0, .int .u64 0, .bool false]) 4 32 Tryz.underlying42 hi hz0 hz1 hz2 rfl (by decide) (.slice none 0 0) 0 [] rfl (World.ownsRow.alloc (World.ownsRow_nil w3 w3.heap.size 151 4) _) ⟨w3.heap.size, 0, none⟩ 1 1 [.int .u64 id, .int .i64 t, .int .u64 now, .bool false] rfl rfl (own_four _ _ _ _ _) (by simp [Value.oneCell']) (by unfold maxLen; omega) (by omega) (by simp) ?_; intro v7 w7 own7 gr7 _; have b7 : Below w3.heap.size w3 w7 := (below_alloc w3 _).trans (grown_ownU (by simp) (World.ownsRow.alloc (World.ownsRow_nil w3 w3.heap.size 151 4) _) gr7); obtain ⟨a7, c7, rfl⟩ := own_shapeU own7; have T7 := HO.out.1.below b7; have OX := aside_of (And.intro own7 (And.intro T7 b7)); clear q0 q1 q2 q3 f0 f1 f2 f3 r0 r1 r2 r3 g0 g1 g2 g3; have q0 := T7.box.q0; have q1 := T7.box.q1; have q2 := T7.box.q2; have q3 := T7.box.q3; have f0 := T7.box.fz 0; have f1 := T7.box.fz 1; have f2 := T7.box.fz 2; have f3 := T7.box.fz 3; have r0 := T7.res.q0; have r1 := T7.res.q1; have r2 := T7.res.q2; have r3 := T7.res.q3; have g0 := T7.res.fz 0; have g1 := T7.res.fz 1; have g2 := T7.res.fz 2; have g3 := T7.res.fz 3; clear own7 T7 b7))
      go_cut [] (fun wx => ∃ aL' cL', Aside (SeqIn wx 4 leE aL' cL' (insL L id ⟨t, now, false⟩ 0) ∧ Far aL' w.heap.size) ∧ TwoB w lk (.slice aL' (0 + 1) cL') (.slice aM nM cM) (.slice aT nT cT) w.heap.size wx)
      case first =>
        go_wp2_with (at_builtin; refine wpList_append_own_none rfl (.tmp 60) (.tmp 64) 42 rfl w3.heap.size 151 i0 4 Tryz.underlying42 hi (.slice a7 1 c7) 1 ([] ++ [.int .u64 id, .int .i64 t, .int .u64 now, .bool false]) rfl OX.out.1 rfl ?_)
        go_meet
        refine ⟨a7, c7, aside_of ⟨?_, own_far OX.out.1 HZ3.out⟩, OX.out.2.1.put1 _⟩
        refine SeqIn.far (w := w7) (X := w.heap.size) (.of_own leE_len (base := w3.heap.size) (e := 151) (n := 1) ?_ (by rw [H9.out]; rfl)) (own_far OX.out.1 HZ3.out) (far_put _ _ _)
        rw [H9.out]
        exact OX.out.1
      case rest =>
        obtain ⟨aL', cL', HOL, T6⟩ := hcut
        clear q0 q1 q2 q3 f0 f1 f2 f3 r0 r1 r2 r3 g0 g1 g2 g3
        have q0 := T6.box.q0
        have q1 := T6.box.q1
        have q2 := T6.box.q2
        have q3 := T6.box.q3
        have f0 := T6.box.fz 0
        have f1 := T6.box.fz 1
        have f2 := T6.box.fz 2
        have f3 := T6.box.fz 3
        have r0 := T6.res.q0
        have r1 := T6.res.q1
        have r2 := T6.res.q2
        have r3 := T6.res.q3
        have g0 := T6.res.fz 0
        have g1 := T6.res.fz 1
        have g2 := T6.res.fz 2
        have g3 := T6.res.fz 3
        have H6 := aside_of T6
        have hT6 : SeqIn wc 2 tmE aT cT T := SeqIn.low HR.out.t T6.low (Nat.le_refl _)
        clear T6
        have hX6 : w.heap.size + 2 ≤ wc.heap.size := H6.out.gt
        have HX6 := aside_of hX6
        clear hX6
        by_cases hlk : lk = 0
        · have HLK := aside_of hlk
          subst hlk
          clear harm hT6 hu
          go_wp2
          obtain ⟨F3, F2, F1⟩ := H6.out.out
          have hmv := TwoB.far_out H6.out
          unfold outB at F3 F2 F1 hmv
          have y0 := F3.q0
          have y1 := F3.q1
          have y2 := F3.q2
          have y3 := F3.q3
          exact bodyPost_ret (v := .tuple #[rbV 0 aL' (0 + 1) cL' aM nM cM aT nT cT, .int .i64 0]) (by simp [results, Tryz.results27, go_sem, y0, y1, y2, y3]) rfl (FIN0.out 0 _ _ aL' cL' HLK.out HI.out rfl F2 (SeqIn.far (w := wc) (X := w.heap.size) HOL.out.1 HOL.out.2 hmv))
        · have hlk1 : 0 < lk := by have := hu.1.1; omega
          have HLK := aside_of hlk1
          have ha := harm wc hT6
          clear harm hT6
          unfold ArmOut at ha
          obtain ⟨⟨k0, k1⟩, n0, n1⟩ := hu
          have hlk2 : ¬ lk ≤ 0 := by omega
          generalize hz : (T.filter fun x => x.1 != id).length = nR at ha
          have HNR := aside_of hz
          clear hz
          have K : Aside (∀ (e : Ending) (wf : World), (∃ k a cap, InsAt (T.filter fun x => x.1 != id) (id, addT (addT now lk) 0) k ∧ e = .returned (.tuple #[.slice a (nR + 1) cap, .int .i64 0]) ∧ SeqIn wf 2 tmE a cap ((T.filter fun x => x.1 != id).take k ++ (id, addT (addT now lk) 0) :: (T.filter fun x => x.1 != id).drop k) ∧ NewA wc a ∧ Below wc.heap.size wc wf) → ∃ a cap, e = .returned (.tuple #[.slice a (nR + 1) cap, .int .i64 0]) ∧ TwoB w lk (.slice aL' (0 + 1) cL') (.slice aM nM cM) (.slice aT nT cT) w.heap.size wf ∧ Aside (∃ k, InsAt (T.filter fun x => x.1 != id) (id, addT (addT now lk) 0) k ∧ SeqIn wf 2 tmE a cap (insT T id (addT (addT now lk) 0) k) ∧ NewA wc a ∧ Below wc.heap.size wc wf)) := aside_of (by
            rintro e wf ⟨k, a, cap, h1, h2, h3, h4, h5⟩
            exact ⟨a, cap, h2, H6.out.below h5, aside_of ⟨k, h1, h3, h4, h5⟩⟩)
          have ha2 := ha.mono fun e wf h => K.out e wf h
          clear ha
          by_cases c1 : now ≤ 1152921504606846976
          · by_cases c2 : lk ≤ 1152921504606846976
            · by_cases c3 : now + lk ≤ 1152921504606846976
              · have e1 : addT now lk = now + lk := by unfold addT maxT; omega
                have e2 : (now + lk) % 18446744073709551616 = now + lk := by omega
                rw [e1] at ha2
                have E1 := aside_of e1
                clear e1
                go_wp2_with (go_at_call 86; with_reducible refine ha2.mono ?_; clear ha2; rintro e w8 ⟨aT', cT', he, T8, HA8⟩; subst he; have OZ := aside_of (And.intro T8 HA8); clear q0 q1 q2 q3 f0 f1 f2 f3 r0 r1 r2 r3 g0 g1 g2 g3; have q0 := T8.box.q0; have q1 := T8.box.q1; have q2 := T8.box.q2; have q3 := T8.box.q3; have f0 := T8.box.fz 0; have f1 := T8.box.fz 1; have f2 := T8.box.fz 2; have f3 := T8.box.fz 3; have r0 := T8.res.q0; have r1 := T8.res.q1; have r2 := T8.res.q2; have r3 := T8.res.q3; have g0 := T8.res.fz 0; have g1 := T8.res.fz 1; have g2 := T8.res.fz 2; have g3 := T8.res.fz 3; clear T8 HA8)
                obtain ⟨F3, F2, F1⟩ := (OZ.out.1.put3 (.slice aT' (nR + 1) cT')).out
                have hmv : ∀ g, w.heap.size + 2 ≤ g → (outB (w8.setCell ⟨w.heap.size, 3, none⟩ (.slice aT' (nR + 1) cT')) w.heap.size lk (.slice aL' (0 + 1) cL') (.slice aM nM cM) (.slice aT' (nR + 1) cT')).heap[g]? = w8.heap[g]? := fun g hg => by
                  rw [((OZ.out.1.put3 (.slice aT' (nR + 1) cT')).out).2.2 g (by omega)]
                  exact far_put (X := w.heap.size) _ _ _ g hg
                unfold outB at F3 F2 F1 hmv
                have y0 := F3.q0
                have y1 := F3.q1
                have y2 := F3.q2
                have y3 := F3.q3
                obtain ⟨kk, hi1, hi2, hi3, hi4⟩ := OZ.out.2.out
                refine bodyPost_ret (v := .tuple #[rbV lk aL' (0 + 1) cL' aM nM cM aT' (nR + 1) cT', .int .i64 0]) (by simp [results, Tryz.results27, go_sem, y0, y1, y2, y3]) rfl (FIN1.out 0 kk _ _ aL' cL' aT' cT' HLK.out HI.out (by rw [E1.out]; exact hi1) (by rw [HNR.out]) F2 ?_ ?_)
                · exact SeqIn.far (w := w8) (X := w.heap.size) (HOL.out.1.below hi4) HOL.out.2 hmv
                · rw [E1.out]
                  exact SeqIn.far (w := w8) (X := w.heap.size) hi2 (fun g o e => Nat.le_trans HX6.out (hi3 g o e)) hmv
              · have e1 : addT now lk = 1152921504606846976 := by unfold addT maxT; omega
                have e2 : (now + lk) % 18446744073709551616 = now + lk := by omega
                rw [e1] at ha2
                have E1 := aside_of e1
                clear e1
                go_wp2_with (go_at_call 86; with_reducible refine ha2.mono ?_; clear ha2; rintro e w8 ⟨aT', cT', he, T8, HA8⟩; subst he; have OZ := aside_of (And.intro T8 HA8); clear q0 q1 q2 q3 f0 f1 f2 f3 r0 r1 r2 r3 g0 g1 g2 g3; have q0 := T8.box.q0; have q1 := T8.box.q1; have q2 := T8.box.q2; have q3 := T8.box.q3; have f0 := T8.box.fz 0; have f1 := T8.box.fz 1; have f2 := T8.box.fz 2; have f3 := T8.box.fz 3; have r0 := T8.res.q0; have r1 := T8.res.q1; have r2 := T8.res.q2; have r3 := T8.res.q3; have g0 := T8.res.fz 0; have g1 := T8.res.fz 1; have g2 := T8.res.fz 2; have g3 := T8.res.fz 3; clear T8 HA8)
                obtain ⟨F3, F2, F1⟩ := (OZ.out.1.put3 (.slice aT' (nR + 1) cT')).out
                have hmv : ∀ g, w.heap.size + 2 ≤ g → (outB (w8.setCell ⟨w.heap.size, 3, none⟩ (.slice aT' (nR + 1) cT')) w.heap.size lk (.slice aL' (0 + 1) cL') (.slice aM nM cM) (.slice aT' (nR + 1) cT')).heap[g]? = w8.heap[g]? := fun g hg => by
                  rw [((OZ.out.1.put3 (.slice aT' (nR + 1) cT')).out).2.2 g (by omega)]
                  exact far_put (X := w.heap.size) _ _ _ g hg
                unfold outB at F3 F2 F1 hmv
                have y0 := F3.q0
                have y1 := F3.q1
                have y2 := F3.q2
                have y3 := F3.q3
                obtain ⟨kk, hi1, hi2, hi3, hi4⟩ := OZ.out.2.out
                refine bodyPost_ret (v := .tuple #[rbV lk aL' (0 + 1) cL' aM nM cM aT' (nR + 1) cT', .int .i64 0]) (by simp [results, Tryz.results27, go_sem, y0, y1, y2, y3]) rfl (FIN1.out 0 kk _ _ aL' cL' aT' cT' HLK.out HI.out (by rw [E1.out]; exact hi1) (by rw [HNR.out]) F2 ?_ ?_)
                · exact SeqIn.far (w := w8) (X := w.heap.size) (HOL.out.1.below hi4) HOL.out.2 hmv
                · rw [E1.out]
                  exact SeqIn.far (w := w8) (X := w.heap.size) hi2 (fun g o e => Nat.le_trans HX6.out (hi3 g o e)) hmv
            · have e1 : addT now lk = 1152921504606846976 := by unfold addT maxT; omega
              rw [e1] at ha2
              have E1 := aside_of e1
              clear e1
              go_wp2_with (go_at_call 86; with_reducible refine ha2.mono ?_; clear ha2; rintro e w8 ⟨aT', cT', he, T8, HA8⟩; subst he; have OZ := aside_of (And.intro T8 HA8); clear q0 q1 q2 q3 f0 f1 f2 f3 r0 r1 r2 r3 g0 g1 g2 g3; have q0 := T8.box.q0; have q1 := T8.box.q1; have q2 := T8.box.q2; have q3 := T8.box.q3; have f0 := T8.box.fz 0; have f1 := T8.box.fz 1; have f2 := T8.box.fz 2; have f3 := T8.box.fz 3; have r0 := T8.res.q0; have r1 := T8.res.q1; have r2 := T8.res.q2; have r3 := T8.res.q3; have g0 := T8.res.fz 0; have g1 := T8.res.fz 1; have g2 := T8.res.fz 2; have g3 := T8.res.fz 3; clear T8 HA8)
              obtain ⟨F3, F2, F1⟩ := (OZ.out.1.put3 (.slice aT' (nR + 1) cT')).out
              have hmv : ∀ g, w.heap.size + 2 ≤ g → (outB (w8.setCell ⟨w.heap.size, 3, none⟩ (.slice aT' (nR + 1) cT')) w.heap.size lk (.slice aL' (0 + 1) cL') (.slice aM nM cM) (.slice aT' (nR + 1) cT')).heap[g]? = w8.heap[g]? := fun g hg => by
                rw [((OZ.out.1.put3 (.slice aT' (nR + 1) cT')).out).2.2 g (by omega)]
                exact far_put (X := w.heap.size) _ _ _ g hg
              unfold outB at F3 F2 F1 hmv
              have y0 := F3.q0
              have y1 := F3.q1
              have y2 := F3.q2
              have y3 := F3.q3
              obtain ⟨kk, hi1, hi2, hi3, hi4⟩ := OZ.out.2.out
              refine bodyPost_ret (v := .tuple #[rbV lk aL' (0 + 1) cL' aM nM cM aT' (nR + 1) cT', .int .i64 0]) (by simp [results, Tryz.results27, go_sem, y0, y1, y2, y3]) rfl (FIN1.out 0 kk _ _ aL' cL' aT' cT' HLK.out HI.out (by rw [E1.out]; exact hi1) (by rw [HNR.out]) F2 ?_ ?_)
              · exact SeqIn.far (w := w8) (X := w.heap.size) (HOL.out.1.below hi4) HOL.out.2 hmv
              · rw [E1.out]
                exact SeqIn.far (w := w8) (X := w.heap.size) hi2 (fun g o e => Nat.le_trans HX6.out (hi3 g o e)) hmv
          · have e1 : addT now lk = 1152921504606846976 := by unfold addT maxT; omega
            rw [e1] at ha2
            have E1 := aside_of e1
            clear e1
            go_wp2_with (go_at_call 86; with_reducible refine ha2.mono ?_; clear ha2; rintro e w8 ⟨aT', cT', he, T8, HA8⟩; subst he; have OZ := aside_of (And.intro T8 HA8); clear q0 q1 q2 q3 f0 f1 f2 f3 r0 r1 r2 r3 g0 g1 g2 g3; have q0 := T8.box.q0; have q1 := T8.box.q1; have q2 := T8.box.q2; have q3 := T8.box.q3; have f0 := T8.box.fz 0; have f1 := T8.box.fz 1; have f2 := T8.box.fz 2; have f3 := T8.box.fz 3; have r0 := T8.res.q0; have r1 := T8.res.q1; have r2 := T8.res.q2; have r3 := T8.res.q3; have g0 := T8.res.fz 0; have g1 := T8.res.fz 1; have g2 := T8.res.fz 2; have g3 := T8.res.fz 3; clear T8 HA8)
            obtain ⟨F3, F2, F1⟩ := (OZ.out.1.put3 (.slice aT' (nR + 1) cT')).out
            have hmv : ∀ g, w.heap.size + 2 ≤ g → (outB (w8.setCell ⟨w.heap.size, 3, none⟩ (.slice aT' (nR + 1) cT')) w.heap.size lk (.slice aL' (0 + 1) cL') (.slice aM nM cM) (.slice aT' (nR + 1) cT')).heap[g]? = w8.heap[g]? := fun g hg => by
              rw [((OZ.out.1.put3 (.slice aT' (nR + 1) cT')).out).2.2 g (by omega)]
              exact far_put (X := w.heap.size) _ _ _ g hg
            unfold outB at F3 F2 F1 hmv
            have y0 := F3.q0
            have y1 := F3.q1
            have y2 := F3.q2
            have y3 := F3.q3
            obtain ⟨kk, hi1, hi2, hi3, hi4⟩ := OZ.out.2.out
            refine bodyPost_ret (v := .tuple #[rbV lk aL' (0 + 1) cL' aM nM cM aT' (nR + 1) cT', .int .i64 0]) (by simp [results, Tryz.results27, go_sem, y0, y1, y2, y3]) rfl (FIN1.out 0 kk _ _ aL' cL' aT' cT' HLK.out HI.out (by rw [E1.out]; exact hi1) (by rw [HNR.out]) F2 ?_ ?_)
            · exact SeqIn.far (w := w8) (X := w.heap.size) (HOL.out.1.below hi4) HOL.out.2 hmv
            · rw [E1.out]
              exact SeqIn.far (w := w8) (X := w.heap.size) hi2 (fun g o e => Nat.le_trans HX6.out (hi3 g o e)) hmv

    | some p =>
      obtain ⟨g, o, rfl⟩ := HO.out.2.1.plain p rfl
      have hlk' : (L.take i).length = i := by rw [List.length_take, ← HN.out]; omega
      have hld' : (L.drop i).length = n - i := by rw [List.length_drop, ← HN.out]
      have f1' : Aside (((L.take i).flatMap leE).length = i * 4) := aside_of (by rw [flatE_length leE_len, hlk'])
      have f2' : Aside (((L.drop i).flatMap leE).length = (n - i) * 4) := aside_of (by rw [flatE_length leE_len, hld'])
      have HL := aside_of (And.intro hlk' hld')
      have HK := aside_of ((HO.out.2.1.take i).src leE_len (by decide))
      clear hlk' hld'
      go_upto_region 13 with (first
        | (at_builtin; refine wpList_append_own _ rfl (.tmp 47) (.tmp 51) 42 rfl w3.heap.size 151 i0 (.agg #[.int .u64 0, .int .i64 0, .int .u64 0, .bool false]) 4 32 Tryz.underlying42 hi hz0 hz1 hz2 rfl (by decide) (.slice none 0 0) 0 [] rfl (World.ownsRow_nil w3 _ 151 4) ⟨g, o, none⟩ i cL ((L.take i).flatMap leE) rfl f1'.out HK.out (flatE_one leE_one _) (by unfold maxLen; omega) (by omega) (Nat.le_refl _) ?_; intro v4 w4 own4 gr4 _; rw [List.nil_append, Nat.zero_add] at own4; obtain ⟨a4, c4, rfl⟩ := own_shapeU own4; have b4 : Below w3.heap.size w3 w4 := grown_ownU (Nat.le_refl _) (World.ownsRow_nil w3 w3.heap.size 151 4) gr4; have T4 := HO.out.1.below b4; have OW := aside_of (And.intro own4 (And.intro b4 T4)); clear q0 q1 q2 q3 f0 f1 f2 f3 r0 r1 r2 r3 g0 g1 g2 g3; have q0 := T4.box.q0; have q1 := T4.box.q1; have q2 := T4.box.q2; have q3 := T4.box.q3; have f0 := T4.box.fz 0; have f1 := T4.box.fz 1; have f2 := T4.box.fz 2; have f3 := T4.box.fz 3; have r0 := T4.res.q0; have r1 := T4.res.q1; have r2 := T4.res.q2; have r3 := T4.res.q3; have g0 := T4.res.fz 0; have g1 := T4.res.fz 1; have g2 := T4.res.fz 2; have g3 := T4.res.fz 3; clear own4 b4 T4)
        | (at_builtin; refine wpList_append_own _ rfl (.tmp 53) (.tmp 58) 42 rfl w3.heap.size 151 i0 (.agg #[.int .u64 0, .int .i64 0, .int .u64 0, .bool false]) 4 32 Tryz.underlying42 hi hz0 hz1 hz2 rfl (by decide) (.slice a4 i c4) i ((L.take i).flatMap leE) rfl (World.ownsRow.alloc OW.out.1 _) ⟨w4.heap.size, 0, none⟩ 1 1 [.int .u64 id, .int .i64 t, .int .u64 now, .bool false] rfl rfl (own_four _ _ _ _ _) (by simp [Value.oneCell']) (by unfold maxLen; omega) (by omega) (by have := OW.out.2.1.size; simp; omega) ?_; intro v7 w7 own7 gr7 _; have b7 : Below w3.heap.size w3 w7 := (OW.out.2.1.alloc OW.out.2.1.size _).trans (grown_ownU (by have := OW.out.2.1.size; simp; omega) (World.ownsRow.alloc OW.out.1 _) gr7); obtain ⟨a7, c7, rfl⟩ := own_shapeU own7; have T7 := HO.out.1.below b7; have OX := aside_of (And.intro own7 (And.intro T7 b7)); clear q0 q1 q2 q3 f0 f1 f2 f3 r0 r1 r2 r3 g0 g1 g2 g3; have q0 := T7.box.q0; have q1 := T7.box.q1; have q2 := T7.box.q2; have q3 := T7.box.q3; have f0 := T7.box.fz 0; have f1 := T7.box.fz 1; have f2 := T7.box.fz 2; have f3 := T7.box.fz 3; have r0 := T7.res.q0; have r1 := T7.res.q1; have r2 := T7.res.q2; have r3 := T7.res.q3; have g0 := T7.res.fz 0; have g1 := T7.res.fz 1; have g2 := T7.res.fz 2; have g3 := T7.res.fz 3; clear own7 T7 b7))
      go_cut [] (fun wx => ∃ aL' cL', Aside (SeqIn wx 4 leE aL' cL' (insL L id ⟨t, now, false⟩ i) ∧ Far aL' w.heap.size) ∧ TwoB w lk (.slice aL' (n + 1) cL') (.slice aM nM cM) (.slice aT nT cT) w.heap.size wx)
      case first =>
        by_cases hc : cL = i
        · have hn1 : n = i := by omega
          have hd0 : L.drop i = [] := List.drop_eq_nil_of_le (by rw [← HN.out, hn1]; exact Nat.le_refl _)
          have HD := aside_of hd0
          subst hc
          subst hn1
          clear hd0
          go_wp2_with (at_builtin; refine wpList_append_own _ rfl (.tmp 60) (.tmp 64) 42 rfl w3.heap.size 151 i0 (.agg #[.int .u64 0, .int .i64 0, .int .u64 0, .bool false]) 4 32 Tryz.underlying42 hi hz0 hz1 hz2 rfl (by decide) (.slice a7 (n + 1) c7) (n + 1) ((L.take n).flatMap leE ++ [.int .u64 id, .int .i64 t, .int .u64 now, .bool false]) rfl OX.out.1 ⟨g, o, none⟩ 0 0 [] rfl rfl (fun j u hj => by simp at hj) (by simp) (by unfold maxLen; omega) (by omega) OX.out.2.2.size ?_; intro v9 w9 own9 gr9 _; have b9 : Below w3.heap.size w7 w9 := grown_ownU OX.out.2.2.size OX.out.1 gr9; obtain ⟨a9, c9, rfl⟩ := own_shapeU own9; have T9 := OX.out.2.1.belowB b9 (by have := HZ3.out; omega); have OY := aside_of (And.intro own9 T9); clear q0 q1 q2 q3 f0 f1 f2 f3 r0 r1 r2 r3 g0 g1 g2 g3; have q0 := T9.box.q0; have q1 := T9.box.q1; have q2 := T9.box.q2; have q3 := T9.box.q3; have f0 := T9.box.fz 0; have f1 := T9.box.fz 1; have f2 := T9.box.fz 2; have f3 := T9.box.fz 3; have r0 := T9.res.q0; have r1 := T9.res.q1; have r2 := T9.res.q2; have r3 := T9.res.q3; have g0 := T9.res.fz 0; have g1 := T9.res.fz 1; have g2 := T9.res.fz 2; have g3 := T9.res.fz 3; clear own9 b9 T9)
          go_meet
          refine ⟨a9, c9, aside_of ⟨?_, own_far OY.out.1 HZ3.out⟩, OY.out.2.put1 _⟩
          refine SeqIn.far (w := w9) (X := w.heap.size) (.of_own leE_len (base := w3.heap.size) (e := 151) (n := n + 1 + 0) ?_ ?_) (own_far OY.out.1 HZ3.out) (far_put _ _ _)
          · have := OY.out.1
            rw [List.append_nil] at this
            unfold insL
            rw [HD.out, List.flatMap_append, List.flatMap_cons]
            exact this
          · unfold insL
            rw [List.length_append, List.length_cons, HL.out.1, HD.out]; rfl
        · have HK7 := aside_of (((HO.out.2.1.below OX.out.2.2).drop i).src leE_len (by decide))
          go_wp2_with (at_builtin; refine wpList_append_own _ rfl (.tmp 60) (.tmp 64) 42 rfl w3.heap.size 151 i0 (.agg #[.int .u64 0, .int .i64 0, .int .u64 0, .bool false]) 4 32 Tryz.underlying42 hi hz0 hz1 hz2 rfl (by decide) (.slice a7 (i + 1) c7) (i + 1) ((L.take i).flatMap leE ++ [.int .u64 id, .int .i64 t, .int .u64 now, .bool false]) rfl OX.out.1 ⟨g, o + i * 4, none⟩ (n - i) (cL - i) ((L.drop i).flatMap leE) rfl f2'.out HK7.out (flatE_one leE_one _) (by unfold maxLen; omega) (by omega) OX.out.2.2.size ?_; intro v9 w9 own9 gr9 _; have b9 : Below w3.heap.size w7 w9 := grown_ownU OX.out.2.2.size OX.out.1 gr9; obtain ⟨a9, c9, rfl⟩ := own_shapeU own9; have T9 := OX.out.2.1.belowB b9 (by have := HZ3.out; omega); have OY := aside_of (And.intro own9 T9); clear q0 q1 q2 q3 f0 f1 f2 f3 r0 r1 r2 r3 g0 g1 g2 g3; have q0 := T9.box.q0; have q1 := T9.box.q1; have q2 := T9.box.q2; have q3 := T9.box.q3; have f0 := T9.box.fz 0; have f1 := T9.box.fz 1; have f2 := T9.box.fz 2; have f3 := T9.box.fz 3; have r0 := T9.res.q0; have r1 := T9.res.q1; have r2 := T9.res.q2; have r3 := T9.res.q3; have g0 := T9.res.fz 0; have g1 := T9.res.fz 1; have g2 := T9.res.fz 2; have g3 := T9.res.fz 3; clear own9 b9 T9)
          go_meet
          have e1 : i + 1 + (n - i) = n + 1 := by omega
          rw [← e1]
          refine ⟨a9, c9, aside_of ⟨?_, own_far OY.out.1 HZ3.out⟩, OY.out.2.put1 _⟩
          refine SeqIn.far (w := w9) (X := w.heap.size) (.of_own leE_len (base := w3.heap.size) (e := 151) (n := i + 1 + (n - i)) ?_ ?_) (own_far OY.out.1 HZ3.out) (far_put _ _ _)
          · unfold insL
            rw [List.flatMap_append, List.flatMap_cons, ← List.append_assoc]
            exact OY.out.1
          · unfold insL
            rw [List.length_append, List.length_cons, HL.out.1, HL.out.2]; omega
      case rest =>
        obtain ⟨aL', cL', HOL, T6⟩ := hcut
        clear q0 q1 q2 q3 f0 f1 f2 f3 r0 r1 r2 r3 g0 g1 g2 g3
        have q0 := T6.box.q0
        have q1 := T6.box.q1
        have q2 := T6.box.q2
        have q3 := T6.box.q3
        have f0 := T6.box.fz 0
        have f1 := T6.box.fz 1
        have f2 := T6.box.fz 2
        have f3 := T6.box.fz 3
        have r0 := T6.res.q0
        have r1 := T6.res.q1
        have r2 := T6.res.q2
        have r3 := T6.res.q3
        have g0 := T6.res.fz 0
        have g1 := T6.res.fz 1
        have g2 := T6.res.fz 2
        have g3 := T6.res.fz 3
        have H6 := aside_of T6
        have hT6 : SeqIn wc 2 tmE aT cT T := SeqIn.low HR.out.t T6.low (Nat.le_refl _)
        clear T6
        have hX6 : w.heap.size + 2 ≤ wc.heap.size := H6.out.gt
        have HX6 := aside_of hX6
        clear hX6
        by_cases hlk : lk = 0
        · have HLK := aside_of hlk
          subst hlk
          clear harm hT6 hu
          go_wp2
          obtain ⟨F3, F2, F1⟩ := H6.out.out
          have hmv := TwoB.far_out H6.out
          unfold outB at F3 F2 F1 hmv
          have y0 := F3.q0
          have y1 := F3.q1
          have y2 := F3.q2
          have y3 := F3.q3
          exact bodyPost_ret (v := .tuple #[rbV 0 aL' (n + 1) cL' aM nM cM aT nT cT, .int .i64 0]) (by simp [results, Tryz.results27, go_sem, y0, y1, y2, y3]) rfl (FIN0.out i _ _ aL' cL' HLK.out HI.out rfl F2 (SeqIn.far (w := wc) (X := w.heap.size) HOL.out.1 HOL.out.2 hmv))
        · have hlk1 : 0 < lk := by have := hu.1.1; omega
          have HLK := aside_of hlk1
          have ha := harm wc hT6
          clear harm hT6
          unfold ArmOut at ha
          obtain ⟨⟨k0, k1⟩, n0, n1⟩ := hu
          have hlk2 : ¬ lk ≤ 0 := by omega
          generalize hz : (T.filter fun x => x.1 != id).length = nR at ha
          have HNR := aside_of hz
          clear hz
          have K : Aside (∀ (e : Ending) (wf : World), (∃ k a cap, InsAt (T.filter fun x => x.1 != id) (id, addT (addT now lk) 0) k ∧ e = .returned (.tuple #[.slice a (nR + 1) cap, .int .i64 0]) ∧ SeqIn wf 2 tmE a cap ((T.filter fun x => x.1 != id).take k ++ (id, addT (addT now lk) 0) :: (T.filter fun x => x.1 != id).drop k) ∧ NewA wc a ∧ Below wc.heap.size wc wf) → ∃ a cap, e = .returned (.tuple #[.slice a (nR + 1) cap, .int .i64 0]) ∧ TwoB w lk (.slice aL' (n + 1) cL') (.slice aM nM cM) (.slice aT nT cT) w.heap.size wf ∧ Aside (∃ k, InsAt (T.filter fun x => x.1 != id) (id, addT (addT now lk) 0) k ∧ SeqIn wf 2 tmE a cap (insT T id (addT (addT now lk) 0) k) ∧ NewA wc a ∧ Below wc.heap.size wc wf)) := aside_of (by
            rintro e wf ⟨k, a, cap, h1, h2, h3, h4, h5⟩
            exact ⟨a, cap, h2, H6.out.below h5, aside_of ⟨k, h1, h3, h4, h5⟩⟩)
          have ha2 := ha.mono fun e wf h => K.out e wf h
          clear ha
          by_cases c1 : now ≤ 1152921504606846976
          · by_cases c2 : lk ≤ 1152921504606846976
            · by_cases c3 : now + lk ≤ 1152921504606846976
              · have e1 : addT now lk = now + lk := by unfold addT maxT; omega
                have e2 : (now + lk) % 18446744073709551616 = now + lk := by omega
                rw [e1] at ha2
                have E1 := aside_of e1
                clear e1
                go_wp2_with (go_at_call 86; with_reducible refine ha2.mono ?_; clear ha2; rintro e w8 ⟨aT', cT', he, T8, HA8⟩; subst he; have OZ := aside_of (And.intro T8 HA8); clear q0 q1 q2 q3 f0 f1 f2 f3 r0 r1 r2 r3 g0 g1 g2 g3; have q0 := T8.box.q0; have q1 := T8.box.q1; have q2 := T8.box.q2; have q3 := T8.box.q3; have f0 := T8.box.fz 0; have f1 := T8.box.fz 1; have f2 := T8.box.fz 2; have f3 := T8.box.fz 3; have r0 := T8.res.q0; have r1 := T8.res.q1; have r2 := T8.res.q2; have r3 := T8.res.q3; have g0 := T8.res.fz 0; have g1 := T8.res.fz 1; have g2 := T8.res.fz 2; have g3 := T8.res.fz 3; clear T8 HA8)
                obtain ⟨F3, F2, F1⟩ := (OZ.out.1.put3 (.slice aT' (nR + 1) cT')).out
                have hmv : ∀ g, w.heap.size + 2 ≤ g → (outB (w8.setCell ⟨w.heap.size, 3, none⟩ (.slice aT' (nR + 1) cT')) w.heap.size lk (.slice aL' (n + 1) cL') (.slice aM nM cM) (.slice aT' (nR + 1) cT')).heap[g]? = w8.heap[g]? := fun g hg => by
                  rw [((OZ.out.1.put3 (.slice aT' (nR + 1) cT')).out).2.2 g (by omega)]
                  exact far_put (X := w.heap.size) _ _ _ g hg
                unfold outB at F3 F2 F1 hmv
                have y0 := F3.q0
                have y1 := F3.q1
                have y2 := F3.q2
                have y3 := F3.q3
                obtain ⟨kk, hi1, hi2, hi3, hi4⟩ := OZ.out.2.out
                refine bodyPost_ret (v := .tuple #[rbV lk aL' (n + 1) cL' aM nM cM aT' (nR + 1) cT', .int .i64 0]) (by simp [results, Tryz.results27, go_sem, y0, y1, y2, y3]) rfl (FIN1.out i kk _ _ aL' cL' aT' cT' HLK.out HI.out (by rw [E1.out]; exact hi1) (by rw [HNR.out]) F2 ?_ ?_)
                · exact SeqIn.far (w := w8) (X := w.heap.size) (HOL.out.1.below hi4) HOL.out.2 hmv
                · rw [E1.out]
                  exact SeqIn.far (w := w8) (X := w.heap.size) hi2 (fun g o e => Nat.le_trans HX6.out (hi3 g o e)) hmv
              · have e1 : addT now lk = 1152921504606846976 := by unfold addT maxT; omega
                have e2 : (now + lk) % 18446744073709551616 = now + lk := by omega
                rw [e1] at ha2
                have E1 := aside_of e1
                clear e1
                go_wp2_with (go_at_call 86; with_reducible refine ha2.mono ?_; clear ha2; rintro e w8 ⟨aT', cT', he, T8, HA8⟩; subst he; have OZ := aside_of (And.intro T8 HA8); clear q0 q1 q2 q3 f0 f1 f2 f3 r0 r1 r2 r3 g0 g1 g2 g3; have q0 := T8.box.q0; have q1 := T8.box.q1; have q2 := T8.box.q2; have q3 := T8.box.q3; have f0 := T8.box.fz 0; have f1 := T8.box.fz 1; have f2 := T8.box.fz 2; have f3 := T8.box.fz 3; have r0 := T8.res.q0; have r1 := T8.res.q1; have r2 := T8.res.q2; have r3 := T8.res.q3; have g0 := T8.res.fz 0; have g1 := T8.res.fz 1; have g2 := T8.res.fz 2; have g3 := T8.res.fz 3; clear T8 HA8)
                obtain ⟨F3, F2, F1⟩ := (OZ.out.1.put3 (.slice aT' (nR + 1) cT')).out
                have hmv : ∀ g, w.heap.size + 2 ≤ g → (outB (w8.setCell ⟨w.heap.size, 3, none⟩ (.slice aT' (nR + 1) cT')) w.heap.size lk (.slice aL' (n + 1) cL') (.slice aM nM cM) (.slice aT' (nR + 1) cT')).heap[g]? = w8.heap[g]? := fun g hg => by
                  rw [((OZ.out.1.put3 (.slice aT' (nR + 1) cT')).out).2.2 g (by omega)]
                  exact far_put (X := w.heap.size) _ _ _ g hg
                unfold outB at F3 F2 F1 hmv
                have y0 := F3.q0
                have y1 := F3.q1
                have y2 := F3.q2
                have y3 := F3.q3
                obtain ⟨kk, hi1, hi2, hi3, hi4⟩ := OZ.out.2.out
                refine bodyPost_ret (v := .tuple #[rbV lk aL' (n + 1) cL' aM nM cM aT' (nR + 1) cT', .int .i64 0]) (by simp [results, Tryz.results27, go_sem, y0, y1, y2, y3]) rfl (FIN1.out i kk _ _ aL' cL' aT' cT' HLK.out HI.out (by rw [E1.out]; exact hi1) (by rw [HNR.out]) F2 ?_ ?_)
                · exact SeqIn.far (w := w8) (X := w.heap.size) (HOL.out.1.below hi4) HOL.out.2 hmv
                · rw [E1.out]
                  exact SeqIn.far (w := w8) (X := w.heap.size) hi2 (fun g o e => Nat.le_trans HX6.out (hi3 g o e)) hmv
            · have e1 : addT now lk = 1152921504606846976 := by unfold addT maxT; omega
              rw [e1] at ha2
              have E1 := aside_of e1
              clear e1
              go_wp2_with (go_at_call 86; with_reducible refine ha2.mono ?_; clear ha2; rintro e w8 ⟨aT', cT', he, T8, HA8⟩; subst he; have OZ := aside_of (And.intro T8 HA8); clear q0 q1 q2 q3 f0 f1 f2 f3 r0 r1 r2 r3 g0 g1 g2 g3; have q0 := T8.box.q0; have q1 := T8.box.q1; have q2 := T8.box.q2; have q3 := T8.box.q3; have f0 := T8.box.fz 0; have f1 := T8.box.fz 1; have f2 := T8.box.fz 2; have f3 := T8.box.fz 3; have r0 := T8.res.q0; have r1 := T8.res.q1; have r2 := T8.res.q2; have r3 := T8.res.q3; have g0 := T8.res.fz 0; have g1 := T8.res.fz 1; have g2 := T8.res.fz 2; have g3 := T8.res.fz 3; clear T8 HA8)
              obtain ⟨F3, F2, F1⟩ := (OZ.out.1.put3 (.slice aT' (nR + 1) cT')).out
              have hmv : ∀ g, w.heap.size + 2 ≤ g → (outB (w8.setCell ⟨w.heap.size, 3, none⟩ (.slice aT' (nR + 1) cT')) w.heap.size lk (.slice aL' (n + 1) cL') (.slice aM nM cM) (.slice aT' (nR + 1) cT')).heap[g]? = w8.heap[g]? := fun g hg => by
                rw [((OZ.out.1.put3 (.slice aT' (nR + 1) cT')).out).2.2 g (by omega)]
                exact far_put (X := w.heap.size) _ _ _ g hg
              unfold outB at F3 F2 F1 hmv
              have y0 := F3.q0
              have y1 := F3.q1
              have y2 := F3.q2
              have y3 := F3.q3
              obtain ⟨kk, hi1, hi2, hi3, hi4⟩ := OZ.out.2.out
              refine bodyPost_ret (v := .tuple #[rbV lk aL' (n + 1) cL' aM nM cM aT' (nR + 1) cT', .int .i64 0]) (by simp [results, Tryz.results27, go_sem, y0, y1, y2, y3]) rfl (FIN1.out i kk _ _ aL' cL' aT' cT' HLK.out HI.out (by rw [E1.out]; exact hi1) (by rw [HNR.out]) F2 ?_ ?_)
              · exact SeqIn.far (w := w8) (X := w.heap.size) (HOL.out.1.below hi4) HOL.out.2 hmv
              · rw [E1.out]
                exact SeqIn.far (w := w8) (X := w.heap.size) hi2 (fun g o e => Nat.le_trans HX6.out (hi3 g o e)) hmv
          · have e1 : addT now lk = 1152921504606846976 := by unfold addT maxT; omega
            rw [e1] at ha2
            have E1 := aside_of e1
            clear e1
            go_wp2_with (go_at_call 86; with_reducible refine ha2.mono ?_; clear ha2; rintro e w8 ⟨aT', cT', he, T8, HA8⟩; subst he; have OZ := aside_of (And.intro T8 HA8); clear q0 q1 q2 q3 f0 f1 f2 f3 r0 r1 r2 r3 g0 g1 g2 g3; have q0 := T8.box.q0; have q1 := T8.box.q1; have q2 := T8.box.q2; have q3 := T8.box.q3; have f0 := T8.box.fz 0; have f1 := T8.box.fz 1; have f2 := T8.box.fz 2; have f3 := T8.box.fz 3; have r0 := T8.res.q0; have r1 := T8.res.q1; have r2 := T8.res.q2; have r3 := T8.res.q3; have g0 := T8.res.fz 0; have g1 := T8.res.fz 1; have g2 := T8.res.fz 2; have g3 := T8.res.fz 3; clear T8 HA8)
            obtain ⟨F3, F2, F1⟩ := (OZ.out.1.put3 (.slice aT' (nR + 1) cT')).out
            have hmv : ∀ g, w.heap.size + 2 ≤ g → (outB (w8.setCell ⟨w.heap.size, 3, none⟩ (.slice aT' (nR + 1) cT')) w.heap.size lk (.slice aL' (n + 1) cL') (.slice aM nM cM) (.slice aT' (nR + 1) cT')).heap[g]? = w8.heap[g]? := fun g hg => by
              rw [((OZ.out.1.put3 (.slice aT' (nR + 1) cT')).out).2.2 g (by omega)]
              exact far_put (X := w.heap.size) _ _ _ g hg
            unfold outB at F3 F2 F1 hmv
            have y0 := F3.q0
            have y1 := F3.q1
            have y2 := F3.q2
            have y3 := F3.q3
            obtain ⟨kk, hi1, hi2, hi3, hi4⟩ := OZ.out.2.out
            refine bodyPost_ret (v := .tuple #[rbV lk aL' (n + 1) cL' aM nM cM aT' (nR + 1) cT', .int .i64 0]) (by simp [results, Tryz.results27, go_sem, y0, y1, y2, y3]) rfl (FIN1.out i kk _ _ aL' cL' aT' cT' HLK.out HI.out (by rw [E1.out]; exact hi1) (by rw [HNR.out]) F2 ?_ ?_)
            · exact SeqIn.far (w := w8) (X := w.heap.size) (HOL.out.1.below hi4) HOL.out.2 hmv
            · rw [E1.out]
              exact SeqIn.far (w := w8) (X := w.heap.size) hi2 (fun g o e => Nat.le_trans HX6.out (hi3 g o e)) hmv


end Go.Proofs.YtbdnlaepeladbaaGreatDoor
