/- What Check, End and Order hand back. Conditions: how the events lie in memory. -/
import Derived.Test.YtigdkcpipiimnaaGreatDoorCkB
import Derived.Test.YtigdkcpipiimnaaGreatDoorMo
import Derived.OwnWalk
namespace Go.Proofs.YtigdkcpipiimnaaGreatDoor
open Go.ChangeShapes Go.WideShapes Go.ChangeAt Go.RowKit Go.Eng Go.Deep

variable {w v v' : World} {C E wm : Nat} {lm rm : Option Nat} {c : CK} {e : Ev}

theorem aside_of {p : Prop} (h : p) : Aside p := h

theorem st_zero (v : World) : StAt v none none ⟨[], [], false⟩ :=
  ⟨⟨[], .inl ⟨rfl, rfl⟩, List.Pairwise.nil, fun _ => rfl⟩, [], .inl ⟨rfl, rfl⟩, List.Pairwise.nil, fun i => by simp [aget]⟩

/-- A new checker. -/
theorem ck_zero (w : World) : CkAt ((w.alloc (.map #[] 0)).alloc (.cells #[.map none, .map none, .bool false, .map (some w.heap.size), .int .u64 0] 75)) (w.heap.size + 1) none none w.heap.size CK.zero := by
  have hM : MapSt .i64 wayV (w.alloc (.map #[] 0)) w.heap.size [] := ⟨[], 0, (Go.MapKept.heap_alloc w _).1, trivial, List.Pairwise.nil, by simp⟩
  have hb := below_alloc (w.alloc (.map #[] 0)) (.cells #[.map none, .map none, .bool false, .map (some w.heap.size), .int .u64 0] 75)
  refine ⟨?_, st_zero _, ⟨[], hM.below hb hM.lt, List.Pairwise.nil, fun t => .inl ⟨rfl, rfl⟩⟩, by simp, by simp⟩
  have := (Go.MapKept.heap_alloc (w.alloc (.map #[] 0)) (.cells #[.map none, .map none, .bool false, .map (some w.heap.size), .int .u64 0] 75)).1
  rw [show (w.alloc (.map #[] 0)).heap.size = w.heap.size + 1 by simp] at this
  exact this

/-- Events in a row, in memory. -/
def EvsAt (w : World) (b off : Nat) (l : List Ev) : Prop := ∀ k e, l[k]? = some e → EvCells w b (off + k * 6) e

theorem EvCells.below {B b off : Nat} (h : EvCells w b off e) (hb : Below B w v) (hB : b < B) : EvCells v b off e := by
  obtain ⟨h0, h1, h2, h3, h4, h5⟩ := h
  exact ⟨(hb.cell hB).trans h0, (hb.cell hB).trans h1, (hb.cell hB).trans h2, (hb.cell hB).trans h3, (hb.cell hB).trans h4, (hb.cell hB).trans h5⟩

theorem EvsAt.below {B b off : Nat} {l : List Ev} (h : EvsAt w b off l) (hb : Below B w v) (hB : b < B) : EvsAt v b off l := fun k e he => EvCells.below (h k e he) hb hB

theorem run_at (c : CK) (l : List Ev) {k : Nat} (hl : l[k]? = some e) : c.run (l.drop k) = if (c.one e).2 = 0 then ((CK.run (c.one e).1 (l.drop (k + 1))).1, (CK.run (c.one e).1 (l.drop (k + 1))).2.1 + 1, (CK.run (c.one e).1 (l.drop (k + 1))).2.2) else ((c.one e).1, 0, (c.one e).2) := by
  have hd : l.drop k = e :: l.drop (k + 1) := by
    obtain ⟨h1, h2⟩ := List.getElem?_eq_some_iff.1 hl
    rw [List.drop_eq_getElem_cons h1, h2]
  rw [hd]
  split
  · rename_i h; exact CK.run_cons_ok h
  · rename_i h; exact CK.run_cons_bad h

/-- What run hands back. -/
def RunOut (w : World) (r : CK × Nat × Int) (x : Ending) (w' : World) : Prop :=
  ∃ C lm rm wm, x = .returned (.tuple #[.pointer (some ⟨C, 0, none⟩), .int .i64 (r.2.1 : Nat), .int .i64 r.2.2]) ∧ CkAt w' C lm rm wm r.1 ∧ Below w.heap.size w w'

theorem ck_one_inv (h : CkAt w C lm rm wm c) {back : List Ev} (hI : c.Inv back) (e : Ev) :
    Calls Tryz.prog 34 #[.pointer (some ⟨C, 0, none⟩), evA e] w fun x w' => x = .returned (.int .i64 (c.one e).2) ∧ ∃ lm' rm', CkAt w' C lm' rm' wm (c.one e).1 ∧ Upto (fun k => k = C ∨ k = wm) w w' := ck_one h ⟨hI.si, hI.keys⟩ e

theorem inv_one {back : List Ev} (hI : c.Inv back) (h0 : (c.one e).2 = 0) : (c.one e).1.Inv (e :: back) := by
  rcases c.one_cases e with ⟨hb, _⟩ | ⟨_, g⟩
  · exact absurd h0 hb
  · exact g.inv hI

set_option maxHeartbeats 1000000 in
set_option maxRecDepth 1000000 in
theorem run_some {b off n cap : Nat} {l : List Ev} (hl : EvsAt w b off l) (hb : b < w.heap.size) (hn : n = l.length) (hm : n ≤ 1000) :
    Calls Tryz.prog 24 #[.slice (some ⟨b, off, none⟩) n cap] w fun x w' => RunOut w (CK.zero.run l) x w' := by
  have HL : Aside (EvsAt w b off l) := hl
  have HN : Aside (n = l.length) := hn
  have Hc := ck_zero w
  obtain ⟨r, hr⟩ : ∃ r, CK.zero.run l = r := ⟨_, rfl⟩
  have HR0 : Aside (r = ((CK.zero.run (l.drop 0)).1, (CK.zero.run (l.drop 0)).2.1 + 0, (CK.zero.run (l.drop 0)).2.2)) := aside_of (by simp [hr])
  rw [hr]
  obtain ⟨B, hBe⟩ : ∃ B, B = w.heap.size := ⟨_, rfl⟩
  have HB : Aside (B = w.heap.size) := hBe
  rw [← hBe] at hb
  have low : Below B w ((w.alloc (.map #[] 0)).alloc (.cells #[.map none, .map none, .bool false, .map (some w.heap.size), .int .u64 0] 75)) := by
    rw [hBe]; exact ((Below.refl _ w).alloc (Nat.le_refl _) _).alloc (by simp) _
  have HS : Aside (B ≤ w.heap.size) := Nat.le_of_eq hBe
  clear hl hn hr hBe
  have hmm := @run_makeMap Tryz.prog
  go_enter Tryz.func24, Tryz.ntmps24
  go_wp2
  generalize (w.alloc (.map #[] 0)).alloc (.cells #[.map none, .map none, .bool false, .map (some w.heap.size), .int .u64 0] 75) = w2 at Hc low ⊢
  have HC : Aside (B ≤ w.heap.size + 1 ∧ B ≤ w.heap.size) := ⟨by have := HS.out; omega, HS.out⟩
  generalize w.heap.size + 1 = C at Hc HC ⊢
  generalize w.heap.size = wm at Hc HC
  go_loopg [14] n (fun gh i wx => ∃ (k : Nat) (lm rm : Option Nat) (c : CK), k ≤ n ∧ gh = n - k ∧ i = .int .i64 k ∧ CkAt wx C lm rm wm c ∧ c.Inv (l.take k).reverse ∧ Aside (r = ((c.run (l.drop k)).1, (c.run (l.drop k)).2.1 + k, (c.run (l.drop k)).2.2)) ∧ Below B w wx)
  case atStart => exact ⟨0, none, none, CK.zero, Nat.zero_le _, rfl, rfl, Hc, CK.inv0, HR0, low⟩
  case round =>
    clear Hc low HR0
    obtain ⟨k, lm, rm, c, hk, rfl, rfl, F, hI, HR, low⟩ := hrel
    by_cases hlt : k < n
    · obtain ⟨e, he⟩ : ∃ e, l[k]? = some e := ⟨_, List.getElem?_eq_getElem (by rw [← HN.out]; exact hlt)⟩
      obtain ⟨d0, d1, d2, d3, d4, d5⟩ := EvCells.below (HL.out k e he) low hb
      have HE : Aside (l[k]? = some e) := he
      have F1 := F.below (below_alloc wr (.cells #[.int .u64 e.step, .int .i64 e.thread, .int .i64 e.kind, .int .i64 e.op, .int .u64 e.id, .int .i64 e.err] 34))
      have low1 : Below B w (wr.alloc (.cells #[.int .u64 e.step, .int .i64 e.thread, .int .i64 e.kind, .int .i64 e.op, .int .u64 e.id, .int .i64 e.err] 34)) := low.alloc (by have := low.size; have := HS.out; omega) _
      have ev := EvBlk.new wr e
      have hone := ck_one_inv F1 hI e
      have HI : Aside (c.Inv (l.take k).reverse) := hI
      obtain ⟨q, hq⟩ : ∃ q, c.one e = q := ⟨_, rfl⟩
      have HQ : Aside (c.one e = q) := hq
      rw [hq] at hone
      obtain ⟨c', f⟩ := q
      simp only at hone
      have e0 := ev.q0
      have e1 := ev.q1
      have e2 := ev.q2
      have e3 := ev.q3
      have e4 := ev.q4
      have e5 := ev.q5
      have LOW := aside_of low1
      clear he F hI low low1 ev hq F1
      have hki : (k : Int) < (n : Int) := by omega
      go_upto_region 6 with (go_at_call 34; with_reducible refine hone.mono ?_; clear hone d0 d1 d2 d3 d4 d5 e0 e1 e2 e3 e4 e5; rintro x w3 ⟨hx, lm', rm', F3, u3⟩; subst hx)
      have low3 : Below B w w3 := LOW.out.trans (u3.below (by have := LOW.out.size; have := HS.out; omega) (by rintro j (rfl | rfl); exact HC.out.1; exact HC.out.2))
      by_cases hf : f = 0
      · subst hf
        go_wp2
        go_roundg (n - (k + 1))
        case measure => omega
        case rel =>
          have h0 : (c.one e).2 = 0 := by rw [HQ.out]
          have hi := inv_one HI.out h0
          have hr := run_at c l HE.out
          rw [if_pos h0] at hr
          rw [HQ.out] at hi hr
          refine ⟨k + 1, lm', rm', c', by omega, rfl, by go_num, F3, ?_, ?_, low3⟩
          · have : l.take (k + 1) = l.take k ++ [e] := by rw [List.take_add_one, HE.out]; rfl
            rw [this, List.reverse_append]; exact hi
          · refine aside_of ?_
            rw [HR.out, hr]
            simp only [Prod.mk.injEq, true_and, and_true]
            omega
      · have hf' : (f == 0) = false := by simpa using hf
        go_wp2
        refine bodyPost_ret (v := .tuple #[.pointer (some ⟨C, 0, none⟩), .int .i64 (k : Nat), .int .i64 f]) (by simp [results, Tryz.results24, go_sem]) rfl ?_
        have hr := run_at c l HE.out
        rw [if_neg (by rw [HQ.out]; exact hf), HQ.out] at hr
        have hR := HR.out
        rw [hr] at hR
        simp only [Nat.zero_add] at hR
        subst hR
        exact ⟨C, lm', rm', wm, rfl, F3, by rw [← HB.out]; exact low3⟩
    · obtain rfl : k = n := by omega
      go_wp2
      refine bodyPost_ret (v := .tuple #[.pointer (some ⟨C, 0, none⟩), .int .i64 (k : Nat), .int .i64 0]) (by simp [results, Tryz.results24, go_sem]) rfl ?_
      have hR := HR.out
      have : l.drop k = [] := by rw [List.drop_eq_nil_iff, HN.out]; exact Nat.le_refl _
      rw [this] at hR
      simp only [CK.run, Nat.zero_add] at hR
      subst hR
      exact ⟨C, lm, rm, wm, rfl, F, by rw [← HB.out]; exact low⟩

end Go.Proofs.YtigdkcpipiimnaaGreatDoor

namespace Go.Proofs.YtigdkcpipiimnaaGreatDoor
open Go.ChangeShapes Go.WideShapes Go.ChangeAt Go.RowKit Go.Eng Go.Deep

variable {w v v' : World} {C E wm : Nat} {lm rm : Option Nat} {c : CK} {e : Ev}

set_option maxHeartbeats 1000000 in
set_option maxRecDepth 1000000 in
theorem run_none (w : World) (cap : Nat) (p : Option Addr) :
    Calls Tryz.prog 24 #[.slice p 0 cap] w fun x w' => RunOut w (CK.zero.run []) x w' := by
  have Hc := ck_zero w
  have low : Below w.heap.size w ((w.alloc (.map #[] 0)).alloc (.cells #[.map none, .map none, .bool false, .map (some w.heap.size), .int .u64 0] 75)) := ((Below.refl _ w).alloc (Nat.le_refl _) _).alloc (by simp) _
  have hmm := @run_makeMap Tryz.prog
  go_enter Tryz.func24, Tryz.ntmps24
  go_wp2
  refine wp_loop_rounds 1 ?_
  rw [rounds_succ]
  go_wp2
  refine bodyPost_ret (v := .tuple #[.pointer (some ⟨w.heap.size + 1, 0, none⟩), .int .i64 0, .int .i64 0]) (by simp [results, Tryz.results24, go_sem]) rfl ?_
  exact ⟨_, _, _, _, rfl, Hc, low⟩

/-- A slice of events, in memory. -/
def EvSl (w : World) (v : Value) (l : List Ev) : Prop := ∃ p cap, v = .slice p l.length cap ∧ l.length ≤ 1000 ∧ l.length ≤ cap ∧ (l = [] ∨ ∃ b off, p = some ⟨b, off, none⟩ ∧ b < w.heap.size ∧ EvsAt w b off l)

theorem EvSl.below {s : Value} {l : List Ev} (h : EvSl w s l) (hb : Below w.heap.size w v) : EvSl v s l := by
  obtain ⟨p, cap, rfl, hl, hc, h⟩ := h
  refine ⟨p, cap, rfl, hl, hc, h.imp id ?_⟩
  rintro ⟨b, off, rfl, hB, hE⟩
  exact ⟨b, off, rfl, Nat.lt_of_lt_of_le hB hb.size, hE.below hb hB⟩

theorem run_calls {s : Value} {l : List Ev} (h : EvSl w s l) : Calls Tryz.prog 24 #[s] w fun x w' => RunOut w (CK.zero.run l) x w' := by
  obtain ⟨p, cap, rfl, hl, hc, rfl | ⟨b, off, rfl, hB, hE⟩⟩ := h
  · exact run_none w cap p
  · exact run_some hE hB rfl hl

set_option maxHeartbeats 1000000 in
set_option maxRecDepth 1000000 in
/-- Check. -/
theorem check_calls {s : Value} {l : List Ev} (h : EvSl w s l) :
    Calls Tryz.prog 6 #[s] w fun x w' => x = .returned (.tuple #[.int .i64 ((CK.zero.run l).2.1 : Nat), .int .i64 (CK.zero.run l).2.2]) ∧ Below w.heap.size w w' := by
  have hr := run_calls h
  generalize CK.zero.run l = r at hr ⊢
  unfold RunOut at hr
  clear h
  go_enter Tryz.func6, Tryz.ntmps6
  go_wp2_with (go_at_call 24; with_reducible refine hr.mono ?_; rintro x w2 ⟨C, lm, rm, wm, hx, F, b2⟩; subst hx)
  refine bodyPost_ret (v := .tuple #[.int .i64 (r.2.1 : Nat), .int .i64 r.2.2]) (by simp [results, Tryz.results6, go_sem]) rfl ⟨rfl, b2⟩

set_option maxHeartbeats 1000000 in
set_option maxRecDepth 1000000 in
/-- End. -/
theorem end_calls {s : Value} {l : List Ev} (h : EvSl w s l) :
    Calls Tryz.prog 11 #[s] w fun x w' => ∃ lm rm, x = .returned (stV lm rm (CK.zero.run l).1.s.c) ∧ StAt w' lm rm (CK.zero.run l).1.s ∧ Below w.heap.size w w' := by
  have b1 := below_alloc w (.cells #[.map none, .map none, .bool false] 30)
  have hr := run_calls (h.below b1)
  have R1 : RowS (w.alloc (.cells #[.map none, .map none, .bool false] 30)) w.heap.size none none false := RowS.new w none none false
  generalize CK.zero.run l = r at hr ⊢
  unfold RunOut at hr
  clear h
  go_enter Tryz.func11, Tryz.ntmps11
  go_wp2_with (go_at_call 24; with_reducible refine hr.mono ?_; clear hr; rintro x w2 ⟨C, lm, rm, wm, hx, F, b2⟩; subst hx; have R2 := R1.below b2 R1.lt; have q0 := F.q0; have q1 := F.q1; have q2 := F.q2; have f0 := R2.f0; have f1 := R2.f1; have f2 := R2.f2; have g0 := R2.q0; have g1 := R2.q1; have g2 := R2.q2)
  have R3 := R2.set lm rm r.1.s.c
  have S3 := F.st.offRow3 R2 (.map lm) (.map rm) (.bool r.1.s.c)
  have y0 := R3.q0
  have y1 := R3.q1
  have y2 := R3.q2
  refine bodyPost_ret (v := .agg #[.map lm, .map rm, .bool r.1.s.c]) (by simp [results, Tryz.results11, go_sem, y0, y1, y2]) rfl ⟨lm, rm, rfl, S3, ?_⟩
  exact (((b1.trans (b2.mono (by simp))).setCell (Nat.le_refl _) _).setCell (Nat.le_refl _) _).setCell (Nat.le_refl _) _

end Go.Proofs.YtigdkcpipiimnaaGreatDoor

namespace Go.Proofs.YtigdkcpipiimnaaGreatDoor
open Go.ChangeShapes Go.WideShapes Go.ChangeAt Go.RowKit Go.Eng Go.Deep

variable {w v v' w' : World} {C E wm : Nat} {lm rm : Option Nat} {c : CK} {e : Ev}

theorem infoEv : (Tryz.prog.info? 34).map (fun i => (i.zero, i.size, i.bytes)) = some (some (.agg #[.int .u64 0, .int .i64 0, .int .i64 0, .int .i64 0, .int .u64 0, .int .i64 0]), 6, 48) := by kernel_rfl

theorem info_partsE {P : Program} {t : TypeId} {z : Value} {s b : Nat} (h : (P.info? t).map (fun i => (i.zero, i.size, i.bytes)) = some (some z, s, b)) : ∃ i, P.info? t = some i ∧ i.zero = some z ∧ i.size = s ∧ i.bytes = b := by
  cases e : P.info? t with
  | none => rw [e] at h; cases h
  | some i =>
    rw [e] at h
    simp only [Option.map_some, Option.some.injEq, Prod.mk.injEq] at h
    exact ⟨i, rfl, h.1, h.2.1, h.2.2⟩

theorem own_shapeE {base size n : Nat} {e : TypeId} {v : Value} {xs : List Value} (h : w.ownsRow base e size v n xs) : ∃ a c, v = .slice a n c ∧ (a = none → n = 0 ∧ c = 0) ∧ ∀ b, a = some b → ∃ g, b = ⟨g, 0, none⟩ := by
  rcases h.2 with ⟨rfl, h0⟩ | ⟨g, cap, cur, rfl, _⟩
  · exact ⟨none, 0, by rw [h0], fun _ => ⟨h0, rfl⟩, (fun b hb => by cases hb)⟩
  · exact ⟨some ⟨g, 0, none⟩, cap, rfl, (fun h => by cases h), fun b hb => ⟨g, (Option.some.inj hb).symm⟩⟩

theorem grown_ownE {base n size : Nat} {e : TypeId} {v : Value} {xs : List Value} (hb : base ≤ w.heap.size) (h : w.ownsRow base e size v n xs) (hg : w.grownBy w' v.ownBlock) : Below base w w' :=
  (Below.refl base w).grown hg hb fun k hk => (World.ownsRow.lt h k hk).1

theorem own_six (a b c d x y : Value) (e : TypeId) : ∀ (j : Nat) (u : Value), [a, b, c, d, x, y][j]? = some u → (w.alloc (.cells #[a, b, c, d, x, y] e)).cell? ((⟨w.heap.size, 0, none⟩ : Addr).add j) = some u := by
  intro j u hj
  match j with
  | 0 => simp at hj; subst hj; simp [Addr.add]
  | 1 => simp at hj; subst hj; simp [Addr.add]
  | 2 => simp at hj; subst hj; simp [Addr.add]
  | 3 => simp at hj; subst hj; simp [Addr.add]
  | 4 => simp at hj; subst hj; simp [Addr.add]
  | 5 => simp at hj; subst hj; simp [Addr.add]
  | j + 6 => simp at hj

/-- The cells of some events. -/
def flE (l : List Ev) : List Value := l.flatMap evV
theorem flE_one (l : List Ev) (e : Ev) : flE (l ++ [e]) = flE l ++ [.int .u64 e.step, .int .i64 e.thread, .int .i64 e.kind, .int .i64 e.op, .int .u64 e.id, .int .i64 e.err] := by
  unfold flE
  rw [List.flatMap_append]
  simp [evV]

theorem flE_get : ∀ (l : List Ev) (k : Nat) (e : Ev), l[k]? = some e → (flE l)[k * 6]? = some (.int .u64 e.step) ∧ (flE l)[k * 6 + 1]? = some (.int .i64 e.thread) ∧ (flE l)[k * 6 + 2]? = some (.int .i64 e.kind) ∧ (flE l)[k * 6 + 3]? = some (.int .i64 e.op) ∧ (flE l)[k * 6 + 4]? = some (.int .u64 e.id) ∧ (flE l)[k * 6 + 5]? = some (.int .i64 e.err)
  | [], k, e, h => by simp at h
  | q :: l, 0, e, h => by
    obtain rfl := Option.some.inj (by simpa using h)
    simp [flE, evV]
  | q :: l, k + 1, e, h => by
    have := flE_get l k e (by simpa using h)
    have e1 : ∀ j, (flE (q :: l))[(k + 1) * 6 + j]? = (flE l)[k * 6 + j]? := by
      intro j
      unfold flE
      rw [List.flatMap_cons, List.getElem?_append_right (by simp [evV]; omega)]
      congr 1
      simp [evV]; omega
    have e0 := e1 0
    simp only [Nat.add_zero] at e0
    rw [e0, e1 1, e1 2, e1 3, e1 4, e1 5]
    exact this

/-- Points and retirements among the first k. -/
def mk (l : List Ev) (k : Nat) : List Ev := marks (l.take k)
theorem mk_succ {l : List Ev} {k : Nat} (he : l[k]? = some e) : mk l (k + 1) = if e.kind = 1 ∨ e.kind = 3 then mk l k ++ [e] else mk l k := by
  unfold mk marks
  have h : l.take (k + 1) = l.take k ++ [e] := by rw [List.take_add_one, he]; rfl
  rw [h, List.filter_append]
  by_cases h1 : e.kind = 1
  · simp [h1]
  · by_cases h3 : e.kind = 3
    · simp [h3]
    · simp [h1, h3]
theorem mk_le (l : List Ev) (k : Nat) : (mk l k).length ≤ l.length := by
  unfold mk marks
  exact Nat.le_trans (List.length_filter_le _ _) (by simp only [List.length_take]; omega)

set_option maxHeartbeats 4000000 in
set_option maxRecDepth 1000000 in
theorem order_some {b off cap : Nat} {l : List Ev} (hl : EvsAt w b off l) (hb : b < w.heap.size) (hm : l.length ≤ 1000) (hcap : l.length ≤ cap) :
    Calls Tryz.prog 7 #[.slice (some ⟨b, off, none⟩) l.length cap] w fun x w' => ∃ v, x = .returned v ∧ w'.ownsRow w.heap.size 34 6 v (mk l (CK.zero.run l).2.1).length (flE (mk l (CK.zero.run l).2.1)) ∧ Below w.heap.size w w' := by
  obtain ⟨i0, hi, hz0, hz1, hz2⟩ := info_partsE infoEv
  have hr := run_some (cap := cap) hl hb rfl hm
  have hle := (CK.run_le l CK.zero).1
  generalize CK.zero.run l = r at hr hle ⊢
  obtain ⟨c, m, f⟩ := r
  simp only at hle ⊢
  unfold RunOut at hr
  simp only at hr
  have CC : Aside (∀ {v : World}, Below w.heap.size w v → ∀ {k : Nat} {e : Ev}, l[k]? = some e → EvCells v b (off + k * 6) e) := aside_of fun hb' k e he => EvCells.below (hl k e he) hb' hb
  obtain ⟨n, hn⟩ : ∃ n, n = l.length := ⟨_, rfl⟩
  have HN : Aside (n = l.length) := hn
  rw [← hn] at hle hm hr hcap ⊢
  have hmc : m ≤ cap := Nat.le_trans hle hcap
  obtain ⟨B, hB⟩ : ∃ B, B = w.heap.size := ⟨_, rfl⟩
  have HB : Aside (B = w.heap.size) := hB
  have HS : Aside (B ≤ w.heap.size) := Nat.le_of_eq hB
  rw [← hB] at hr CC ⊢
  clear hl hb hn hB
  go_enter Tryz.func7, Tryz.ntmps7
  go_wp2_with (go_at_call 24; with_reducible refine hr.mono ?_; clear hr; rintro x w2 ⟨C, lm, rm, wm, hx, F, b2⟩; subst hx)
  clear F
  go_loopg [6, 19] m (fun gh v6 i wx => ∃ k : Nat, k ≤ m ∧ gh = m - k ∧ i = .int .i64 k ∧ Below B w wx ∧ wx.ownsRow B 34 6 v6 (mk l k).length (flE (mk l k)))
  case atStart => exact ⟨0, Nat.zero_le _, rfl, rfl, b2, World.ownsRow_nil w2 _ 34 6⟩
  case round =>
    obtain ⟨k, hk, rfl, rfl, hb, hown⟩ := hrel
    obtain ⟨a6, c6, rfl, _, _⟩ := own_shapeE hown
    by_cases hlt : k < m
    · obtain ⟨e, he⟩ : ∃ e, l[k]? = some e := ⟨_, List.getElem?_eq_getElem (by rw [← HN.out]; omega)⟩
      obtain ⟨d0, d1, d2, d3, d4, d5⟩ := CC.out hb he
      have HF : Aside (mk l (k + 1) = if e.kind = 1 ∨ e.kind = 3 then mk l k ++ [e] else mk l k) := mk_succ he
      have hmk := mk_le l k
      rw [← HN.out] at hmk
      have HO : Aside (wr.ownsRow B 34 6 (.slice a6 (mk l k).length c6) (mk l k).length (flE (mk l k))) := hown
      have HB2 : Aside (Below B w wr) := hb
      have hsz : B ≤ wr.heap.size := Nat.le_trans HS.out hb.size
      clear he hown hb
      generalize hz : (mk l k).length = z at hmk HO ⊢
      have HZ : Aside ((mk l k).length = z) := hz
      clear hz
      obtain ⟨e0, e1, e2, e3, e4, e5⟩ := e
      simp only at d0 d1 d2 d3 d4 d5 HF
      have hki : (k : Int) < (m : Int) := by omega
      have hkn : k < n := by omega
      have fin : ∀ (w7 : World) (a7 : Option Addr) (c7 : Nat), (e2 = 1 ∨ e2 = 3) → w7.ownsRow B 34 6 (.slice a7 (z + 1) c7) (z + 1) (flE (mk l k) ++ [.int .u64 e0, .int .i64 e1, .int .i64 e2, .int .i64 e3, .int .u64 e4, .int .i64 e5]) → (mk l (k + 1)).length = z + 1 ∧ w7.ownsRow B 34 6 (.slice a7 (z + 1) c7) (mk l (k + 1)).length (flE (mk l (k + 1))) := by
        intro w7 a7 c7 hor own7
        have hf := HF.out
        rw [if_pos hor] at hf
        have hlen : (mk l (k + 1)).length = z + 1 := by rw [hf, List.length_append, HZ.out]; rfl
        refine ⟨hlen, ?_⟩
        rw [hlen, hf, flE_one]
        exact own7
      have FIN := aside_of fin
      clear fin
      by_cases h1 : e2 = 1
      · subst h1
        go_wp2_with (at_builtin; refine wpList_append_own _ rfl (.tmp 31) (.tmp 33) 22 rfl B 34 i0 (.agg #[.int .u64 0, .int .i64 0, .int .i64 0, .int .i64 0, .int .u64 0, .int .i64 0]) 6 48 Tryz.underlying22 hi hz0 hz1 hz2 rfl (by decide) (.slice a6 z c6) z (flE (mk l k)) rfl (World.ownsRow.alloc (World.ownsRow.alloc HO.out _) _) ⟨wr.heap.size + 1, 0, none⟩ 1 1 [.int .u64 e0, .int .i64 e1, .int .i64 1, .int .i64 e3, .int .u64 e4, .int .i64 e5] rfl rfl (by have := own_six (w := wr.alloc (.cells #[.int .u64 e0, .int .i64 e1, .int .i64 1, .int .i64 e3, .int .u64 e4, .int .i64 e5] 34)) (.int .u64 e0) (.int .i64 e1) (.int .i64 1) (.int .i64 e3) (.int .u64 e4) (.int .i64 e5) 34; simpa using this) (by simp [Value.oneCell']) (by unfold maxLen; omega) (by omega) (by simp; omega) ?_; intro v7 w7 own7 gr7 _; have b7 : Below B w w7 := ((HB2.out.alloc hsz _).alloc (by simp; omega) _).trans (grown_ownE (by simp; omega) (World.ownsRow.alloc (World.ownsRow.alloc HO.out _) _) gr7); obtain ⟨a7, c7, rfl, _, _⟩ := own_shapeE own7)
        go_roundg (m - (k + 1))
        case measure => omega
        case rel => exact ⟨k + 1, by omega, rfl, by go_num, b7, (FIN.out _ _ _ (by decide) own7).2⟩
      · have h1' : (e2 == 1) = false := by simpa using h1
        by_cases h3 : e2 = 3
        · subst h3
          go_wp2_with (at_builtin; refine wpList_append_own _ rfl (.tmp 31) (.tmp 33) 22 rfl B 34 i0 (.agg #[.int .u64 0, .int .i64 0, .int .i64 0, .int .i64 0, .int .u64 0, .int .i64 0]) 6 48 Tryz.underlying22 hi hz0 hz1 hz2 rfl (by decide) (.slice a6 z c6) z (flE (mk l k)) rfl (World.ownsRow.alloc (World.ownsRow.alloc HO.out _) _) ⟨wr.heap.size + 1, 0, none⟩ 1 1 [.int .u64 e0, .int .i64 e1, .int .i64 3, .int .i64 e3, .int .u64 e4, .int .i64 e5] rfl rfl (by have := own_six (w := wr.alloc (.cells #[.int .u64 e0, .int .i64 e1, .int .i64 3, .int .i64 e3, .int .u64 e4, .int .i64 e5] 34)) (.int .u64 e0) (.int .i64 e1) (.int .i64 3) (.int .i64 e3) (.int .u64 e4) (.int .i64 e5) 34; simpa using this) (by simp [Value.oneCell']) (by unfold maxLen; omega) (by omega) (by simp; omega) ?_; intro v7 w7 own7 gr7 _; have b7 : Below B w w7 := ((HB2.out.alloc hsz _).alloc (by simp; omega) _).trans (grown_ownE (by simp; omega) (World.ownsRow.alloc (World.ownsRow.alloc HO.out _) _) gr7); obtain ⟨a7, c7, rfl, _, _⟩ := own_shapeE own7)
          go_roundg (m - (k + 1))
          case measure => omega
          case rel => exact ⟨k + 1, by omega, rfl, by go_num, b7, (FIN.out _ _ _ (by decide) own7).2⟩
        · have h3' : (e2 == 3) = false := by simpa using h3
          go_wp2
          go_roundg (m - (k + 1))
          case measure => omega
          case rel =>
            have hf := HF.out
            rw [if_neg (by rintro (h | h); exact h1 h; exact h3 h)] at hf
            refine ⟨k + 1, by omega, rfl, by go_num, HB2.out.alloc hsz _, ?_⟩
            rw [hf, HZ.out]
            exact World.ownsRow.alloc HO.out _
    · obtain rfl : k = m := by omega
      go_wp2
      go_ret
      exact ⟨_, rfl, hown, hb⟩

end Go.Proofs.YtigdkcpipiimnaaGreatDoor

namespace Go.Proofs.YtigdkcpipiimnaaGreatDoor
open Go.ChangeShapes Go.WideShapes Go.ChangeAt Go.RowKit Go.Eng Go.Deep

variable {w v v' w' : World} {C E wm : Nat} {lm rm : Option Nat} {c : CK} {e : Ev}

set_option maxHeartbeats 1000000 in
set_option maxRecDepth 1000000 in
theorem order_none (w : World) (cap : Nat) (p : Option Addr) (hp : p = none → cap = 0) :
    Calls Tryz.prog 7 #[.slice p 0 cap] w fun x w' => x = .returned (.slice none 0 0) ∧ Below w.heap.size w w' := by
  have hr := run_none w cap p
  unfold RunOut at hr
  cases p with
  | none =>
    obtain rfl := hp rfl
    go_enter Tryz.func7, Tryz.ntmps7
    go_wp2_with (go_at_call 24; with_reducible refine hr.mono ?_; clear hr; rintro x w2 ⟨C, lm, rm, wm, hx, F, b2⟩; subst hx; simp only [CK.run])
    refine wp_loop_rounds 1 ?_
    rw [rounds_succ]
    go_wp2
    go_ret
    exact ⟨rfl, b2⟩
  | some a =>
    go_enter Tryz.func7, Tryz.ntmps7
    go_wp2_with (go_at_call 24; with_reducible refine hr.mono ?_; clear hr; rintro x w2 ⟨C, lm, rm, wm, hx, F, b2⟩; subst hx; simp only [CK.run])
    refine wp_loop_rounds 1 ?_
    rw [rounds_succ]
    go_wp2
    go_ret
    exact ⟨rfl, b2⟩

/-- Order. -/
theorem order_calls {b off cap : Nat} {l : List Ev} (hl : EvsAt w b off l) (hb : b < w.heap.size) (hm : l.length ≤ 1000) (hcap : l.length ≤ cap) :
    Calls Tryz.prog 7 #[.slice (some ⟨b, off, none⟩) l.length cap] w fun x w' => ∃ a n c, x = .returned (.slice a n c) ∧ n = (mk l (CK.zero.run l).2.1).length ∧ (n = 0 ∨ ∃ g, a = some ⟨g, 0, none⟩ ∧ w.heap.size ≤ g ∧ g < w'.heap.size ∧ EvsAt w' g 0 (mk l (CK.zero.run l).2.1)) ∧ Below w.heap.size w w' := by
  refine (order_some hl hb hm hcap).mono ?_
  rintro x w' ⟨v, rfl, h, hB⟩
  generalize mk l (CK.zero.run l).2.1 = ms at h ⊢
  obtain ⟨a, c, rfl, h0, h1⟩ := own_shapeE h
  refine ⟨a, _, c, rfl, rfl, ?_, hB⟩
  cases a with
  | none => exact .inl (h0 rfl).1
  | some a =>
    obtain ⟨g, rfl⟩ := h1 _ rfl
    have hg := World.ownsRow.lt h
    refine .inr ⟨g, rfl, (hg g (by simp [Value.ownBlock])).1, (hg g (by simp [Value.ownBlock])).2, fun k e he => ?_⟩
    have hk : k < ms.length := (List.getElem?_eq_some_iff.1 he).1
    obtain ⟨q0, q1, q2, q3, q4, q5⟩ := flE_get ms k e he
    unfold EvCells
    simp only [Nat.zero_add]
    exact ⟨(World.ownsRow.cellAt h _ (by omega)).trans q0, (World.ownsRow.cellAt h _ (by omega)).trans q1, (World.ownsRow.cellAt h _ (by omega)).trans q2, (World.ownsRow.cellAt h _ (by omega)).trans q3, (World.ownsRow.cellAt h _ (by omega)).trans q4, (World.ownsRow.cellAt h _ (by omega)).trans q5⟩

end Go.Proofs.YtigdkcpipiimnaaGreatDoor
