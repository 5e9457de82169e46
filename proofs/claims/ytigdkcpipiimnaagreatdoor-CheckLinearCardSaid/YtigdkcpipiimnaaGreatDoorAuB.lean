/- What a point and a retirement hand back. Conditions: how the state's maps lie in memory. -/
import Derived.Test.YtigdkcpipiimnaaGreatDoorAuA
namespace Go.Proofs.YtigdkcpipiimnaaGreatDoor
open Go.ChangeShapes Go.WideShapes Go.ChangeAt Go.RowKit Go.Eng

variable {w w' : World} {lm rm : Option Nat} {s : AuS}

/-- What get and point hand back. -/
def Back (w : World) (lm rm : Option Nat) (p : AuS × Bool) (x : Ending) (w' : World) : Prop :=
  ∃ lm', x = .returned (.tuple #[stV lm' rm p.1.c, .bool p.2]) ∧ StAt w' lm' rm p.1 ∧ Below w.heap.size w w' ∧ OldNew w lm lm'

theorem get_c (s : AuS) (t id e : Int) : (s.get t id e).1.c = s.c := by
  unfold AuS.get
  split
  · split <;> rfl
  · split <;> rfl

theorem get_calls (h : StAt w lm rm s) (hI : s.Inv) (t id e : Int) :
    Calls Tryz.prog 35 #[stV lm rm s.c, .int .i64 t, .int .u64 id, .int .i64 e] w fun x w' => Back w lm rm (s.get t id e) x w' := by
  unfold Back
  rw [get_c]
  by_cases he : e = 0
  · subst he
    exact get_ok h hI t id
  · refine (get_else h t id e he).mono ?_
    rintro x w' ⟨h1, h2, h3⟩
    have : (s.get t id e).1 = s := by
      unfold AuS.get
      rw [if_neg he]
      split <;> rfl
    exact ⟨lm, h1, by rw [this]; exact h2, h3, OldNew.refl w lm⟩

set_option maxHeartbeats 1000000 in
set_option maxRecDepth 1000000 in
theorem point_get (h : StAt w lm rm s) (hI : s.Inv) (t id e : Int) :
    Calls Tryz.prog 27 #[stV lm rm s.c, .int .i64 t, .int .i64 0, .int .u64 id, .int .i64 e] w fun x w' => Back w lm rm (s.get t id e) x w' := by
  obtain ⟨w1, hw1⟩ : ∃ w1, w1 = (w.alloc (.cells #[.map lm, .map rm, .bool s.c] 30)).alloc (.cells #[.map none, .map none, .bool false] 30) := ⟨_, rfl⟩
  have T1 : Two w lm rm s.c w.heap.size w1 := by rw [hw1]; exact Two.start w lm rm s.c
  have st1 : StAt w1 lm rm s := by rw [hw1]; exact (h.grow _).grow _
  have lw1 : w1.heap.size = w.heap.size + 1 + 1 := by rw [hw1]; simp
  have ho : Aside ((∀ m, lm = some m → m < w.heap.size) ∧ ∀ m, rm = some m → m < w.heap.size) := ⟨h.old, h.oldR⟩
  have Kf : Aside (∀ {v : World}, Below w1.heap.size w1 v → Two w lm rm s.c w.heap.size v ∧ StAt v lm rm s) := fun hb => ⟨T1.below hb, st1.below hb⟩
  have hz : Aside (w1.heap.size = w.heap.size + 1 + 1) := lw1
  have hg := get_calls st1 hI t id e
  clear T1 st1 lw1 h
  subst hw1
  unfold Back at *
  rw [get_c] at *
  generalize (s.get t id e).2 = ok at *
  generalize (s.get t id e).1 = s' at *
  generalize s.c = c at *
  unfold stV at *
  go_enter Tryz.func27, Tryz.ntmps27
  go_wp2_with (go_at_call 35; with_reducible refine hg.mono ?_; rintro x w3 ⟨lm', hx, st3, b3, on3⟩; subst hx; obtain ⟨T3, _⟩ := Kf.out b3; have q0 := T3.box.q0; have q1 := T3.box.q1; have q2 := T3.box.q2; have g0 := T3.box.f0; have g1 := T3.box.f1; have g2 := T3.box.f2; have h0 := T3.res.q0; have h1 := T3.res.q1; have h2 := T3.res.q2; have f0 := T3.res.f0; have f1 := T3.res.f1; have f2 := T3.res.f2)
  have hz' := hz.out
  obtain ⟨F1, F2, F3⟩ := T3.out (c' := c) st3 (fun m e => on3.ne (by omega) (fun m e => by have := ho.out.1 m e; omega) e) (fun m e => by have := ho.out.2 m e; omega)
  have y0 := F3.q0
  have y1 := F3.q1
  have y2 := F3.q2
  exact bodyPost_ret (v := .tuple #[.agg #[.map lm', .map rm, .bool c], .bool ok]) (by simp [results, Tryz.results27, go_sem, y0, y1, y2]) rfl ⟨lm', rfl, F1, F2, fun m e => by rcases on3 m e with h | h; exact .inl h; exact .inr (by omega)⟩

set_option maxHeartbeats 1000000 in
set_option maxRecDepth 1000000 in
theorem point_held1 (h : StAt w lm rm s) (t id e : Int) (hno : ¬ (s.held t id e = true ∧ e = 0 ∧ (1 : Int) = 1)) :
    Calls Tryz.prog 27 #[stV lm rm s.c, .int .i64 t, .int .i64 1, .int .u64 id, .int .i64 e] w fun x w' => Back w lm rm (s, s.held t id e) x w' := by
  obtain ⟨w1, hw1⟩ : ∃ w1, w1 = (w.alloc (.cells #[.map lm, .map rm, .bool s.c] 30)).alloc (.cells #[.map none, .map none, .bool false] 30) := ⟨_, rfl⟩
  have T1 : Two w lm rm s.c w.heap.size w1 := by rw [hw1]; exact Two.start w lm rm s.c
  have st1 : StAt w1 lm rm s := by rw [hw1]; exact (h.grow _).grow _
  have lw1 : w1.heap.size = w.heap.size + 1 + 1 := by rw [hw1]; simp
  have ho : Aside ((∀ m, lm = some m → m < w.heap.size) ∧ ∀ m, rm = some m → m < w.heap.size) := ⟨h.old, h.oldR⟩
  have Kf : Aside (∀ {v : World}, Below w1.heap.size w1 v → Two w lm rm s.c w.heap.size v ∧ StAt v lm rm s) := fun hb => ⟨T1.below hb, st1.below hb⟩
  have hz : Aside (w1.heap.size = w.heap.size + 1 + 1) := lw1
  have hh := held_calls st1 s.c t id e
  clear T1 st1 lw1 h
  subst hw1
  unfold Back
  generalize s.held t id e = H at *
  generalize s.c = c at *
  unfold stV at *
  cases H with
  | false =>
    clear hno
    go_enter Tryz.func27, Tryz.ntmps27
    go_wp2_with (go_at_call 36; with_reducible refine hh.mono ?_; rintro x w3 ⟨hx, b3⟩; subst hx; obtain ⟨T3, st3⟩ := Kf.out b3; have q0 := T3.box.q0; have q1 := T3.box.q1; have q2 := T3.box.q2; have g0 := T3.box.f0; have g1 := T3.box.f1; have g2 := T3.box.f2; have h0 := T3.res.q0; have h1 := T3.res.q1; have h2 := T3.res.q2; have f0 := T3.res.f0; have f1 := T3.res.f1; have f2 := T3.res.f2)
    obtain ⟨F1, F2, F3⟩ := T3.out (c' := c) st3 (fun m e => by have := ho.out.1 m e; omega) (fun m e => by have := ho.out.2 m e; omega)
    have y0 := F3.q0
    have y1 := F3.q1
    have y2 := F3.q2
    exact bodyPost_ret (v := .tuple #[.agg #[.map lm, .map rm, .bool c], .bool false]) (by simp [results, Tryz.results27, go_sem, y0, y1, y2]) rfl ⟨lm, rfl, F1, F2, OldNew.refl w lm⟩
  | true =>
    have he' : ¬ e = 0 := fun h => hno ⟨rfl, h, rfl⟩
    have he2 : (e == 0) = false := by simpa using he'
    clear hno
    go_enter Tryz.func27, Tryz.ntmps27
    go_wp2_with (go_at_call 36; with_reducible refine hh.mono ?_; rintro x w3 ⟨hx, b3⟩; subst hx; obtain ⟨T3, st3⟩ := Kf.out b3; have q0 := T3.box.q0; have q1 := T3.box.q1; have q2 := T3.box.q2; have g0 := T3.box.f0; have g1 := T3.box.f1; have g2 := T3.box.f2; have h0 := T3.res.q0; have h1 := T3.res.q1; have h2 := T3.res.q2; have f0 := T3.res.f0; have f1 := T3.res.f1; have f2 := T3.res.f2)
    obtain ⟨F1, F2, F3⟩ := T3.out (c' := c) st3 (fun m e => by have := ho.out.1 m e; omega) (fun m e => by have := ho.out.2 m e; omega)
    have y0 := F3.q0
    have y1 := F3.q1
    have y2 := F3.q2
    exact bodyPost_ret (v := .tuple #[.agg #[.map lm, .map rm, .bool c], .bool true]) (by simp [results, Tryz.results27, go_sem, y0, y1, y2]) rfl ⟨lm, rfl, F1, F2, OldNew.refl w lm⟩

set_option maxHeartbeats 1000000 in
set_option maxRecDepth 1000000 in
theorem point_held2 (h : StAt w lm rm s) (t id e : Int) (hno : ¬ (s.held t id e = true ∧ e = 0 ∧ (2 : Int) = 1)) :
    Calls Tryz.prog 27 #[stV lm rm s.c, .int .i64 t, .int .i64 2, .int .u64 id, .int .i64 e] w fun x w' => Back w lm rm (s, s.held t id e) x w' := by
  obtain ⟨w1, hw1⟩ : ∃ w1, w1 = (w.alloc (.cells #[.map lm, .map rm, .bool s.c] 30)).alloc (.cells #[.map none, .map none, .bool false] 30) := ⟨_, rfl⟩
  have T1 : Two w lm rm s.c w.heap.size w1 := by rw [hw1]; exact Two.start w lm rm s.c
  have st1 : StAt w1 lm rm s := by rw [hw1]; exact (h.grow _).grow _
  have lw1 : w1.heap.size = w.heap.size + 1 + 1 := by rw [hw1]; simp
  have ho : Aside ((∀ m, lm = some m → m < w.heap.size) ∧ ∀ m, rm = some m → m < w.heap.size) := ⟨h.old, h.oldR⟩
  have Kf : Aside (∀ {v : World}, Below w1.heap.size w1 v → Two w lm rm s.c w.heap.size v ∧ StAt v lm rm s) := fun hb => ⟨T1.below hb, st1.below hb⟩
  have hz : Aside (w1.heap.size = w.heap.size + 1 + 1) := lw1
  have hh := held_calls st1 s.c t id e
  clear T1 st1 lw1 h
  subst hw1
  unfold Back
  generalize s.held t id e = H at *
  generalize s.c = c at *
  unfold stV at *
  cases H with
  | false =>
    clear hno
    go_enter Tryz.func27, Tryz.ntmps27
    go_wp2_with (go_at_call 36; with_reducible refine hh.mono ?_; rintro x w3 ⟨hx, b3⟩; subst hx; obtain ⟨T3, st3⟩ := Kf.out b3; have q0 := T3.box.q0; have q1 := T3.box.q1; have q2 := T3.box.q2; have g0 := T3.box.f0; have g1 := T3.box.f1; have g2 := T3.box.f2; have h0 := T3.res.q0; have h1 := T3.res.q1; have h2 := T3.res.q2; have f0 := T3.res.f0; have f1 := T3.res.f1; have f2 := T3.res.f2)
    obtain ⟨F1, F2, F3⟩ := T3.out (c' := c) st3 (fun m e => by have := ho.out.1 m e; omega) (fun m e => by have := ho.out.2 m e; omega)
    have y0 := F3.q0
    have y1 := F3.q1
    have y2 := F3.q2
    exact bodyPost_ret (v := .tuple #[.agg #[.map lm, .map rm, .bool c], .bool false]) (by simp [results, Tryz.results27, go_sem, y0, y1, y2]) rfl ⟨lm, rfl, F1, F2, OldNew.refl w lm⟩
  | true =>
    clear hno
    by_cases he' : e = 0
    · subst he'
      go_enter Tryz.func27, Tryz.ntmps27
      go_wp2_with (go_at_call 36; with_reducible refine hh.mono ?_; rintro x w3 ⟨hx, b3⟩; subst hx; obtain ⟨T3, st3⟩ := Kf.out b3; have q0 := T3.box.q0; have q1 := T3.box.q1; have q2 := T3.box.q2; have g0 := T3.box.f0; have g1 := T3.box.f1; have g2 := T3.box.f2; have h0 := T3.res.q0; have h1 := T3.res.q1; have h2 := T3.res.q2; have f0 := T3.res.f0; have f1 := T3.res.f1; have f2 := T3.res.f2)
      obtain ⟨F1, F2, F3⟩ := T3.out (c' := c) st3 (fun m e => by have := ho.out.1 m e; omega) (fun m e => by have := ho.out.2 m e; omega)
      have y0 := F3.q0
      have y1 := F3.q1
      have y2 := F3.q2
      exact bodyPost_ret (v := .tuple #[.agg #[.map lm, .map rm, .bool c], .bool true]) (by simp [results, Tryz.results27, go_sem, y0, y1, y2]) rfl ⟨lm, rfl, F1, F2, OldNew.refl w lm⟩
    · have he2 : (e == 0) = false := by simpa using he'
      go_enter Tryz.func27, Tryz.ntmps27
      go_wp2_with (go_at_call 36; with_reducible refine hh.mono ?_; rintro x w3 ⟨hx, b3⟩; subst hx; obtain ⟨T3, st3⟩ := Kf.out b3; have q0 := T3.box.q0; have q1 := T3.box.q1; have q2 := T3.box.q2; have g0 := T3.box.f0; have g1 := T3.box.f1; have g2 := T3.box.f2; have h0 := T3.res.q0; have h1 := T3.res.q1; have h2 := T3.res.q2; have f0 := T3.res.f0; have f1 := T3.res.f1; have f2 := T3.res.f2)
      obtain ⟨F1, F2, F3⟩ := T3.out (c' := c) st3 (fun m e => by have := ho.out.1 m e; omega) (fun m e => by have := ho.out.2 m e; omega)
      have y0 := F3.q0
      have y1 := F3.q1
      have y2 := F3.q2
      exact bodyPost_ret (v := .tuple #[.agg #[.map lm, .map rm, .bool c], .bool true]) (by simp [results, Tryz.results27, go_sem, y0, y1, y2]) rfl ⟨lm, rfl, F1, F2, OldNew.refl w lm⟩

/-- A state is stored in the box. -/
theorem Two.boxed {c c2 : Bool} {X : Nat} {v : World} {lm2 : Option Nat} {s2 : AuS} (h : Two w lm rm c X v) (st : StAt v lm2 rm s2) (hl : ∀ m, lm2 = some m → m ≠ X) (hr : ∀ m, rm = some m → m ≠ X) :
    Two w lm2 rm c2 X (((v.setCell ⟨X, 0, none⟩ (.map lm2)).setCell ⟨X, 1, none⟩ (.map rm)).setCell ⟨X, 2, none⟩ (.bool c2)) ∧ StAt (((v.setCell ⟨X, 0, none⟩ (.map lm2)).setCell ⟨X, 1, none⟩ (.map rm)).setCell ⟨X, 2, none⟩ (.bool c2)) lm2 rm s2 := by
  refine ⟨⟨((h.low.setCell (Nat.le_refl _) _).setCell (Nat.le_refl _) _).setCell (Nat.le_refl _) _, h.box.set lm2 rm c2, ?_, by simpa using h.gt⟩, ((st.set hl hr _).set hl hr _).set hl hr _⟩
  have := h.res
  unfold RowS at this ⊢
  rw [Below.heap_setCell _ _ _ _ (by simp), Below.heap_setCell _ _ _ _ (by simp), Below.heap_setCell _ _ _ _ (by simp)]
  exact this

set_option maxHeartbeats 1000000 in
set_option maxRecDepth 1000000 in
theorem point_put (h : StAt w lm rm s) (hI : s.Inv) (t id : Int) (hH : s.held t id 0 = true) :
    Calls Tryz.prog 27 #[stV lm rm s.c, .int .i64 t, .int .i64 1, .int .u64 id, .int .i64 0] w fun x w' => Back w lm rm ({ s with ls := adel id s.ls }, true) x w' := by
  obtain ⟨w1, hw1⟩ : ∃ w1, w1 = (w.alloc (.cells #[.map lm, .map rm, .bool s.c] 30)).alloc (.cells #[.map none, .map none, .bool false] 30) := ⟨_, rfl⟩
  have T1 : Two w lm rm s.c w.heap.size w1 := by rw [hw1]; exact Two.start w lm rm s.c
  have st1 : StAt w1 lm rm s := by rw [hw1]; exact (h.grow _).grow _
  have lw1 : w1.heap.size = w.heap.size + 1 + 1 := by rw [hw1]; simp
  have ho : Aside ((∀ m, lm = some m → m < w.heap.size) ∧ ∀ m, rm = some m → m < w.heap.size) := ⟨h.old, h.oldR⟩
  have Kf : Aside (∀ {v : World}, Below w1.heap.size w1 v → Two w lm rm s.c w.heap.size v ∧ StAt v lm rm s) := fun hb => ⟨T1.below hb, st1.below hb⟩
  have hz : Aside (w1.heap.size = w.heap.size + 1 + 1) := lw1
  have hh := held_calls st1 s.c t id 0
  have cl : Aside (∀ {v : World}, StAt v lm rm s → Calls Tryz.prog 37 #[stV lm rm s.c, .int .i64 t, .int .u64 id, .bool false] v fun e w' => ∃ d, v.heap.size ≤ d ∧ e = .returned (stV (some d) rm s.c) ∧ StAt w' (some d) rm { s with ls := adel id s.ls } ∧ Below v.heap.size v w') := fun hv => lease_less hv hI s.c t id
  clear T1 st1 lw1 h
  subst hw1
  rw [hH] at hh
  clear hH
  unfold Back
  generalize s.c = c at *
  unfold stV at *
  go_enter Tryz.func27, Tryz.ntmps27
  go_wp2_with (first
    | (go_at_call 36; with_reducible refine hh.mono ?_; rintro x w3 ⟨hx, b3⟩; subst hx; obtain ⟨T3, st3⟩ := Kf.out b3; have q0 := T3.box.q0; have q1 := T3.box.q1; have q2 := T3.box.q2; have g0 := T3.box.f0; have g1 := T3.box.f1; have g2 := T3.box.f2; have h0 := T3.res.q0; have h1 := T3.res.q1; have h2 := T3.res.q2; have f0 := T3.res.f0; have f1 := T3.res.f1; have f2 := T3.res.f2)
    | (go_at_call 37; have h24 := cl.out st3; with_reducible refine h24.mono ?_; clear h24 q0 q1 q2 g0 g1 g2 h0 h1 h2 f0 f1 f2; rintro x w4 ⟨d, hd, hx, st4, b4⟩; subst hx; have T4 := T3.below b4; have q0 := T4.box.q0; have q1 := T4.box.q1; have q2 := T4.box.q2; have g0 := T4.box.f0; have g1 := T4.box.f1; have g2 := T4.box.f2; have h0 := T4.res.q0; have h1 := T4.res.q1; have h2 := T4.res.q2; have f0 := T4.res.f0; have f1 := T4.res.f1; have f2 := T4.res.f2; obtain ⟨T5, st5⟩ := T4.boxed (c2 := c) st4 (fun m e => by cases e; have := T3.gt; omega) (fun m e => by have := ho.out.2 m e; omega); have p0 := T5.box.q0; have p1 := T5.box.q1; have p2 := T5.box.q2; have r0 := T5.res.q0; have r1 := T5.res.q1; have r2 := T5.res.q2; have k0 := T5.res.f0; have k1 := T5.res.f1; have k2 := T5.res.f2))
  have hz' := hz.out
  have hb3 := b3.size
  obtain ⟨F1, F2, F3⟩ := T5.out (c' := c) st5 (fun m e => by cases e; omega) (fun m e => by have := ho.out.2 m e; omega)
  have y0 := F3.q0
  have y1 := F3.q1
  have y2 := F3.q2
  exact bodyPost_ret (v := .tuple #[.agg #[.map (some d), .map rm, .bool c], .bool true]) (by simp [results, Tryz.results27, go_sem, y0, y1, y2]) rfl ⟨(some d), rfl, F1, F2, fun m e => .inr (by cases e; omega)⟩

end Go.Proofs.YtigdkcpipiimnaaGreatDoor

namespace Go.Proofs.YtigdkcpipiimnaaGreatDoor
open Go.ChangeShapes Go.WideShapes Go.ChangeAt Go.RowKit Go.Eng

variable {w w' : World} {lm rm : Option Nat} {s : AuS}

set_option maxHeartbeats 1000000 in
set_option maxRecDepth 1000000 in
theorem point_shut (h : StAt w lm rm s) (t id e : Int) :
    Calls Tryz.prog 27 #[stV lm rm s.c, .int .i64 t, .int .i64 3, .int .u64 id, .int .i64 e] w fun x w' => Back w lm rm ({ s with c := s.c || s.shut id e }, s.shut id e) x w' := by
  have fin : Aside (∀ (o1 o2 : Obj) (c2 : Bool), StAt ((w.alloc o1).alloc o2) lm rm { s with c := c2 } ∧ Below w.heap.size w ((w.alloc o1).alloc o2)) := fun o1 o2 c2 => ⟨⟨((h.grow o1).grow o2).l, ((h.grow o1).grow o2).r⟩, (below_alloc w o1).alloc (by simp) o2⟩
  clear h
  unfold Back AuS.shut
  obtain ⟨ls, rs, c⟩ := s
  unfold stV
  simp only
  by_cases hi : id = 0
  · subst hi
    by_cases h0 : e = 0
    · subst h0
      cases c
      · skip
        go_enter Tryz.func27, Tryz.ntmps27
        go_wp2
        exact bodyPost_ret (v := .tuple #[.agg #[.map lm, .map rm, .bool true], .bool true]) (by simp [results, Tryz.results27, go_sem]) rfl ⟨lm, by simp, (fin.out _ _ _).1, (fin.out _ _ false).2, OldNew.refl w lm⟩
      · skip
        go_enter Tryz.func27, Tryz.ntmps27
        go_wp2
        exact bodyPost_ret (v := .tuple #[.agg #[.map lm, .map rm, .bool true], .bool false]) (by simp [results, Tryz.results27, go_sem]) rfl ⟨lm, by simp, (fin.out _ _ _).1, (fin.out _ _ false).2, OldNew.refl w lm⟩
    · have h0' : (e == 0) = false := by simpa using h0
      by_cases h6 : e = 6
      · subst h6
        cases c
        · skip
          go_enter Tryz.func27, Tryz.ntmps27
          go_wp2
          exact bodyPost_ret (v := .tuple #[.agg #[.map lm, .map rm, .bool false], .bool false]) (by simp [results, Tryz.results27, go_sem]) rfl ⟨lm, by simp, (fin.out _ _ _).1, (fin.out _ _ false).2, OldNew.refl w lm⟩
        · skip
          go_enter Tryz.func27, Tryz.ntmps27
          go_wp2
          exact bodyPost_ret (v := .tuple #[.agg #[.map lm, .map rm, .bool true], .bool true]) (by simp [results, Tryz.results27, go_sem]) rfl ⟨lm, by simp, (fin.out _ _ _).1, (fin.out _ _ false).2, OldNew.refl w lm⟩
      · have h6' : (e == 6) = false := by simpa using h6
        cases c
        · skip
          go_enter Tryz.func27, Tryz.ntmps27
          go_wp2
          exact bodyPost_ret (v := .tuple #[.agg #[.map lm, .map rm, .bool false], .bool false]) (by simp [results, Tryz.results27, go_sem]) rfl ⟨lm, by simp, (fin.out _ _ _).1, (fin.out _ _ false).2, OldNew.refl w lm⟩
        · skip
          go_enter Tryz.func27, Tryz.ntmps27
          go_wp2
          exact bodyPost_ret (v := .tuple #[.agg #[.map lm, .map rm, .bool true], .bool false]) (by simp [results, Tryz.results27, go_sem]) rfl ⟨lm, by simp, (fin.out _ _ _).1, (fin.out _ _ false).2, OldNew.refl w lm⟩
  · have hi' : (id == 0) = false := by simpa using hi
    cases c
    · skip
      go_enter Tryz.func27, Tryz.ntmps27
      go_wp2
      exact bodyPost_ret (v := .tuple #[.agg #[.map lm, .map rm, .bool false], .bool false]) (by simp [results, Tryz.results27, go_sem]) rfl ⟨lm, by simp, (fin.out _ _ _).1, (fin.out _ _ false).2, OldNew.refl w lm⟩
    · skip
      go_enter Tryz.func27, Tryz.ntmps27
      go_wp2
      exact bodyPost_ret (v := .tuple #[.agg #[.map lm, .map rm, .bool true], .bool false]) (by simp [results, Tryz.results27, go_sem]) rfl ⟨lm, by simp, (fin.out _ _ _).1, (fin.out _ _ false).2, OldNew.refl w lm⟩

set_option maxHeartbeats 1000000 in
set_option maxRecDepth 1000000 in
theorem point_other (h : StAt w lm rm s) (t op id e : Int) (n0 : ¬ op = 0) (n1 : ¬ op = 1) (n2 : ¬ op = 2) (n3 : ¬ op = 3) :
    Calls Tryz.prog 27 #[stV lm rm s.c, .int .i64 t, .int .i64 op, .int .u64 id, .int .i64 e] w fun x w' => Back w lm rm (s, op == 4 && e == 0 && id == 0) x w' := by
  have fin : Aside (∀ (o1 o2 : Obj) (c2 : Bool), StAt ((w.alloc o1).alloc o2) lm rm { s with c := c2 } ∧ Below w.heap.size w ((w.alloc o1).alloc o2)) := fun o1 o2 c2 => ⟨⟨((h.grow o1).grow o2).l, ((h.grow o1).grow o2).r⟩, (below_alloc w o1).alloc (by simp) o2⟩
  clear h
  have m0 : (op == 0) = false := by simpa using n0
  have m1 : (op == 1) = false := by simpa using n1
  have m2 : (op == 2) = false := by simpa using n2
  have m3 : (op == 3) = false := by simpa using n3
  clear n0 n1 n2 n3
  unfold Back
  obtain ⟨ls, rs, c⟩ := s
  unfold stV
  simp only
  by_cases h4 : op = 4
  · subst h4
    by_cases h0 : e = 0
    · subst h0
      by_cases hi : id = 0
      · subst hi
        go_enter Tryz.func27, Tryz.ntmps27
        go_wp2
        exact bodyPost_ret (v := .tuple #[.agg #[.map lm, .map rm, .bool c], .bool true]) (by simp [results, Tryz.results27, go_sem]) rfl ⟨lm, by simp, (fin.out _ _ _).1, (fin.out _ _ false).2, OldNew.refl w lm⟩
      · have hi' : (id == 0) = false := by simpa using hi
        go_enter Tryz.func27, Tryz.ntmps27
        go_wp2
        exact bodyPost_ret (v := .tuple #[.agg #[.map lm, .map rm, .bool c], .bool false]) (by simp [results, Tryz.results27, go_sem]) rfl ⟨lm, by simp, (fin.out _ _ _).1, (fin.out _ _ false).2, OldNew.refl w lm⟩
    · have h0' : (e == 0) = false := by simpa using h0
      go_enter Tryz.func27, Tryz.ntmps27
      go_wp2
      exact bodyPost_ret (v := .tuple #[.agg #[.map lm, .map rm, .bool c], .bool false]) (by simp [results, Tryz.results27, go_sem]) rfl ⟨lm, by simp, (fin.out _ _ _).1, (fin.out _ _ false).2, OldNew.refl w lm⟩
  · have h4' : (op == 4) = false := by simpa using h4
    go_enter Tryz.func27, Tryz.ntmps27
    go_wp2
    exact bodyPost_ret (v := .tuple #[.agg #[.map lm, .map rm, .bool c], .bool false]) (by simp [results, Tryz.results27, go_sem]) rfl ⟨lm, by simp, (fin.out _ _ _).1, (fin.out _ _ false).2, OldNew.refl w lm⟩

/-- point. -/
theorem point_calls (h : StAt w lm rm s) (hI : s.Inv) (t op id e : Int) :
    Calls Tryz.prog 27 #[stV lm rm s.c, .int .i64 t, .int .i64 op, .int .u64 id, .int .i64 e] w fun x w' => Back w lm rm (s.point t op id e) x w' := by
  unfold AuS.point
  by_cases h0 : op = 0
  · subst h0
    rw [if_pos rfl]
    exact point_get h hI t id e
  · rw [if_neg h0]
    by_cases h1 : op = 1
    · subst h1
      rw [if_pos (.inl rfl)]
      unfold AuS.put
      by_cases hc : s.held t id e = true ∧ e = 0 ∧ (1 : Int) = 1
      · rw [if_pos hc]
        obtain ⟨hH, rfl, _⟩ := hc
        rw [hH]
        exact point_put h hI t id hH
      · rw [if_neg hc]
        exact point_held1 h t id e hc
    · by_cases h2 : op = 2
      · subst h2
        rw [if_pos (.inr rfl)]
        unfold AuS.put
        rw [if_neg (fun hc => by have := hc.2.2; omega)]
        exact point_held2 h t id e (fun hc => by have := hc.2.2; omega)
      · rw [if_neg (by omega)]
        by_cases h3 : op = 3
        · subst h3
          rw [if_pos rfl]
          exact point_shut h t id e
        · rw [if_neg h3]
          exact point_other h t op id e h0 h1 h2 h3

end Go.Proofs.YtigdkcpipiimnaaGreatDoor

namespace Go.Proofs.YtigdkcpipiimnaaGreatDoor
open Go.ChangeShapes Go.WideShapes Go.ChangeAt Go.RowKit Go.Eng

variable {w w' : World} {lm rm : Option Nat} {s : AuS}

/-- What Point and Retire hand back. -/
def BackN (w : World) (lm rm : Option Nat) (p : AuS × Int) (x : Ending) (w' : World) : Prop :=
  ∃ lm' rm', x = .returned (.tuple #[stV lm' rm' p.1.c, .int .i64 p.2]) ∧ StAt w' lm' rm' p.1 ∧ Below w.heap.size w w' ∧ OldNew w lm lm' ∧ OldNew w rm rm'

theorem MapV.ne {β : Type} {V : β → Value} {mv : Option Nat} {es : List (Int × β)} {X m : Nat} {l r : Option Nat} {c : Bool} (h : MapV .u64 V w mv es) (hx : RowS w X l r c) (e : mv = some m) : m ≠ X := by
  rcases h with ⟨h, _⟩ | ⟨m', h, ms, ck, hm, _⟩
  · rw [e] at h; cases h
  · rw [e] at h
    obtain rfl := Option.some.inj h
    rintro rfl
    unfold RowS at hx
    rw [hx] at hm; simp at hm
theorem StAt.neL {X m : Nat} {l r : Option Nat} {c : Bool} (h : StAt w lm rm s) (hx : RowS w X l r c) (e : lm = some m) : m ≠ X := by
  obtain ⟨⟨_, l1, _⟩, _⟩ := h
  exact MapV.ne l1 hx e
theorem StAt.neR {X m : Nat} {l r : Option Nat} {c : Bool} (h : StAt w lm rm s) (hx : RowS w X l r c) (e : rm = some m) : m ≠ X := by
  obtain ⟨_, _, l1, _⟩ := h
  exact MapV.ne l1 hx e

set_option maxHeartbeats 1000000 in
set_option maxRecDepth 1000000 in
/-- Point. -/
theorem Point_calls (h : StAt w lm rm s) (hI : s.Inv) (t op id e : Int) :
    Calls Tryz.prog 9 #[stV lm rm s.c, .int .i64 t, .int .i64 op, .int .u64 id, .int .i64 e] w fun x w' => BackN w lm rm (s.Point t op id e) x w' := by
  obtain ⟨w1, hw1⟩ : ∃ w1, w1 = (w.alloc (.cells #[.map lm, .map rm, .bool s.c] 30)).alloc (.cells #[.map none, .map none, .bool false] 30) := ⟨_, rfl⟩
  have T1 : Two w lm rm s.c w.heap.size w1 := by rw [hw1]; exact Two.start w lm rm s.c
  have st1 : StAt w1 lm rm s := by rw [hw1]; exact (h.grow _).grow _
  have lw1 : w1.heap.size = w.heap.size + 1 + 1 := by rw [hw1]; simp
  have ho : Aside ((∀ m, lm = some m → m < w.heap.size) ∧ ∀ m, rm = some m → m < w.heap.size) := ⟨h.old, h.oldR⟩
  have Kf : Aside (∀ {v : World}, Below w1.heap.size w1 v → Two w lm rm s.c w.heap.size v ∧ StAt v lm rm s) := fun hb => ⟨T1.below hb, st1.below hb⟩
  have hz : Aside (w1.heap.size = w.heap.size + 1 + 1) := lw1
  have hp := point_calls st1 hI t op id e
  clear T1 st1 lw1 h
  subst hw1
  unfold AuS.Point
  unfold Back at hp
  unfold BackN
  generalize s.point t op id e = p at hp ⊢
  obtain ⟨⟨ls', rs', c'⟩, ok⟩ := p
  simp only at hp ⊢
  unfold stV at *
  cases ok with
  | false =>
    rw [if_neg (by simp)]
    simp only
    generalize s.c = c at *
    go_enter Tryz.func9, Tryz.ntmps9
    go_wp2_with (go_at_call 27; with_reducible refine hp.mono ?_; rintro x w2 ⟨lm', hx, st2, b2, on2⟩; subst hx; obtain ⟨T2, st2'⟩ := Kf.out b2; have T3 := T2.below (below_alloc w2 (.cells #[.map lm', .map rm, .bool c'] 30)); have st3 := st2'.grow (.cells #[.map lm', .map rm, .bool c'] 30); have q0 := T3.box.q0; have q1 := T3.box.q1; have q2 := T3.box.q2; have g0 := T3.box.f0; have g1 := T3.box.f1; have g2 := T3.box.f2; have h0 := T3.res.q0; have h1 := T3.res.q1; have h2 := T3.res.q2; have f0 := T3.res.f0; have f1 := T3.res.f1; have f2 := T3.res.f2)
    obtain ⟨F1, F2, F3⟩ := T3.out (c' := c) st3 (fun m e => st3.neL T3.res e) (fun m e => st3.neR T3.res e)
    have y0 := F3.q0
    have y1 := F3.q1
    have y2 := F3.q2
    exact bodyPost_ret (v := .tuple #[.agg #[.map lm, .map rm, .bool c], .int .i64 17]) (by simp [results, Tryz.results9, go_sem, y0, y1, y2]) rfl ⟨lm, rm, rfl, F1, F2, OldNew.refl w lm, OldNew.refl w rm⟩
  | true =>
    rw [if_pos rfl]
    simp only
    generalize s.c = c at *
    go_enter Tryz.func9, Tryz.ntmps9
    go_wp2_with (go_at_call 27; with_reducible refine hp.mono ?_; rintro x w2 ⟨lm', hx, st2, b2, on2⟩; subst hx; obtain ⟨T2, st2'⟩ := Kf.out b2; have T3 := T2.below (below_alloc w2 (.cells #[.map lm', .map rm, .bool c'] 30)); have st3 := st2.grow (.cells #[.map lm', .map rm, .bool c'] 30); have q0 := T3.box.q0; have q1 := T3.box.q1; have q2 := T3.box.q2; have g0 := T3.box.f0; have g1 := T3.box.f1; have g2 := T3.box.f2; have h0 := T3.res.q0; have h1 := T3.res.q1; have h2 := T3.res.q2; have f0 := T3.res.f0; have f1 := T3.res.f1; have f2 := T3.res.f2)
    obtain ⟨F1, F2, F3⟩ := T3.out (c' := c') st3 (fun m e => st3.neL T3.res e) (fun m e => st3.neR T3.res e)
    have y0 := F3.q0
    have y1 := F3.q1
    have y2 := F3.q2
    exact bodyPost_ret (v := .tuple #[.agg #[.map lm', .map rm, .bool c'], .int .i64 0]) (by simp [results, Tryz.results9, go_sem, y0, y1, y2]) rfl ⟨lm', rm, rfl, F1, F2, fun m e => by rcases on2 m e with h | h; exact .inl h; exact .inr (by have := hz.out; omega), OldNew.refl w rm⟩

theorem retired_more {rs0 ds : List (Int × Bool)} {rs : List Int} (h0 : ∀ i, aget i rs0 = if i ∈ rs then some true else none) {id : Int} (hc : ∀ i, aget i ds = (aget i rs0).or (aget i [(id, true)])) (i : Int) :
    aget i ds = if i ∈ rs ++ [id] then some true else none := by
  rw [hc i, h0 i]
  by_cases h : i ∈ rs
  · simp [h]
  · by_cases e : i = id
    · subst e; simp [h, aget]
    · simp [h, e, aget]

set_option maxHeartbeats 1000000 in
set_option maxRecDepth 1000000 in
/-- Retire, of an id that is not free. -/
theorem Retire_no (h : StAt w lm rm s) (id : Int) (hf : s.free id = false) :
    Calls Tryz.prog 8 #[stV lm rm s.c, .int .u64 id] w fun x w' => BackN w lm rm (s, 17) x w' := by
  obtain ⟨w1, hw1⟩ : ∃ w1, w1 = (w.alloc (.cells #[.map lm, .map rm, .bool s.c] 30)).alloc (.cells #[.map none, .map none, .bool false] 30) := ⟨_, rfl⟩
  have T1 : Two w lm rm s.c w.heap.size w1 := by rw [hw1]; exact Two.start w lm rm s.c
  have st1 : StAt w1 lm rm s := by rw [hw1]; exact (h.grow _).grow _
  have lw1 : w1.heap.size = w.heap.size + 1 + 1 := by rw [hw1]; simp
  have ho : Aside ((∀ m, lm = some m → m < w.heap.size) ∧ ∀ m, rm = some m → m < w.heap.size) := ⟨h.old, h.oldR⟩
  have Kf : Aside (∀ {v : World}, Below w1.heap.size w1 v → Two w lm rm s.c w.heap.size v ∧ StAt v lm rm s) := fun hb => ⟨T1.below hb, st1.below hb⟩
  have hz : Aside (w1.heap.size = w.heap.size + 1 + 1) := lw1
  have hp := free_calls st1 s.c id
  clear T1 st1 lw1 h
  subst hw1
  rw [hf] at hp
  clear hf
  unfold BackN
  simp only
  unfold stV at *
  generalize s.c = c at *
  go_enter Tryz.func8, Tryz.ntmps8
  go_wp2_with (go_at_call 25; with_reducible refine hp.mono ?_; rintro x w3 ⟨hx, b3⟩; subst hx; obtain ⟨T3, st3⟩ := Kf.out b3; have q0 := T3.box.q0; have q1 := T3.box.q1; have q2 := T3.box.q2; have g0 := T3.box.f0; have g1 := T3.box.f1; have g2 := T3.box.f2; have h0 := T3.res.q0; have h1 := T3.res.q1; have h2 := T3.res.q2; have f0 := T3.res.f0; have f1 := T3.res.f1; have f2 := T3.res.f2)
  obtain ⟨F1, F2, F3⟩ := T3.out (c' := c) st3 (fun m e => st3.neL T3.res e) (fun m e => st3.neR T3.res e)
  have y0 := F3.q0
  have y1 := F3.q1
  have y2 := F3.q2
  exact bodyPost_ret (v := .tuple #[.agg #[.map lm, .map rm, .bool c], .int .i64 17]) (by simp [results, Tryz.results8, go_sem, y0, y1, y2]) rfl ⟨lm, rm, rfl, F1, F2, OldNew.refl w lm, OldNew.refl w rm⟩

/-- The copy of what is retired, into a map of one id. -/
theorem retire_copy {v : World} (st : StAt v lm rm s) (id : Int) :
    ∃ w5, (Instr.mapUpdate 28 (.map (some v.heap.size)) (.int .u64 id) (.bool true)).run Tryz.prog (v.alloc (.map #[] 0)) = .ok () w5 ∧ Below v.heap.size v w5 ∧
      Calls Tryz.prog 26 #[.map (some v.heap.size), .map rm] w5 fun e w6 => e = .returned (.tuple #[]) ∧ Below v.heap.size v w6 ∧ StAt w6 lm (some v.heap.size) { s with rs := s.rs ++ [id] } := by
  have hM : MapSt .u64 bV (v.alloc (.map #[] 0)) v.heap.size [] := MapSt.newMap v
  obtain ⟨ms, ck, hmu, he, hs⟩ := run_mapUpdate_st (P := Tryz.prog) Tryz.underlying28 Tryz.underlying32 hM id true
  have b5 : Below v.heap.size v { v.alloc (.map #[] 0) with heap := (v.alloc (.map #[] 0)).heap.setIfInBounds v.heap.size (.map ms.toArray ck) } := below_put (below_alloc v _) (Nat.le_refl _) _
  have q5 : MapSt .u64 bV { v.alloc (.map #[] 0) with heap := (v.alloc (.map #[] 0)).heap.setIfInBounds v.heap.size (.map ms.toArray ck) } v.heap.size [(id, true)] := MapSt.put hM.lt he hs
  have st5 := st.below b5
  refine ⟨_, hmu, b5, ?_⟩
  obtain ⟨hl, rs0, n1, n2, n3⟩ := st5
  refine (copyR q5 n1 n2 (List.pairwise_singleton _ _) (fun m e => by have := st.oldR m e; omega)).mono ?_
  rintro e w6 ⟨he, ds', k1, k2, k3, b6⟩
  have b7 : Below v.heap.size v w6 := b5.trans b6
  exact ⟨he, b7, (st.below b7).l, ds', .inr ⟨_, rfl, k1⟩, k2, retired_more n3 k3⟩

set_option maxHeartbeats 1000000 in
set_option maxRecDepth 1000000 in
/-- Retire, of a free id. -/
theorem Retire_yes (h : StAt w lm rm s) (id : Int) (hf : s.free id = true) :
    Calls Tryz.prog 8 #[stV lm rm s.c, .int .u64 id] w fun x w' => BackN w lm rm ({ s with rs := s.rs ++ [id] }, 0) x w' := by
  obtain ⟨w1, hw1⟩ : ∃ w1, w1 = (w.alloc (.cells #[.map lm, .map rm, .bool s.c] 30)).alloc (.cells #[.map none, .map none, .bool false] 30) := ⟨_, rfl⟩
  have T1 : Two w lm rm s.c w.heap.size w1 := by rw [hw1]; exact Two.start w lm rm s.c
  have st1 : StAt w1 lm rm s := by rw [hw1]; exact (h.grow _).grow _
  have lw1 : w1.heap.size = w.heap.size + 1 + 1 := by rw [hw1]; simp
  have ho : Aside ((∀ m, lm = some m → m < w.heap.size) ∧ ∀ m, rm = some m → m < w.heap.size) := ⟨h.old, h.oldR⟩
  have Kf : Aside (∀ {v : World}, Below w1.heap.size w1 v → Two w lm rm s.c w.heap.size v ∧ StAt v lm rm s) := fun hb => ⟨T1.below hb, st1.below hb⟩
  have hz : Aside (w1.heap.size = w.heap.size + 1 + 1) := lw1
  have hp := free_calls st1 s.c id
  clear T1 st1 lw1 h
  subst hw1
  rw [hf] at hp
  clear hf
  have hmm := @run_makeMap Tryz.prog
  have cp : Aside (∀ {v : World}, StAt v lm rm s → ∃ w5, (Instr.mapUpdate 28 (.map (some v.heap.size)) (.int .u64 id) (.bool true)).run Tryz.prog (v.alloc (.map #[] 0)) = .ok () w5 ∧ Below v.heap.size v w5 ∧
      Calls Tryz.prog 26 #[.map (some v.heap.size), .map rm] w5 fun e w6 => e = .returned (.tuple #[]) ∧ Below v.heap.size v w6 ∧ StAt w6 lm (some v.heap.size) { s with rs := s.rs ++ [id] }) := fun st => retire_copy st id
  unfold BackN
  simp only
  unfold stV at *
  generalize s.c = c at *
  go_enter Tryz.func8, Tryz.ntmps8
  go_wp2_with (first
    | (go_at_call 25; with_reducible refine hp.mono ?_; rintro x w3 ⟨hx, b3⟩; subst hx; obtain ⟨T3, st3⟩ := Kf.out b3; obtain ⟨w5, hmu, b5, hcp⟩ := cp.out st3; have T5 := T3.below b5; have q0 := T5.box.q0; have q1 := T5.box.q1; have q2 := T5.box.q2; have g0 := T5.box.f0; have g1 := T5.box.f1; have g2 := T5.box.f2; have h0 := T5.res.q0; have h1 := T5.res.q1; have h2 := T5.res.q2; have f0 := T5.res.f0; have f1 := T5.res.f1; have f2 := T5.res.f2)
    | (go_at_call 26; with_reducible refine hcp.mono ?_; clear hcp q0 q1 q2 g0 g1 g2 h0 h1 h2 f0 f1 f2; rintro x w6 ⟨hx, b6, st6⟩; subst hx; have T6 := T3.below b6; have q0 := T6.box.q0; have q1 := T6.box.q1; have q2 := T6.box.q2; have g0 := T6.box.f0; have g1 := T6.box.f1; have g2 := T6.box.f2; have h0 := T6.res.q0; have h1 := T6.res.q1; have h2 := T6.res.q2; have f0 := T6.res.f0; have f1 := T6.res.f1; have f2 := T6.res.f2))
  have T7 : Two w lm (some w3.heap.size) c w.heap.size (w6.setCell ⟨w.heap.size, 1, none⟩ (.map (some w3.heap.size))) := by
    refine ⟨T6.low.setCell (Nat.le_refl _) _, ?_, ?_, by simpa using T6.gt⟩
    · have hb := T6.box
      have hl := hb.lt
      unfold RowS at hb ⊢
      rw [setCell_cells hb]; simp [hl]
    · have hr := T6.res
      unfold RowS at hr ⊢
      rw [Below.heap_setCell _ _ _ _ (by simp)]; exact hr
  have st7 := st6.set (p := ⟨w.heap.size, 1, none⟩) (fun m e => st6.neL T6.box e) (fun m e => st6.neR T6.box e) (.map (some w3.heap.size))
  obtain ⟨F1, F2, F3⟩ := T7.out (c' := c) st7 (fun m e => st7.neL T7.res e) (fun m e => st7.neR T7.res e)
  have y0 := F3.q0
  have y1 := F3.q1
  have y2 := F3.q2
  exact bodyPost_ret (v := .tuple #[.agg #[.map lm, .map (some w3.heap.size), .bool c], .int .i64 0]) (by simp [results, Tryz.results8, go_sem, y0, y1, y2]) rfl ⟨lm, (some w3.heap.size), rfl, F1, F2, OldNew.refl w lm, fun m e => .inr (by cases e; have := b3.size; have := hz.out; omega)⟩

/-- Retire. -/
theorem Retire_calls (h : StAt w lm rm s) (id : Int) :
    Calls Tryz.prog 8 #[stV lm rm s.c, .int .u64 id] w fun x w' => BackN w lm rm (s.Retire id) x w' := by
  unfold AuS.Retire
  cases hf : s.free id with
  | true => rw [if_pos rfl]; exact Retire_yes h id hf
  | false => rw [if_neg (by simp)]; exact Retire_no h id hf

end Go.Proofs.YtigdkcpipiimnaaGreatDoor
