/- What the document's Point hands back, part 1. Conditions: how its lists lie in memory. -/
import Derived.Test.YthpfbljbifcaoaaGreatDoorRfA
namespace Go.Proofs.YthpfbljbifcaoaaGreatDoor
open Go.ChangeShapes Go.WideShapes Go.ChangeAt Go.RowKit Go.Eng Go.Deep

variable {w w' : World} {L R : Value} {s : AS}

theorem mine_eq (s : AS) (t id : Int) : s.mine t id = ((aget id s.ls).isSome && ((aget id s.ls).getD 0 == t)) := by
  unfold AS.mine
  cases aget id s.ls with
  | none => rfl
  | some u => simp

set_option maxHeartbeats 1000000 in
set_option maxRecDepth 1000000 in
theorem RP_g4 (h : RefAt w L R s) (hm : s.ls.length ≤ 1000) (_hm2 : s.rs.length ≤ 1000) (t : Int) (hc : s.c = true) :
    Calls Tryz.prog 12 #[rfV L R s.c, .int .i64 t, .int .i64 0, .int .u64 0, .int .i64 6] w fun x w' => BackF w (s, 0) x w' := by
  obtain ⟨w1, hw1⟩ : ∃ w1, w1 = (w.alloc (.cells #[L, R, .bool s.c] 43)).alloc (.cells #[.slice none 0 0, .slice none 0 0, .bool false] 43) := ⟨_, rfl⟩
  have T1 : TwoF w L R s.c w.heap.size w1 := by rw [hw1]; exact TwoF.start w L R s.c
  have st1 : RefAt w1 L R s := by rw [hw1]; exact (h.below (below_alloc _ _)).below (below_alloc _ _)
  have Kf : Aside (∀ {v : World}, Below w1.heap.size w1 v → TwoF w L R s.c w.heap.size v ∧ RefAt v L R s) := fun hb => ⟨T1.below hb, st1.below hb⟩
  have ch := rholder_calls st1 hm s.c 0
  obtain ⟨M, hMM⟩ : ∃ M, s.mine t 0 = M := ⟨_, rfl⟩
  have hMe := mine_eq s t 0
  rw [hMM] at hMe
  generalize (aget 0 s.ls).getD 0 = u at ch hMe
  generalize (aget 0 s.ls).isSome = ok at ch hMe
  have HM : Aside (M = (ok && (u == t))) := hMe
  clear hMe
  clear hMM
  obtain ⟨aL, cL, hLs, _, _⟩ := own_shape h.l
  obtain ⟨aR, cR, hRs, _, _⟩ := own_shape h.r
  generalize s.ls.length = zL at hLs hm
  generalize s.rs.length = zR at hRs
  subst hLs hRs
  clear T1 st1 h
  subst hw1
  unfold BackF
  simp only
  generalize s.c = c at *
  subst hc
  go_enter Tryz.func12, Tryz.ntmps12
  go_upto_region 2 with (go_at_call 13; with_reducible refine ch.mono ?_; rintro x w2 ⟨hx, b2⟩; subst hx; obtain ⟨T2, st2⟩ := Kf.out b2)
  go_cut [14] (fun s14 wx => s14 = .bool M ∧ w2 = wx)
  case first =>
    clear ch Kf
    cases ok with
    | false =>
      go_wp2
      go_meet
      exact ⟨by rw [HM.out]; rfl, rfl⟩
    | true =>
      by_cases hu : u = t
      · have hu' : (u == t) = true := by simpa using hu
        go_wp2
        go_meet
        exact ⟨by rw [HM.out, hu']; rfl, rfl⟩
      · have hu' : (u == t) = false := by simpa using hu
        go_wp2
        go_meet
        exact ⟨by rw [HM.out, hu']; rfl, rfl⟩
  case rest =>
    obtain ⟨rfl, rfl⟩ := hcut
    clear HM ch
    skip
    have q0 := T2.box.q0; have q1 := T2.box.q1; have q2 := T2.box.q2; have g0 := T2.box.f0; have g1 := T2.box.f1; have g2 := T2.box.f2; have h0 := T2.res.q0; have h1 := T2.res.q1; have h2 := T2.res.q2; have f0 := T2.res.f0; have f1 := T2.res.f1; have f2 := T2.res.f2
    go_wp2
    obtain ⟨F1, F2, F3⟩ := T2.out (c' := true) st2
    have y0 := F3.q0
    have y1 := F3.q1
    have y2 := F3.q2
    exact bodyPost_ret (v := .tuple #[.agg #[.slice aL zL cL, .slice aR zR cR, .bool true], .int .i64 0]) (by simp [results, Tryz.results12, go_sem, y0, y1, y2]) rfl ⟨_, _, rfl, ⟨F1.l, F1.r⟩, F2⟩

set_option maxHeartbeats 1000000 in
set_option maxRecDepth 1000000 in
theorem RP_g5 (h : RefAt w L R s) (hm : s.ls.length ≤ 1000) (_hm2 : s.rs.length ≤ 1000) (t : Int) (hc : s.c = false) :
    Calls Tryz.prog 12 #[rfV L R s.c, .int .i64 t, .int .i64 0, .int .u64 0, .int .i64 6] w fun x w' => BackF w (s, 17) x w' := by
  obtain ⟨w1, hw1⟩ : ∃ w1, w1 = (w.alloc (.cells #[L, R, .bool s.c] 43)).alloc (.cells #[.slice none 0 0, .slice none 0 0, .bool false] 43) := ⟨_, rfl⟩
  have T1 : TwoF w L R s.c w.heap.size w1 := by rw [hw1]; exact TwoF.start w L R s.c
  have st1 : RefAt w1 L R s := by rw [hw1]; exact (h.below (below_alloc _ _)).below (below_alloc _ _)
  have Kf : Aside (∀ {v : World}, Below w1.heap.size w1 v → TwoF w L R s.c w.heap.size v ∧ RefAt v L R s) := fun hb => ⟨T1.below hb, st1.below hb⟩
  have ch := rholder_calls st1 hm s.c 0
  obtain ⟨M, hMM⟩ : ∃ M, s.mine t 0 = M := ⟨_, rfl⟩
  have hMe := mine_eq s t 0
  rw [hMM] at hMe
  generalize (aget 0 s.ls).getD 0 = u at ch hMe
  generalize (aget 0 s.ls).isSome = ok at ch hMe
  have HM : Aside (M = (ok && (u == t))) := hMe
  clear hMe
  clear hMM
  obtain ⟨aL, cL, hLs, _, _⟩ := own_shape h.l
  obtain ⟨aR, cR, hRs, _, _⟩ := own_shape h.r
  generalize s.ls.length = zL at hLs hm
  generalize s.rs.length = zR at hRs
  subst hLs hRs
  clear T1 st1 h
  subst hw1
  unfold BackF
  simp only
  generalize s.c = c at *
  subst hc
  go_enter Tryz.func12, Tryz.ntmps12
  go_upto_region 2 with (go_at_call 13; with_reducible refine ch.mono ?_; rintro x w2 ⟨hx, b2⟩; subst hx; obtain ⟨T2, st2⟩ := Kf.out b2)
  go_cut [14] (fun s14 wx => s14 = .bool M ∧ w2 = wx)
  case first =>
    clear ch Kf
    cases ok with
    | false =>
      go_wp2
      go_meet
      exact ⟨by rw [HM.out]; rfl, rfl⟩
    | true =>
      by_cases hu : u = t
      · have hu' : (u == t) = true := by simpa using hu
        go_wp2
        go_meet
        exact ⟨by rw [HM.out, hu']; rfl, rfl⟩
      · have hu' : (u == t) = false := by simpa using hu
        go_wp2
        go_meet
        exact ⟨by rw [HM.out, hu']; rfl, rfl⟩
  case rest =>
    obtain ⟨rfl, rfl⟩ := hcut
    clear HM ch
    skip
    have q0 := T2.box.q0; have q1 := T2.box.q1; have q2 := T2.box.q2; have g0 := T2.box.f0; have g1 := T2.box.f1; have g2 := T2.box.f2; have h0 := T2.res.q0; have h1 := T2.res.q1; have h2 := T2.res.q2; have f0 := T2.res.f0; have f1 := T2.res.f1; have f2 := T2.res.f2
    go_wp2
    obtain ⟨F1, F2, F3⟩ := T2.out (c' := false) st2
    have y0 := F3.q0
    have y1 := F3.q1
    have y2 := F3.q2
    exact bodyPost_ret (v := .tuple #[.agg #[.slice aL zL cL, .slice aR zR cR, .bool false], .int .i64 17]) (by simp [results, Tryz.results12, go_sem, y0, y1, y2]) rfl ⟨_, _, rfl, ⟨F1.l, F1.r⟩, F2⟩

set_option maxHeartbeats 1000000 in
set_option maxRecDepth 1000000 in
theorem RP_g6 (h : RefAt w L R s) (hm : s.ls.length ≤ 1000) (_hm2 : s.rs.length ≤ 1000) (t : Int) (id : Int) (hi : (id == 0) = false) :
    Calls Tryz.prog 12 #[rfV L R s.c, .int .i64 t, .int .i64 0, .int .u64 id, .int .i64 6] w fun x w' => BackF w (s, 17) x w' := by
  obtain ⟨w1, hw1⟩ : ∃ w1, w1 = (w.alloc (.cells #[L, R, .bool s.c] 43)).alloc (.cells #[.slice none 0 0, .slice none 0 0, .bool false] 43) := ⟨_, rfl⟩
  have T1 : TwoF w L R s.c w.heap.size w1 := by rw [hw1]; exact TwoF.start w L R s.c
  have st1 : RefAt w1 L R s := by rw [hw1]; exact (h.below (below_alloc _ _)).below (below_alloc _ _)
  have Kf : Aside (∀ {v : World}, Below w1.heap.size w1 v → TwoF w L R s.c w.heap.size v ∧ RefAt v L R s) := fun hb => ⟨T1.below hb, st1.below hb⟩
  have ch := rholder_calls st1 hm s.c id
  obtain ⟨M, hMM⟩ : ∃ M, s.mine t id = M := ⟨_, rfl⟩
  have hMe := mine_eq s t id
  rw [hMM] at hMe
  generalize (aget id s.ls).getD 0 = u at ch hMe
  generalize (aget id s.ls).isSome = ok at ch hMe
  have HM : Aside (M = (ok && (u == t))) := hMe
  clear hMe
  clear hMM
  obtain ⟨aL, cL, hLs, _, _⟩ := own_shape h.l
  obtain ⟨aR, cR, hRs, _, _⟩ := own_shape h.r
  generalize s.ls.length = zL at hLs hm
  generalize s.rs.length = zR at hRs
  subst hLs hRs
  clear T1 st1 h
  subst hw1
  unfold BackF
  simp only
  generalize s.c = c at *
  go_enter Tryz.func12, Tryz.ntmps12
  go_upto_region 2 with (go_at_call 13; with_reducible refine ch.mono ?_; rintro x w2 ⟨hx, b2⟩; subst hx; obtain ⟨T2, st2⟩ := Kf.out b2)
  go_cut [14] (fun s14 wx => s14 = .bool M ∧ w2 = wx)
  case first =>
    clear ch Kf
    cases ok with
    | false =>
      go_wp2
      go_meet
      exact ⟨by rw [HM.out]; rfl, rfl⟩
    | true =>
      by_cases hu : u = t
      · have hu' : (u == t) = true := by simpa using hu
        go_wp2
        go_meet
        exact ⟨by rw [HM.out, hu']; rfl, rfl⟩
      · have hu' : (u == t) = false := by simpa using hu
        go_wp2
        go_meet
        exact ⟨by rw [HM.out, hu']; rfl, rfl⟩
  case rest =>
    obtain ⟨rfl, rfl⟩ := hcut
    clear HM ch
    skip
    have q0 := T2.box.q0; have q1 := T2.box.q1; have q2 := T2.box.q2; have g0 := T2.box.f0; have g1 := T2.box.f1; have g2 := T2.box.f2; have h0 := T2.res.q0; have h1 := T2.res.q1; have h2 := T2.res.q2; have f0 := T2.res.f0; have f1 := T2.res.f1; have f2 := T2.res.f2
    go_wp2
    obtain ⟨F1, F2, F3⟩ := T2.out (c' := c) st2
    have y0 := F3.q0
    have y1 := F3.q1
    have y2 := F3.q2
    exact bodyPost_ret (v := .tuple #[.agg #[.slice aL zL cL, .slice aR zR cR, .bool c], .int .i64 17]) (by simp [results, Tryz.results12, go_sem, y0, y1, y2]) rfl ⟨_, _, rfl, ⟨F1.l, F1.r⟩, F2⟩

set_option maxHeartbeats 1000000 in
set_option maxRecDepth 1000000 in
theorem RP_g7 (h : RefAt w L R s) (hm : s.ls.length ≤ 1000) (_hm2 : s.rs.length ≤ 1000) (t : Int) :
    Calls Tryz.prog 12 #[rfV L R s.c, .int .i64 t, .int .i64 0, .int .u64 0, .int .i64 7] w fun x w' => BackF w (s, 0) x w' := by
  obtain ⟨w1, hw1⟩ : ∃ w1, w1 = (w.alloc (.cells #[L, R, .bool s.c] 43)).alloc (.cells #[.slice none 0 0, .slice none 0 0, .bool false] 43) := ⟨_, rfl⟩
  have T1 : TwoF w L R s.c w.heap.size w1 := by rw [hw1]; exact TwoF.start w L R s.c
  have st1 : RefAt w1 L R s := by rw [hw1]; exact (h.below (below_alloc _ _)).below (below_alloc _ _)
  have Kf : Aside (∀ {v : World}, Below w1.heap.size w1 v → TwoF w L R s.c w.heap.size v ∧ RefAt v L R s) := fun hb => ⟨T1.below hb, st1.below hb⟩
  have ch := rholder_calls st1 hm s.c 0
  obtain ⟨M, hMM⟩ : ∃ M, s.mine t 0 = M := ⟨_, rfl⟩
  have hMe := mine_eq s t 0
  rw [hMM] at hMe
  generalize (aget 0 s.ls).getD 0 = u at ch hMe
  generalize (aget 0 s.ls).isSome = ok at ch hMe
  have HM : Aside (M = (ok && (u == t))) := hMe
  clear hMe
  clear hMM
  obtain ⟨aL, cL, hLs, _, _⟩ := own_shape h.l
  obtain ⟨aR, cR, hRs, _, _⟩ := own_shape h.r
  generalize s.ls.length = zL at hLs hm
  generalize s.rs.length = zR at hRs
  subst hLs hRs
  clear T1 st1 h
  subst hw1
  unfold BackF
  simp only
  generalize s.c = c at *
  go_enter Tryz.func12, Tryz.ntmps12
  go_upto_region 2 with (go_at_call 13; with_reducible refine ch.mono ?_; rintro x w2 ⟨hx, b2⟩; subst hx; obtain ⟨T2, st2⟩ := Kf.out b2)
  go_cut [14] (fun s14 wx => s14 = .bool M ∧ w2 = wx)
  case first =>
    clear ch Kf
    cases ok with
    | false =>
      go_wp2
      go_meet
      exact ⟨by rw [HM.out]; rfl, rfl⟩
    | true =>
      by_cases hu : u = t
      · have hu' : (u == t) = true := by simpa using hu
        go_wp2
        go_meet
        exact ⟨by rw [HM.out, hu']; rfl, rfl⟩
      · have hu' : (u == t) = false := by simpa using hu
        go_wp2
        go_meet
        exact ⟨by rw [HM.out, hu']; rfl, rfl⟩
  case rest =>
    obtain ⟨rfl, rfl⟩ := hcut
    clear HM ch
    skip
    have q0 := T2.box.q0; have q1 := T2.box.q1; have q2 := T2.box.q2; have g0 := T2.box.f0; have g1 := T2.box.f1; have g2 := T2.box.f2; have h0 := T2.res.q0; have h1 := T2.res.q1; have h2 := T2.res.q2; have f0 := T2.res.f0; have f1 := T2.res.f1; have f2 := T2.res.f2
    go_wp2
    obtain ⟨F1, F2, F3⟩ := T2.out (c' := c) st2
    have y0 := F3.q0
    have y1 := F3.q1
    have y2 := F3.q2
    exact bodyPost_ret (v := .tuple #[.agg #[.slice aL zL cL, .slice aR zR cR, .bool c], .int .i64 0]) (by simp [results, Tryz.results12, go_sem, y0, y1, y2]) rfl ⟨_, _, rfl, ⟨F1.l, F1.r⟩, F2⟩

set_option maxHeartbeats 1000000 in
set_option maxRecDepth 1000000 in
theorem RP_g8 (h : RefAt w L R s) (hm : s.ls.length ≤ 1000) (_hm2 : s.rs.length ≤ 1000) (t : Int) (id : Int) (hi : (id == 0) = false) :
    Calls Tryz.prog 12 #[rfV L R s.c, .int .i64 t, .int .i64 0, .int .u64 id, .int .i64 7] w fun x w' => BackF w (s, 17) x w' := by
  obtain ⟨w1, hw1⟩ : ∃ w1, w1 = (w.alloc (.cells #[L, R, .bool s.c] 43)).alloc (.cells #[.slice none 0 0, .slice none 0 0, .bool false] 43) := ⟨_, rfl⟩
  have T1 : TwoF w L R s.c w.heap.size w1 := by rw [hw1]; exact TwoF.start w L R s.c
  have st1 : RefAt w1 L R s := by rw [hw1]; exact (h.below (below_alloc _ _)).below (below_alloc _ _)
  have Kf : Aside (∀ {v : World}, Below w1.heap.size w1 v → TwoF w L R s.c w.heap.size v ∧ RefAt v L R s) := fun hb => ⟨T1.below hb, st1.below hb⟩
  have ch := rholder_calls st1 hm s.c id
  obtain ⟨M, hMM⟩ : ∃ M, s.mine t id = M := ⟨_, rfl⟩
  have hMe := mine_eq s t id
  rw [hMM] at hMe
  generalize (aget id s.ls).getD 0 = u at ch hMe
  generalize (aget id s.ls).isSome = ok at ch hMe
  have HM : Aside (M = (ok && (u == t))) := hMe
  clear hMe
  clear hMM
  obtain ⟨aL, cL, hLs, _, _⟩ := own_shape h.l
  obtain ⟨aR, cR, hRs, _, _⟩ := own_shape h.r
  generalize s.ls.length = zL at hLs hm
  generalize s.rs.length = zR at hRs
  subst hLs hRs
  clear T1 st1 h
  subst hw1
  unfold BackF
  simp only
  generalize s.c = c at *
  go_enter Tryz.func12, Tryz.ntmps12
  go_upto_region 2 with (go_at_call 13; with_reducible refine ch.mono ?_; rintro x w2 ⟨hx, b2⟩; subst hx; obtain ⟨T2, st2⟩ := Kf.out b2)
  go_cut [14] (fun s14 wx => s14 = .bool M ∧ w2 = wx)
  case first =>
    clear ch Kf
    cases ok with
    | false =>
      go_wp2
      go_meet
      exact ⟨by rw [HM.out]; rfl, rfl⟩
    | true =>
      by_cases hu : u = t
      · have hu' : (u == t) = true := by simpa using hu
        go_wp2
        go_meet
        exact ⟨by rw [HM.out, hu']; rfl, rfl⟩
      · have hu' : (u == t) = false := by simpa using hu
        go_wp2
        go_meet
        exact ⟨by rw [HM.out, hu']; rfl, rfl⟩
  case rest =>
    obtain ⟨rfl, rfl⟩ := hcut
    clear HM ch
    skip
    have q0 := T2.box.q0; have q1 := T2.box.q1; have q2 := T2.box.q2; have g0 := T2.box.f0; have g1 := T2.box.f1; have g2 := T2.box.f2; have h0 := T2.res.q0; have h1 := T2.res.q1; have h2 := T2.res.q2; have f0 := T2.res.f0; have f1 := T2.res.f1; have f2 := T2.res.f2
    go_wp2
    obtain ⟨F1, F2, F3⟩ := T2.out (c' := c) st2
    have y0 := F3.q0
    have y1 := F3.q1
    have y2 := F3.q2
    exact bodyPost_ret (v := .tuple #[.agg #[.slice aL zL cL, .slice aR zR cR, .bool c], .int .i64 17]) (by simp [results, Tryz.results12, go_sem, y0, y1, y2]) rfl ⟨_, _, rfl, ⟨F1.l, F1.r⟩, F2⟩

set_option maxHeartbeats 1000000 in
set_option maxRecDepth 1000000 in
theorem RP_g9 (h : RefAt w L R s) (hm : s.ls.length ≤ 1000) (_hm2 : s.rs.length ≤ 1000) (t : Int) :
    Calls Tryz.prog 12 #[rfV L R s.c, .int .i64 t, .int .i64 0, .int .u64 0, .int .i64 8] w fun x w' => BackF w (s, 0) x w' := by
  obtain ⟨w1, hw1⟩ : ∃ w1, w1 = (w.alloc (.cells #[L, R, .bool s.c] 43)).alloc (.cells #[.slice none 0 0, .slice none 0 0, .bool false] 43) := ⟨_, rfl⟩
  have T1 : TwoF w L R s.c w.heap.size w1 := by rw [hw1]; exact TwoF.start w L R s.c
  have st1 : RefAt w1 L R s := by rw [hw1]; exact (h.below (below_alloc _ _)).below (below_alloc _ _)
  have Kf : Aside (∀ {v : World}, Below w1.heap.size w1 v → TwoF w L R s.c w.heap.size v ∧ RefAt v L R s) := fun hb => ⟨T1.below hb, st1.below hb⟩
  have ch := rholder_calls st1 hm s.c 0
  obtain ⟨M, hMM⟩ : ∃ M, s.mine t 0 = M := ⟨_, rfl⟩
  have hMe := mine_eq s t 0
  rw [hMM] at hMe
  generalize (aget 0 s.ls).getD 0 = u at ch hMe
  generalize (aget 0 s.ls).isSome = ok at ch hMe
  have HM : Aside (M = (ok && (u == t))) := hMe
  clear hMe
  clear hMM
  obtain ⟨aL, cL, hLs, _, _⟩ := own_shape h.l
  obtain ⟨aR, cR, hRs, _, _⟩ := own_shape h.r
  generalize s.ls.length = zL at hLs hm
  generalize s.rs.length = zR at hRs
  subst hLs hRs
  clear T1 st1 h
  subst hw1
  unfold BackF
  simp only
  generalize s.c = c at *
  go_enter Tryz.func12, Tryz.ntmps12
  go_upto_region 2 with (go_at_call 13; with_reducible refine ch.mono ?_; rintro x w2 ⟨hx, b2⟩; subst hx; obtain ⟨T2, st2⟩ := Kf.out b2)
  go_cut [14] (fun s14 wx => s14 = .bool M ∧ w2 = wx)
  case first =>
    clear ch Kf
    cases ok with
    | false =>
      go_wp2
      go_meet
      exact ⟨by rw [HM.out]; rfl, rfl⟩
    | true =>
      by_cases hu : u = t
      · have hu' : (u == t) = true := by simpa using hu
        go_wp2
        go_meet
        exact ⟨by rw [HM.out, hu']; rfl, rfl⟩
      · have hu' : (u == t) = false := by simpa using hu
        go_wp2
        go_meet
        exact ⟨by rw [HM.out, hu']; rfl, rfl⟩
  case rest =>
    obtain ⟨rfl, rfl⟩ := hcut
    clear HM ch
    skip
    have q0 := T2.box.q0; have q1 := T2.box.q1; have q2 := T2.box.q2; have g0 := T2.box.f0; have g1 := T2.box.f1; have g2 := T2.box.f2; have h0 := T2.res.q0; have h1 := T2.res.q1; have h2 := T2.res.q2; have f0 := T2.res.f0; have f1 := T2.res.f1; have f2 := T2.res.f2
    go_wp2
    obtain ⟨F1, F2, F3⟩ := T2.out (c' := c) st2
    have y0 := F3.q0
    have y1 := F3.q1
    have y2 := F3.q2
    exact bodyPost_ret (v := .tuple #[.agg #[.slice aL zL cL, .slice aR zR cR, .bool c], .int .i64 0]) (by simp [results, Tryz.results12, go_sem, y0, y1, y2]) rfl ⟨_, _, rfl, ⟨F1.l, F1.r⟩, F2⟩

set_option maxHeartbeats 1000000 in
set_option maxRecDepth 1000000 in
theorem RP_g10 (h : RefAt w L R s) (hm : s.ls.length ≤ 1000) (_hm2 : s.rs.length ≤ 1000) (t : Int) (id : Int) (hi : (id == 0) = false) :
    Calls Tryz.prog 12 #[rfV L R s.c, .int .i64 t, .int .i64 0, .int .u64 id, .int .i64 8] w fun x w' => BackF w (s, 17) x w' := by
  obtain ⟨w1, hw1⟩ : ∃ w1, w1 = (w.alloc (.cells #[L, R, .bool s.c] 43)).alloc (.cells #[.slice none 0 0, .slice none 0 0, .bool false] 43) := ⟨_, rfl⟩
  have T1 : TwoF w L R s.c w.heap.size w1 := by rw [hw1]; exact TwoF.start w L R s.c
  have st1 : RefAt w1 L R s := by rw [hw1]; exact (h.below (below_alloc _ _)).below (below_alloc _ _)
  have Kf : Aside (∀ {v : World}, Below w1.heap.size w1 v → TwoF w L R s.c w.heap.size v ∧ RefAt v L R s) := fun hb => ⟨T1.below hb, st1.below hb⟩
  have ch := rholder_calls st1 hm s.c id
  obtain ⟨M, hMM⟩ : ∃ M, s.mine t id = M := ⟨_, rfl⟩
  have hMe := mine_eq s t id
  rw [hMM] at hMe
  generalize (aget id s.ls).getD 0 = u at ch hMe
  generalize (aget id s.ls).isSome = ok at ch hMe
  have HM : Aside (M = (ok && (u == t))) := hMe
  clear hMe
  clear hMM
  obtain ⟨aL, cL, hLs, _, _⟩ := own_shape h.l
  obtain ⟨aR, cR, hRs, _, _⟩ := own_shape h.r
  generalize s.ls.length = zL at hLs hm
  generalize s.rs.length = zR at hRs
  subst hLs hRs
  clear T1 st1 h
  subst hw1
  unfold BackF
  simp only
  generalize s.c = c at *
  go_enter Tryz.func12, Tryz.ntmps12
  go_upto_region 2 with (go_at_call 13; with_reducible refine ch.mono ?_; rintro x w2 ⟨hx, b2⟩; subst hx; obtain ⟨T2, st2⟩ := Kf.out b2)
  go_cut [14] (fun s14 wx => s14 = .bool M ∧ w2 = wx)
  case first =>
    clear ch Kf
    cases ok with
    | false =>
      go_wp2
      go_meet
      exact ⟨by rw [HM.out]; rfl, rfl⟩
    | true =>
      by_cases hu : u = t
      · have hu' : (u == t) = true := by simpa using hu
        go_wp2
        go_meet
        exact ⟨by rw [HM.out, hu']; rfl, rfl⟩
      · have hu' : (u == t) = false := by simpa using hu
        go_wp2
        go_meet
        exact ⟨by rw [HM.out, hu']; rfl, rfl⟩
  case rest =>
    obtain ⟨rfl, rfl⟩ := hcut
    clear HM ch
    skip
    have q0 := T2.box.q0; have q1 := T2.box.q1; have q2 := T2.box.q2; have g0 := T2.box.f0; have g1 := T2.box.f1; have g2 := T2.box.f2; have h0 := T2.res.q0; have h1 := T2.res.q1; have h2 := T2.res.q2; have f0 := T2.res.f0; have f1 := T2.res.f1; have f2 := T2.res.f2
    go_wp2
    obtain ⟨F1, F2, F3⟩ := T2.out (c' := c) st2
    have y0 := F3.q0
    have y1 := F3.q1
    have y2 := F3.q2
    exact bodyPost_ret (v := .tuple #[.agg #[.slice aL zL cL, .slice aR zR cR, .bool c], .int .i64 17]) (by simp [results, Tryz.results12, go_sem, y0, y1, y2]) rfl ⟨_, _, rfl, ⟨F1.l, F1.r⟩, F2⟩

set_option maxHeartbeats 1000000 in
set_option maxRecDepth 1000000 in
theorem RP_g11 (h : RefAt w L R s) (hm : s.ls.length ≤ 1000) (_hm2 : s.rs.length ≤ 1000) (t : Int) (e : Int) (h0 : (e == 0) = false) (h6 : (e == 6) = false) (h7 : (e == 7) = false) (h8 : (e == 8) = false) :
    Calls Tryz.prog 12 #[rfV L R s.c, .int .i64 t, .int .i64 0, .int .u64 0, .int .i64 e] w fun x w' => BackF w (s, 17) x w' := by
  obtain ⟨w1, hw1⟩ : ∃ w1, w1 = (w.alloc (.cells #[L, R, .bool s.c] 43)).alloc (.cells #[.slice none 0 0, .slice none 0 0, .bool false] 43) := ⟨_, rfl⟩
  have T1 : TwoF w L R s.c w.heap.size w1 := by rw [hw1]; exact TwoF.start w L R s.c
  have st1 : RefAt w1 L R s := by rw [hw1]; exact (h.below (below_alloc _ _)).below (below_alloc _ _)
  have Kf : Aside (∀ {v : World}, Below w1.heap.size w1 v → TwoF w L R s.c w.heap.size v ∧ RefAt v L R s) := fun hb => ⟨T1.below hb, st1.below hb⟩
  have ch := rholder_calls st1 hm s.c 0
  obtain ⟨M, hMM⟩ : ∃ M, s.mine t 0 = M := ⟨_, rfl⟩
  have hMe := mine_eq s t 0
  rw [hMM] at hMe
  generalize (aget 0 s.ls).getD 0 = u at ch hMe
  generalize (aget 0 s.ls).isSome = ok at ch hMe
  have HM : Aside (M = (ok && (u == t))) := hMe
  clear hMe
  clear hMM
  obtain ⟨aL, cL, hLs, _, _⟩ := own_shape h.l
  obtain ⟨aR, cR, hRs, _, _⟩ := own_shape h.r
  generalize s.ls.length = zL at hLs hm
  generalize s.rs.length = zR at hRs
  subst hLs hRs
  clear T1 st1 h
  subst hw1
  unfold BackF
  simp only
  generalize s.c = c at *
  go_enter Tryz.func12, Tryz.ntmps12
  go_upto_region 2 with (go_at_call 13; with_reducible refine ch.mono ?_; rintro x w2 ⟨hx, b2⟩; subst hx; obtain ⟨T2, st2⟩ := Kf.out b2)
  go_cut [14] (fun s14 wx => s14 = .bool M ∧ w2 = wx)
  case first =>
    clear ch Kf
    cases ok with
    | false =>
      go_wp2
      go_meet
      exact ⟨by rw [HM.out]; rfl, rfl⟩
    | true =>
      by_cases hu : u = t
      · have hu' : (u == t) = true := by simpa using hu
        go_wp2
        go_meet
        exact ⟨by rw [HM.out, hu']; rfl, rfl⟩
      · have hu' : (u == t) = false := by simpa using hu
        go_wp2
        go_meet
        exact ⟨by rw [HM.out, hu']; rfl, rfl⟩
  case rest =>
    obtain ⟨rfl, rfl⟩ := hcut
    clear HM ch
    skip
    have q0 := T2.box.q0; have q1 := T2.box.q1; have q2 := T2.box.q2; have g0 := T2.box.f0; have g1 := T2.box.f1; have g2 := T2.box.f2; have h0 := T2.res.q0; have h1 := T2.res.q1; have h2 := T2.res.q2; have f0 := T2.res.f0; have f1 := T2.res.f1; have f2 := T2.res.f2
    go_wp2
    obtain ⟨F1, F2, F3⟩ := T2.out (c' := c) st2
    have y0 := F3.q0
    have y1 := F3.q1
    have y2 := F3.q2
    exact bodyPost_ret (v := .tuple #[.agg #[.slice aL zL cL, .slice aR zR cR, .bool c], .int .i64 17]) (by simp [results, Tryz.results12, go_sem, y0, y1, y2]) rfl ⟨_, _, rfl, ⟨F1.l, F1.r⟩, F2⟩

set_option maxHeartbeats 1000000 in
set_option maxRecDepth 1000000 in
theorem RP_g12 (h : RefAt w L R s) (hm : s.ls.length ≤ 1000) (_hm2 : s.rs.length ≤ 1000) (t : Int) (e : Int) (id : Int) (h0 : (e == 0) = false) (hi : (id == 0) = false) :
    Calls Tryz.prog 12 #[rfV L R s.c, .int .i64 t, .int .i64 0, .int .u64 id, .int .i64 e] w fun x w' => BackF w (s, 17) x w' := by
  obtain ⟨w1, hw1⟩ : ∃ w1, w1 = (w.alloc (.cells #[L, R, .bool s.c] 43)).alloc (.cells #[.slice none 0 0, .slice none 0 0, .bool false] 43) := ⟨_, rfl⟩
  have T1 : TwoF w L R s.c w.heap.size w1 := by rw [hw1]; exact TwoF.start w L R s.c
  have st1 : RefAt w1 L R s := by rw [hw1]; exact (h.below (below_alloc _ _)).below (below_alloc _ _)
  have Kf : Aside (∀ {v : World}, Below w1.heap.size w1 v → TwoF w L R s.c w.heap.size v ∧ RefAt v L R s) := fun hb => ⟨T1.below hb, st1.below hb⟩
  have ch := rholder_calls st1 hm s.c id
  obtain ⟨M, hMM⟩ : ∃ M, s.mine t id = M := ⟨_, rfl⟩
  have hMe := mine_eq s t id
  rw [hMM] at hMe
  generalize (aget id s.ls).getD 0 = u at ch hMe
  generalize (aget id s.ls).isSome = ok at ch hMe
  have HM : Aside (M = (ok && (u == t))) := hMe
  clear hMe
  clear hMM
  obtain ⟨aL, cL, hLs, _, _⟩ := own_shape h.l
  obtain ⟨aR, cR, hRs, _, _⟩ := own_shape h.r
  generalize s.ls.length = zL at hLs hm
  generalize s.rs.length = zR at hRs
  subst hLs hRs
  clear T1 st1 h
  subst hw1
  unfold BackF
  simp only
  generalize s.c = c at *
  go_enter Tryz.func12, Tryz.ntmps12
  go_upto_region 2 with (go_at_call 13; with_reducible refine ch.mono ?_; rintro x w2 ⟨hx, b2⟩; subst hx; obtain ⟨T2, st2⟩ := Kf.out b2)
  go_cut [14] (fun s14 wx => s14 = .bool M ∧ w2 = wx)
  case first =>
    clear ch Kf
    cases ok with
    | false =>
      go_wp2
      go_meet
      exact ⟨by rw [HM.out]; rfl, rfl⟩
    | true =>
      by_cases hu : u = t
      · have hu' : (u == t) = true := by simpa using hu
        go_wp2
        go_meet
        exact ⟨by rw [HM.out, hu']; rfl, rfl⟩
      · have hu' : (u == t) = false := by simpa using hu
        go_wp2
        go_meet
        exact ⟨by rw [HM.out, hu']; rfl, rfl⟩
  case rest =>
    obtain ⟨rfl, rfl⟩ := hcut
    clear HM ch
    skip
    have q0 := T2.box.q0; have q1 := T2.box.q1; have q2 := T2.box.q2; have g0 := T2.box.f0; have g1 := T2.box.f1; have g2 := T2.box.f2; have h0 := T2.res.q0; have h1 := T2.res.q1; have h2 := T2.res.q2; have f0 := T2.res.f0; have f1 := T2.res.f1; have f2 := T2.res.f2
    go_wp2
    obtain ⟨F1, F2, F3⟩ := T2.out (c' := c) st2
    have y0 := F3.q0
    have y1 := F3.q1
    have y2 := F3.q2
    exact bodyPost_ret (v := .tuple #[.agg #[.slice aL zL cL, .slice aR zR cR, .bool c], .int .i64 17]) (by simp [results, Tryz.results12, go_sem, y0, y1, y2]) rfl ⟨_, _, rfl, ⟨F1.l, F1.r⟩, F2⟩

set_option maxHeartbeats 1000000 in
set_option maxRecDepth 1000000 in
theorem RP_p2 (h : RefAt w L R s) (hm : s.ls.length ≤ 1000) (_hm2 : s.rs.length ≤ 1000) (t : Int) (id : Int) (hM : s.mine t id = false) :
    Calls Tryz.prog 12 #[rfV L R s.c, .int .i64 t, .int .i64 1, .int .u64 id, .int .i64 0] w fun x w' => BackF w (s, 17) x w' := by
  obtain ⟨w1, hw1⟩ : ∃ w1, w1 = (w.alloc (.cells #[L, R, .bool s.c] 43)).alloc (.cells #[.slice none 0 0, .slice none 0 0, .bool false] 43) := ⟨_, rfl⟩
  have T1 : TwoF w L R s.c w.heap.size w1 := by rw [hw1]; exact TwoF.start w L R s.c
  have st1 : RefAt w1 L R s := by rw [hw1]; exact (h.below (below_alloc _ _)).below (below_alloc _ _)
  have Kf : Aside (∀ {v : World}, Below w1.heap.size w1 v → TwoF w L R s.c w.heap.size v ∧ RefAt v L R s) := fun hb => ⟨T1.below hb, st1.below hb⟩
  have ch := rholder_calls st1 hm s.c id
  obtain ⟨M, hMM⟩ : ∃ M, s.mine t id = M := ⟨_, rfl⟩
  have hMe := mine_eq s t id
  rw [hMM] at hMe
  generalize (aget id s.ls).getD 0 = u at ch hMe
  generalize (aget id s.ls).isSome = ok at ch hMe
  have HM : Aside (M = (ok && (u == t))) := hMe
  clear hMe
  have HMM : Aside (M = false) := hMM.symm.trans hM
  clear hMM hM
  obtain ⟨aL, cL, hLs, _, _⟩ := own_shape h.l
  obtain ⟨aR, cR, hRs, _, _⟩ := own_shape h.r
  generalize s.ls.length = zL at hLs hm
  generalize s.rs.length = zR at hRs
  subst hLs hRs
  clear T1 st1 h
  subst hw1
  unfold BackF
  simp only
  generalize s.c = c at *
  go_enter Tryz.func12, Tryz.ntmps12
  go_upto_region 2 with (go_at_call 13; with_reducible refine ch.mono ?_; rintro x w2 ⟨hx, b2⟩; subst hx; obtain ⟨T2, st2⟩ := Kf.out b2)
  go_cut [14] (fun s14 wx => s14 = .bool M ∧ w2 = wx)
  case first =>
    clear ch Kf
    cases ok with
    | false =>
      go_wp2
      go_meet
      exact ⟨by rw [HM.out]; rfl, rfl⟩
    | true =>
      by_cases hu : u = t
      · have hu' : (u == t) = true := by simpa using hu
        go_wp2
        go_meet
        exact ⟨by rw [HM.out, hu']; rfl, rfl⟩
      · have hu' : (u == t) = false := by simpa using hu
        go_wp2
        go_meet
        exact ⟨by rw [HM.out, hu']; rfl, rfl⟩
  case rest =>
    obtain ⟨rfl, rfl⟩ := hcut
    clear HM ch
    obtain rfl := HMM.out
    have q0 := T2.box.q0; have q1 := T2.box.q1; have q2 := T2.box.q2; have g0 := T2.box.f0; have g1 := T2.box.f1; have g2 := T2.box.f2; have h0 := T2.res.q0; have h1 := T2.res.q1; have h2 := T2.res.q2; have f0 := T2.res.f0; have f1 := T2.res.f1; have f2 := T2.res.f2
    go_wp2
    obtain ⟨F1, F2, F3⟩ := T2.out (c' := c) st2
    have y0 := F3.q0
    have y1 := F3.q1
    have y2 := F3.q2
    exact bodyPost_ret (v := .tuple #[.agg #[.slice aL zL cL, .slice aR zR cR, .bool c], .int .i64 17]) (by simp [results, Tryz.results12, go_sem, y0, y1, y2]) rfl ⟨_, _, rfl, ⟨F1.l, F1.r⟩, F2⟩

set_option maxHeartbeats 1000000 in
set_option maxRecDepth 1000000 in
theorem RP_p3 (h : RefAt w L R s) (hm : s.ls.length ≤ 1000) (_hm2 : s.rs.length ≤ 1000) (t : Int) (id : Int) (hM : s.mine t id = false) :
    Calls Tryz.prog 12 #[rfV L R s.c, .int .i64 t, .int .i64 1, .int .u64 id, .int .i64 5] w fun x w' => BackF w (s, 0) x w' := by
  obtain ⟨w1, hw1⟩ : ∃ w1, w1 = (w.alloc (.cells #[L, R, .bool s.c] 43)).alloc (.cells #[.slice none 0 0, .slice none 0 0, .bool false] 43) := ⟨_, rfl⟩
  have T1 : TwoF w L R s.c w.heap.size w1 := by rw [hw1]; exact TwoF.start w L R s.c
  have st1 : RefAt w1 L R s := by rw [hw1]; exact (h.below (below_alloc _ _)).below (below_alloc _ _)
  have Kf : Aside (∀ {v : World}, Below w1.heap.size w1 v → TwoF w L R s.c w.heap.size v ∧ RefAt v L R s) := fun hb => ⟨T1.below hb, st1.below hb⟩
  have ch := rholder_calls st1 hm s.c id
  obtain ⟨M, hMM⟩ : ∃ M, s.mine t id = M := ⟨_, rfl⟩
  have hMe := mine_eq s t id
  rw [hMM] at hMe
  generalize (aget id s.ls).getD 0 = u at ch hMe
  generalize (aget id s.ls).isSome = ok at ch hMe
  have HM : Aside (M = (ok && (u == t))) := hMe
  clear hMe
  have HMM : Aside (M = false) := hMM.symm.trans hM
  clear hMM hM
  obtain ⟨aL, cL, hLs, _, _⟩ := own_shape h.l
  obtain ⟨aR, cR, hRs, _, _⟩ := own_shape h.r
  generalize s.ls.length = zL at hLs hm
  generalize s.rs.length = zR at hRs
  subst hLs hRs
  clear T1 st1 h
  subst hw1
  unfold BackF
  simp only
  generalize s.c = c at *
  go_enter Tryz.func12, Tryz.ntmps12
  go_upto_region 2 with (go_at_call 13; with_reducible refine ch.mono ?_; rintro x w2 ⟨hx, b2⟩; subst hx; obtain ⟨T2, st2⟩ := Kf.out b2)
  go_cut [14] (fun s14 wx => s14 = .bool M ∧ w2 = wx)
  case first =>
    clear ch Kf
    cases ok with
    | false =>
      go_wp2
      go_meet
      exact ⟨by rw [HM.out]; rfl, rfl⟩
    | true =>
      by_cases hu : u = t
      · have hu' : (u == t) = true := by simpa using hu
        go_wp2
        go_meet
        exact ⟨by rw [HM.out, hu']; rfl, rfl⟩
      · have hu' : (u == t) = false := by simpa using hu
        go_wp2
        go_meet
        exact ⟨by rw [HM.out, hu']; rfl, rfl⟩
  case rest =>
    obtain ⟨rfl, rfl⟩ := hcut
    clear HM ch
    obtain rfl := HMM.out
    have q0 := T2.box.q0; have q1 := T2.box.q1; have q2 := T2.box.q2; have g0 := T2.box.f0; have g1 := T2.box.f1; have g2 := T2.box.f2; have h0 := T2.res.q0; have h1 := T2.res.q1; have h2 := T2.res.q2; have f0 := T2.res.f0; have f1 := T2.res.f1; have f2 := T2.res.f2
    go_wp2
    obtain ⟨F1, F2, F3⟩ := T2.out (c' := c) st2
    have y0 := F3.q0
    have y1 := F3.q1
    have y2 := F3.q2
    exact bodyPost_ret (v := .tuple #[.agg #[.slice aL zL cL, .slice aR zR cR, .bool c], .int .i64 0]) (by simp [results, Tryz.results12, go_sem, y0, y1, y2]) rfl ⟨_, _, rfl, ⟨F1.l, F1.r⟩, F2⟩

set_option maxHeartbeats 1000000 in
set_option maxRecDepth 1000000 in
theorem RP_p4 (h : RefAt w L R s) (hm : s.ls.length ≤ 1000) (_hm2 : s.rs.length ≤ 1000) (t : Int) (id : Int) (hM : s.mine t id = true) :
    Calls Tryz.prog 12 #[rfV L R s.c, .int .i64 t, .int .i64 1, .int .u64 id, .int .i64 5] w fun x w' => BackF w (s, 17) x w' := by
  obtain ⟨w1, hw1⟩ : ∃ w1, w1 = (w.alloc (.cells #[L, R, .bool s.c] 43)).alloc (.cells #[.slice none 0 0, .slice none 0 0, .bool false] 43) := ⟨_, rfl⟩
  have T1 : TwoF w L R s.c w.heap.size w1 := by rw [hw1]; exact TwoF.start w L R s.c
  have st1 : RefAt w1 L R s := by rw [hw1]; exact (h.below (below_alloc _ _)).below (below_alloc _ _)
  have Kf : Aside (∀ {v : World}, Below w1.heap.size w1 v → TwoF w L R s.c w.heap.size v ∧ RefAt v L R s) := fun hb => ⟨T1.below hb, st1.below hb⟩
  have ch := rholder_calls st1 hm s.c id
  obtain ⟨M, hMM⟩ : ∃ M, s.mine t id = M := ⟨_, rfl⟩
  have hMe := mine_eq s t id
  rw [hMM] at hMe
  generalize (aget id s.ls).getD 0 = u at ch hMe
  generalize (aget id s.ls).isSome = ok at ch hMe
  have HM : Aside (M = (ok && (u == t))) := hMe
  clear hMe
  have HMM : Aside (M = true) := hMM.symm.trans hM
  clear hMM hM
  obtain ⟨aL, cL, hLs, _, _⟩ := own_shape h.l
  obtain ⟨aR, cR, hRs, _, _⟩ := own_shape h.r
  generalize s.ls.length = zL at hLs hm
  generalize s.rs.length = zR at hRs
  subst hLs hRs
  clear T1 st1 h
  subst hw1
  unfold BackF
  simp only
  generalize s.c = c at *
  go_enter Tryz.func12, Tryz.ntmps12
  go_upto_region 2 with (go_at_call 13; with_reducible refine ch.mono ?_; rintro x w2 ⟨hx, b2⟩; subst hx; obtain ⟨T2, st2⟩ := Kf.out b2)
  go_cut [14] (fun s14 wx => s14 = .bool M ∧ w2 = wx)
  case first =>
    clear ch Kf
    cases ok with
    | false =>
      go_wp2
      go_meet
      exact ⟨by rw [HM.out]; rfl, rfl⟩
    | true =>
      by_cases hu : u = t
      · have hu' : (u == t) = true := by simpa using hu
        go_wp2
        go_meet
        exact ⟨by rw [HM.out, hu']; rfl, rfl⟩
      · have hu' : (u == t) = false := by simpa using hu
        go_wp2
        go_meet
        exact ⟨by rw [HM.out, hu']; rfl, rfl⟩
  case rest =>
    obtain ⟨rfl, rfl⟩ := hcut
    clear HM ch
    obtain rfl := HMM.out
    have q0 := T2.box.q0; have q1 := T2.box.q1; have q2 := T2.box.q2; have g0 := T2.box.f0; have g1 := T2.box.f1; have g2 := T2.box.f2; have h0 := T2.res.q0; have h1 := T2.res.q1; have h2 := T2.res.q2; have f0 := T2.res.f0; have f1 := T2.res.f1; have f2 := T2.res.f2
    go_wp2
    obtain ⟨F1, F2, F3⟩ := T2.out (c' := c) st2
    have y0 := F3.q0
    have y1 := F3.q1
    have y2 := F3.q2
    exact bodyPost_ret (v := .tuple #[.agg #[.slice aL zL cL, .slice aR zR cR, .bool c], .int .i64 17]) (by simp [results, Tryz.results12, go_sem, y0, y1, y2]) rfl ⟨_, _, rfl, ⟨F1.l, F1.r⟩, F2⟩

set_option maxHeartbeats 1000000 in
set_option maxRecDepth 1000000 in
theorem RP_p5 (h : RefAt w L R s) (hm : s.ls.length ≤ 1000) (_hm2 : s.rs.length ≤ 1000) (t : Int) (e : Int) (id : Int) (h0 : (e == 0) = false) (h5 : (e == 5) = false) :
    Calls Tryz.prog 12 #[rfV L R s.c, .int .i64 t, .int .i64 1, .int .u64 id, .int .i64 e] w fun x w' => BackF w (s, 17) x w' := by
  obtain ⟨w1, hw1⟩ : ∃ w1, w1 = (w.alloc (.cells #[L, R, .bool s.c] 43)).alloc (.cells #[.slice none 0 0, .slice none 0 0, .bool false] 43) := ⟨_, rfl⟩
  have T1 : TwoF w L R s.c w.heap.size w1 := by rw [hw1]; exact TwoF.start w L R s.c
  have st1 : RefAt w1 L R s := by rw [hw1]; exact (h.below (below_alloc _ _)).below (below_alloc _ _)
  have Kf : Aside (∀ {v : World}, Below w1.heap.size w1 v → TwoF w L R s.c w.heap.size v ∧ RefAt v L R s) := fun hb => ⟨T1.below hb, st1.below hb⟩
  have ch := rholder_calls st1 hm s.c id
  obtain ⟨M, hMM⟩ : ∃ M, s.mine t id = M := ⟨_, rfl⟩
  have hMe := mine_eq s t id
  rw [hMM] at hMe
  generalize (aget id s.ls).getD 0 = u at ch hMe
  generalize (aget id s.ls).isSome = ok at ch hMe
  have HM : Aside (M = (ok && (u == t))) := hMe
  clear hMe
  clear hMM
  obtain ⟨aL, cL, hLs, _, _⟩ := own_shape h.l
  obtain ⟨aR, cR, hRs, _, _⟩ := own_shape h.r
  generalize s.ls.length = zL at hLs hm
  generalize s.rs.length = zR at hRs
  subst hLs hRs
  clear T1 st1 h
  subst hw1
  unfold BackF
  simp only
  generalize s.c = c at *
  go_enter Tryz.func12, Tryz.ntmps12
  go_upto_region 2 with (go_at_call 13; with_reducible refine ch.mono ?_; rintro x w2 ⟨hx, b2⟩; subst hx; obtain ⟨T2, st2⟩ := Kf.out b2)
  go_cut [14] (fun s14 wx => s14 = .bool M ∧ w2 = wx)
  case first =>
    clear ch Kf
    cases ok with
    | false =>
      go_wp2
      go_meet
      exact ⟨by rw [HM.out]; rfl, rfl⟩
    | true =>
      by_cases hu : u = t
      · have hu' : (u == t) = true := by simpa using hu
        go_wp2
        go_meet
        exact ⟨by rw [HM.out, hu']; rfl, rfl⟩
      · have hu' : (u == t) = false := by simpa using hu
        go_wp2
        go_meet
        exact ⟨by rw [HM.out, hu']; rfl, rfl⟩
  case rest =>
    obtain ⟨rfl, rfl⟩ := hcut
    clear HM ch
    skip
    have q0 := T2.box.q0; have q1 := T2.box.q1; have q2 := T2.box.q2; have g0 := T2.box.f0; have g1 := T2.box.f1; have g2 := T2.box.f2; have h0 := T2.res.q0; have h1 := T2.res.q1; have h2 := T2.res.q2; have f0 := T2.res.f0; have f1 := T2.res.f1; have f2 := T2.res.f2
    go_wp2
    obtain ⟨F1, F2, F3⟩ := T2.out (c' := c) st2
    have y0 := F3.q0
    have y1 := F3.q1
    have y2 := F3.q2
    exact bodyPost_ret (v := .tuple #[.agg #[.slice aL zL cL, .slice aR zR cR, .bool c], .int .i64 17]) (by simp [results, Tryz.results12, go_sem, y0, y1, y2]) rfl ⟨_, _, rfl, ⟨F1.l, F1.r⟩, F2⟩

set_option maxHeartbeats 1000000 in
set_option maxRecDepth 1000000 in
theorem RP_q1 (h : RefAt w L R s) (hm : s.ls.length ≤ 1000) (_hm2 : s.rs.length ≤ 1000) (t : Int) (id : Int) (hM : s.mine t id = true) :
    Calls Tryz.prog 12 #[rfV L R s.c, .int .i64 t, .int .i64 2, .int .u64 id, .int .i64 0] w fun x w' => BackF w (s, 0) x w' := by
  obtain ⟨w1, hw1⟩ : ∃ w1, w1 = (w.alloc (.cells #[L, R, .bool s.c] 43)).alloc (.cells #[.slice none 0 0, .slice none 0 0, .bool false] 43) := ⟨_, rfl⟩
  have T1 : TwoF w L R s.c w.heap.size w1 := by rw [hw1]; exact TwoF.start w L R s.c
  have st1 : RefAt w1 L R s := by rw [hw1]; exact (h.below (below_alloc _ _)).below (below_alloc _ _)
  have Kf : Aside (∀ {v : World}, Below w1.heap.size w1 v → TwoF w L R s.c w.heap.size v ∧ RefAt v L R s) := fun hb => ⟨T1.below hb, st1.below hb⟩
  have ch := rholder_calls st1 hm s.c id
  obtain ⟨M, hMM⟩ : ∃ M, s.mine t id = M := ⟨_, rfl⟩
  have hMe := mine_eq s t id
  rw [hMM] at hMe
  generalize (aget id s.ls).getD 0 = u at ch hMe
  generalize (aget id s.ls).isSome = ok at ch hMe
  have HM : Aside (M = (ok && (u == t))) := hMe
  clear hMe
  have HMM : Aside (M = true) := hMM.symm.trans hM
  clear hMM hM
  obtain ⟨aL, cL, hLs, _, _⟩ := own_shape h.l
  obtain ⟨aR, cR, hRs, _, _⟩ := own_shape h.r
  generalize s.ls.length = zL at hLs hm
  generalize s.rs.length = zR at hRs
  subst hLs hRs
  clear T1 st1 h
  subst hw1
  unfold BackF
  simp only
  generalize s.c = c at *
  go_enter Tryz.func12, Tryz.ntmps12
  go_upto_region 2 with (go_at_call 13; with_reducible refine ch.mono ?_; rintro x w2 ⟨hx, b2⟩; subst hx; obtain ⟨T2, st2⟩ := Kf.out b2)
  go_cut [14] (fun s14 wx => s14 = .bool M ∧ w2 = wx)
  case first =>
    clear ch Kf
    cases ok with
    | false =>
      go_wp2
      go_meet
      exact ⟨by rw [HM.out]; rfl, rfl⟩
    | true =>
      by_cases hu : u = t
      · have hu' : (u == t) = true := by simpa using hu
        go_wp2
        go_meet
        exact ⟨by rw [HM.out, hu']; rfl, rfl⟩
      · have hu' : (u == t) = false := by simpa using hu
        go_wp2
        go_meet
        exact ⟨by rw [HM.out, hu']; rfl, rfl⟩
  case rest =>
    obtain ⟨rfl, rfl⟩ := hcut
    clear HM ch
    obtain rfl := HMM.out
    have q0 := T2.box.q0; have q1 := T2.box.q1; have q2 := T2.box.q2; have g0 := T2.box.f0; have g1 := T2.box.f1; have g2 := T2.box.f2; have h0 := T2.res.q0; have h1 := T2.res.q1; have h2 := T2.res.q2; have f0 := T2.res.f0; have f1 := T2.res.f1; have f2 := T2.res.f2
    go_wp2
    obtain ⟨F1, F2, F3⟩ := T2.out (c' := c) st2
    have y0 := F3.q0
    have y1 := F3.q1
    have y2 := F3.q2
    exact bodyPost_ret (v := .tuple #[.agg #[.slice aL zL cL, .slice aR zR cR, .bool c], .int .i64 0]) (by simp [results, Tryz.results12, go_sem, y0, y1, y2]) rfl ⟨_, _, rfl, ⟨F1.l, F1.r⟩, F2⟩

set_option maxHeartbeats 1000000 in
set_option maxRecDepth 1000000 in
theorem RP_q2 (h : RefAt w L R s) (hm : s.ls.length ≤ 1000) (_hm2 : s.rs.length ≤ 1000) (t : Int) (id : Int) (hM : s.mine t id = false) :
    Calls Tryz.prog 12 #[rfV L R s.c, .int .i64 t, .int .i64 2, .int .u64 id, .int .i64 0] w fun x w' => BackF w (s, 17) x w' := by
  obtain ⟨w1, hw1⟩ : ∃ w1, w1 = (w.alloc (.cells #[L, R, .bool s.c] 43)).alloc (.cells #[.slice none 0 0, .slice none 0 0, .bool false] 43) := ⟨_, rfl⟩
  have T1 : TwoF w L R s.c w.heap.size w1 := by rw [hw1]; exact TwoF.start w L R s.c
  have st1 : RefAt w1 L R s := by rw [hw1]; exact (h.below (below_alloc _ _)).below (below_alloc _ _)
  have Kf : Aside (∀ {v : World}, Below w1.heap.size w1 v → TwoF w L R s.c w.heap.size v ∧ RefAt v L R s) := fun hb => ⟨T1.below hb, st1.below hb⟩
  have ch := rholder_calls st1 hm s.c id
  obtain ⟨M, hMM⟩ : ∃ M, s.mine t id = M := ⟨_, rfl⟩
  have hMe := mine_eq s t id
  rw [hMM] at hMe
  generalize (aget id s.ls).getD 0 = u at ch hMe
  generalize (aget id s.ls).isSome = ok at ch hMe
  have HM : Aside (M = (ok && (u == t))) := hMe
  clear hMe
  have HMM : Aside (M = false) := hMM.symm.trans hM
  clear hMM hM
  obtain ⟨aL, cL, hLs, _, _⟩ := own_shape h.l
  obtain ⟨aR, cR, hRs, _, _⟩ := own_shape h.r
  generalize s.ls.length = zL at hLs hm
  generalize s.rs.length = zR at hRs
  subst hLs hRs
  clear T1 st1 h
  subst hw1
  unfold BackF
  simp only
  generalize s.c = c at *
  go_enter Tryz.func12, Tryz.ntmps12
  go_upto_region 2 with (go_at_call 13; with_reducible refine ch.mono ?_; rintro x w2 ⟨hx, b2⟩; subst hx; obtain ⟨T2, st2⟩ := Kf.out b2)
  go_cut [14] (fun s14 wx => s14 = .bool M ∧ w2 = wx)
  case first =>
    clear ch Kf
    cases ok with
    | false =>
      go_wp2
      go_meet
      exact ⟨by rw [HM.out]; rfl, rfl⟩
    | true =>
      by_cases hu : u = t
      · have hu' : (u == t) = true := by simpa using hu
        go_wp2
        go_meet
        exact ⟨by rw [HM.out, hu']; rfl, rfl⟩
      · have hu' : (u == t) = false := by simpa using hu
        go_wp2
        go_meet
        exact ⟨by rw [HM.out, hu']; rfl, rfl⟩
  case rest =>
    obtain ⟨rfl, rfl⟩ := hcut
    clear HM ch
    obtain rfl := HMM.out
    have q0 := T2.box.q0; have q1 := T2.box.q1; have q2 := T2.box.q2; have g0 := T2.box.f0; have g1 := T2.box.f1; have g2 := T2.box.f2; have h0 := T2.res.q0; have h1 := T2.res.q1; have h2 := T2.res.q2; have f0 := T2.res.f0; have f1 := T2.res.f1; have f2 := T2.res.f2
    go_wp2
    obtain ⟨F1, F2, F3⟩ := T2.out (c' := c) st2
    have y0 := F3.q0
    have y1 := F3.q1
    have y2 := F3.q2
    exact bodyPost_ret (v := .tuple #[.agg #[.slice aL zL cL, .slice aR zR cR, .bool c], .int .i64 17]) (by simp [results, Tryz.results12, go_sem, y0, y1, y2]) rfl ⟨_, _, rfl, ⟨F1.l, F1.r⟩, F2⟩

set_option maxHeartbeats 1000000 in
set_option maxRecDepth 1000000 in
theorem RP_q3 (h : RefAt w L R s) (hm : s.ls.length ≤ 1000) (_hm2 : s.rs.length ≤ 1000) (t : Int) (id : Int) (hM : s.mine t id = false) :
    Calls Tryz.prog 12 #[rfV L R s.c, .int .i64 t, .int .i64 2, .int .u64 id, .int .i64 5] w fun x w' => BackF w (s, 0) x w' := by
  obtain ⟨w1, hw1⟩ : ∃ w1, w1 = (w.alloc (.cells #[L, R, .bool s.c] 43)).alloc (.cells #[.slice none 0 0, .slice none 0 0, .bool false] 43) := ⟨_, rfl⟩
  have T1 : TwoF w L R s.c w.heap.size w1 := by rw [hw1]; exact TwoF.start w L R s.c
  have st1 : RefAt w1 L R s := by rw [hw1]; exact (h.below (below_alloc _ _)).below (below_alloc _ _)
  have Kf : Aside (∀ {v : World}, Below w1.heap.size w1 v → TwoF w L R s.c w.heap.size v ∧ RefAt v L R s) := fun hb => ⟨T1.below hb, st1.below hb⟩
  have ch := rholder_calls st1 hm s.c id
  obtain ⟨M, hMM⟩ : ∃ M, s.mine t id = M := ⟨_, rfl⟩
  have hMe := mine_eq s t id
  rw [hMM] at hMe
  generalize (aget id s.ls).getD 0 = u at ch hMe
  generalize (aget id s.ls).isSome = ok at ch hMe
  have HM : Aside (M = (ok && (u == t))) := hMe
  clear hMe
  have HMM : Aside (M = false) := hMM.symm.trans hM
  clear hMM hM
  obtain ⟨aL, cL, hLs, _, _⟩ := own_shape h.l
  obtain ⟨aR, cR, hRs, _, _⟩ := own_shape h.r
  generalize s.ls.length = zL at hLs hm
  generalize s.rs.length = zR at hRs
  subst hLs hRs
  clear T1 st1 h
  subst hw1
  unfold BackF
  simp only
  generalize s.c = c at *
  go_enter Tryz.func12, Tryz.ntmps12
  go_upto_region 2 with (go_at_call 13; with_reducible refine ch.mono ?_; rintro x w2 ⟨hx, b2⟩; subst hx; obtain ⟨T2, st2⟩ := Kf.out b2)
  go_cut [14] (fun s14 wx => s14 = .bool M ∧ w2 = wx)
  case first =>
    clear ch Kf
    cases ok with
    | false =>
      go_wp2
      go_meet
      exact ⟨by rw [HM.out]; rfl, rfl⟩
    | true =>
      by_cases hu : u = t
      · have hu' : (u == t) = true := by simpa using hu
        go_wp2
        go_meet
        exact ⟨by rw [HM.out, hu']; rfl, rfl⟩
      · have hu' : (u == t) = false := by simpa using hu
        go_wp2
        go_meet
        exact ⟨by rw [HM.out, hu']; rfl, rfl⟩
  case rest =>
    obtain ⟨rfl, rfl⟩ := hcut
    clear HM ch
    obtain rfl := HMM.out
    have q0 := T2.box.q0; have q1 := T2.box.q1; have q2 := T2.box.q2; have g0 := T2.box.f0; have g1 := T2.box.f1; have g2 := T2.box.f2; have h0 := T2.res.q0; have h1 := T2.res.q1; have h2 := T2.res.q2; have f0 := T2.res.f0; have f1 := T2.res.f1; have f2 := T2.res.f2
    go_wp2
    obtain ⟨F1, F2, F3⟩ := T2.out (c' := c) st2
    have y0 := F3.q0
    have y1 := F3.q1
    have y2 := F3.q2
    exact bodyPost_ret (v := .tuple #[.agg #[.slice aL zL cL, .slice aR zR cR, .bool c], .int .i64 0]) (by simp [results, Tryz.results12, go_sem, y0, y1, y2]) rfl ⟨_, _, rfl, ⟨F1.l, F1.r⟩, F2⟩

set_option maxHeartbeats 1000000 in
set_option maxRecDepth 1000000 in
theorem RP_q4 (h : RefAt w L R s) (hm : s.ls.length ≤ 1000) (_hm2 : s.rs.length ≤ 1000) (t : Int) (id : Int) (hM : s.mine t id = true) :
    Calls Tryz.prog 12 #[rfV L R s.c, .int .i64 t, .int .i64 2, .int .u64 id, .int .i64 5] w fun x w' => BackF w (s, 17) x w' := by
  obtain ⟨w1, hw1⟩ : ∃ w1, w1 = (w.alloc (.cells #[L, R, .bool s.c] 43)).alloc (.cells #[.slice none 0 0, .slice none 0 0, .bool false] 43) := ⟨_, rfl⟩
  have T1 : TwoF w L R s.c w.heap.size w1 := by rw [hw1]; exact TwoF.start w L R s.c
  have st1 : RefAt w1 L R s := by rw [hw1]; exact (h.below (below_alloc _ _)).below (below_alloc _ _)
  have Kf : Aside (∀ {v : World}, Below w1.heap.size w1 v → TwoF w L R s.c w.heap.size v ∧ RefAt v L R s) := fun hb => ⟨T1.below hb, st1.below hb⟩
  have ch := rholder_calls st1 hm s.c id
  obtain ⟨M, hMM⟩ : ∃ M, s.mine t id = M := ⟨_, rfl⟩
  have hMe := mine_eq s t id
  rw [hMM] at hMe
  generalize (aget id s.ls).getD 0 = u at ch hMe
  generalize (aget id s.ls).isSome = ok at ch hMe
  have HM : Aside (M = (ok && (u == t))) := hMe
  clear hMe
  have HMM : Aside (M = true) := hMM.symm.trans hM
  clear hMM hM
  obtain ⟨aL, cL, hLs, _, _⟩ := own_shape h.l
  obtain ⟨aR, cR, hRs, _, _⟩ := own_shape h.r
  generalize s.ls.length = zL at hLs hm
  generalize s.rs.length = zR at hRs
  subst hLs hRs
  clear T1 st1 h
  subst hw1
  unfold BackF
  simp only
  generalize s.c = c at *
  go_enter Tryz.func12, Tryz.ntmps12
  go_upto_region 2 with (go_at_call 13; with_reducible refine ch.mono ?_; rintro x w2 ⟨hx, b2⟩; subst hx; obtain ⟨T2, st2⟩ := Kf.out b2)
  go_cut [14] (fun s14 wx => s14 = .bool M ∧ w2 = wx)
  case first =>
    clear ch Kf
    cases ok with
    | false =>
      go_wp2
      go_meet
      exact ⟨by rw [HM.out]; rfl, rfl⟩
    | true =>
      by_cases hu : u = t
      · have hu' : (u == t) = true := by simpa using hu
        go_wp2
        go_meet
        exact ⟨by rw [HM.out, hu']; rfl, rfl⟩
      · have hu' : (u == t) = false := by simpa using hu
        go_wp2
        go_meet
        exact ⟨by rw [HM.out, hu']; rfl, rfl⟩
  case rest =>
    obtain ⟨rfl, rfl⟩ := hcut
    clear HM ch
    obtain rfl := HMM.out
    have q0 := T2.box.q0; have q1 := T2.box.q1; have q2 := T2.box.q2; have g0 := T2.box.f0; have g1 := T2.box.f1; have g2 := T2.box.f2; have h0 := T2.res.q0; have h1 := T2.res.q1; have h2 := T2.res.q2; have f0 := T2.res.f0; have f1 := T2.res.f1; have f2 := T2.res.f2
    go_wp2
    obtain ⟨F1, F2, F3⟩ := T2.out (c' := c) st2
    have y0 := F3.q0
    have y1 := F3.q1
    have y2 := F3.q2
    exact bodyPost_ret (v := .tuple #[.agg #[.slice aL zL cL, .slice aR zR cR, .bool c], .int .i64 17]) (by simp [results, Tryz.results12, go_sem, y0, y1, y2]) rfl ⟨_, _, rfl, ⟨F1.l, F1.r⟩, F2⟩

set_option maxHeartbeats 1000000 in
set_option maxRecDepth 1000000 in
theorem RP_q5 (h : RefAt w L R s) (hm : s.ls.length ≤ 1000) (_hm2 : s.rs.length ≤ 1000) (t : Int) (e : Int) (id : Int) (h0 : (e == 0) = false) (h5 : (e == 5) = false) :
    Calls Tryz.prog 12 #[rfV L R s.c, .int .i64 t, .int .i64 2, .int .u64 id, .int .i64 e] w fun x w' => BackF w (s, 17) x w' := by
  obtain ⟨w1, hw1⟩ : ∃ w1, w1 = (w.alloc (.cells #[L, R, .bool s.c] 43)).alloc (.cells #[.slice none 0 0, .slice none 0 0, .bool false] 43) := ⟨_, rfl⟩
  have T1 : TwoF w L R s.c w.heap.size w1 := by rw [hw1]; exact TwoF.start w L R s.c
  have st1 : RefAt w1 L R s := by rw [hw1]; exact (h.below (below_alloc _ _)).below (below_alloc _ _)
  have Kf : Aside (∀ {v : World}, Below w1.heap.size w1 v → TwoF w L R s.c w.heap.size v ∧ RefAt v L R s) := fun hb => ⟨T1.below hb, st1.below hb⟩
  have ch := rholder_calls st1 hm s.c id
  obtain ⟨M, hMM⟩ : ∃ M, s.mine t id = M := ⟨_, rfl⟩
  have hMe := mine_eq s t id
  rw [hMM] at hMe
  generalize (aget id s.ls).getD 0 = u at ch hMe
  generalize (aget id s.ls).isSome = ok at ch hMe
  have HM : Aside (M = (ok && (u == t))) := hMe
  clear hMe
  clear hMM
  obtain ⟨aL, cL, hLs, _, _⟩ := own_shape h.l
  obtain ⟨aR, cR, hRs, _, _⟩ := own_shape h.r
  generalize s.ls.length = zL at hLs hm
  generalize s.rs.length = zR at hRs
  subst hLs hRs
  clear T1 st1 h
  subst hw1
  unfold BackF
  simp only
  generalize s.c = c at *
  go_enter Tryz.func12, Tryz.ntmps12
  go_upto_region 2 with (go_at_call 13; with_reducible refine ch.mono ?_; rintro x w2 ⟨hx, b2⟩; subst hx; obtain ⟨T2, st2⟩ := Kf.out b2)
  go_cut [14] (fun s14 wx => s14 = .bool M ∧ w2 = wx)
  case first =>
    clear ch Kf
    cases ok with
    | false =>
      go_wp2
      go_meet
      exact ⟨by rw [HM.out]; rfl, rfl⟩
    | true =>
      by_cases hu : u = t
      · have hu' : (u == t) = true := by simpa using hu
        go_wp2
        go_meet
        exact ⟨by rw [HM.out, hu']; rfl, rfl⟩
      · have hu' : (u == t) = false := by simpa using hu
        go_wp2
        go_meet
        exact ⟨by rw [HM.out, hu']; rfl, rfl⟩
  case rest =>
    obtain ⟨rfl, rfl⟩ := hcut
    clear HM ch
    skip
    have q0 := T2.box.q0; have q1 := T2.box.q1; have q2 := T2.box.q2; have g0 := T2.box.f0; have g1 := T2.box.f1; have g2 := T2.box.f2; have h0 := T2.res.q0; have h1 := T2.res.q1; have h2 := T2.res.q2; have f0 := T2.res.f0; have f1 := T2.res.f1; have f2 := T2.res.f2
    go_wp2
    obtain ⟨F1, F2, F3⟩ := T2.out (c' := c) st2
    have y0 := F3.q0
    have y1 := F3.q1
    have y2 := F3.q2
    exact bodyPost_ret (v := .tuple #[.agg #[.slice aL zL cL, .slice aR zR cR, .bool c], .int .i64 17]) (by simp [results, Tryz.results12, go_sem, y0, y1, y2]) rfl ⟨_, _, rfl, ⟨F1.l, F1.r⟩, F2⟩

set_option maxHeartbeats 1000000 in
set_option maxRecDepth 1000000 in
theorem RP_s1 (h : RefAt w L R s) (hm : s.ls.length ≤ 1000) (_hm2 : s.rs.length ≤ 1000) (t : Int) (e : Int) (id : Int) (hi : (id == 0) = false) :
    Calls Tryz.prog 12 #[rfV L R s.c, .int .i64 t, .int .i64 3, .int .u64 id, .int .i64 e] w fun x w' => BackF w (s, 17) x w' := by
  obtain ⟨w1, hw1⟩ : ∃ w1, w1 = (w.alloc (.cells #[L, R, .bool s.c] 43)).alloc (.cells #[.slice none 0 0, .slice none 0 0, .bool false] 43) := ⟨_, rfl⟩
  have T1 : TwoF w L R s.c w.heap.size w1 := by rw [hw1]; exact TwoF.start w L R s.c
  have st1 : RefAt w1 L R s := by rw [hw1]; exact (h.below (below_alloc _ _)).below (below_alloc _ _)
  have Kf : Aside (∀ {v : World}, Below w1.heap.size w1 v → TwoF w L R s.c w.heap.size v ∧ RefAt v L R s) := fun hb => ⟨T1.below hb, st1.below hb⟩
  have ch := rholder_calls st1 hm s.c id
  obtain ⟨M, hMM⟩ : ∃ M, s.mine t id = M := ⟨_, rfl⟩
  have hMe := mine_eq s t id
  rw [hMM] at hMe
  generalize (aget id s.ls).getD 0 = u at ch hMe
  generalize (aget id s.ls).isSome = ok at ch hMe
  have HM : Aside (M = (ok && (u == t))) := hMe
  clear hMe
  clear hMM
  obtain ⟨aL, cL, hLs, _, _⟩ := own_shape h.l
  obtain ⟨aR, cR, hRs, _, _⟩ := own_shape h.r
  generalize s.ls.length = zL at hLs hm
  generalize s.rs.length = zR at hRs
  subst hLs hRs
  clear T1 st1 h
  subst hw1
  unfold BackF
  simp only
  generalize s.c = c at *
  go_enter Tryz.func12, Tryz.ntmps12
  go_upto_region 2 with (go_at_call 13; with_reducible refine ch.mono ?_; rintro x w2 ⟨hx, b2⟩; subst hx; obtain ⟨T2, st2⟩ := Kf.out b2)
  go_cut [14] (fun s14 wx => s14 = .bool M ∧ w2 = wx)
  case first =>
    clear ch Kf
    cases ok with
    | false =>
      go_wp2
      go_meet
      exact ⟨by rw [HM.out]; rfl, rfl⟩
    | true =>
      by_cases hu : u = t
      · have hu' : (u == t) = true := by simpa using hu
        go_wp2
        go_meet
        exact ⟨by rw [HM.out, hu']; rfl, rfl⟩
      · have hu' : (u == t) = false := by simpa using hu
        go_wp2
        go_meet
        exact ⟨by rw [HM.out, hu']; rfl, rfl⟩
  case rest =>
    obtain ⟨rfl, rfl⟩ := hcut
    clear HM ch
    skip
    have q0 := T2.box.q0; have q1 := T2.box.q1; have q2 := T2.box.q2; have g0 := T2.box.f0; have g1 := T2.box.f1; have g2 := T2.box.f2; have h0 := T2.res.q0; have h1 := T2.res.q1; have h2 := T2.res.q2; have f0 := T2.res.f0; have f1 := T2.res.f1; have f2 := T2.res.f2
    go_wp2
    obtain ⟨F1, F2, F3⟩ := T2.out (c' := c) st2
    have y0 := F3.q0
    have y1 := F3.q1
    have y2 := F3.q2
    exact bodyPost_ret (v := .tuple #[.agg #[.slice aL zL cL, .slice aR zR cR, .bool c], .int .i64 17]) (by simp [results, Tryz.results12, go_sem, y0, y1, y2]) rfl ⟨_, _, rfl, ⟨F1.l, F1.r⟩, F2⟩

set_option maxHeartbeats 1000000 in
set_option maxRecDepth 1000000 in
theorem RP_s2 (h : RefAt w L R s) (hm : s.ls.length ≤ 1000) (_hm2 : s.rs.length ≤ 1000) (t : Int) (hc : s.c = false) :
    Calls Tryz.prog 12 #[rfV L R s.c, .int .i64 t, .int .i64 3, .int .u64 0, .int .i64 0] w fun x w' => BackF w ({ s with c := true }, 0) x w' := by
  obtain ⟨w1, hw1⟩ : ∃ w1, w1 = (w.alloc (.cells #[L, R, .bool s.c] 43)).alloc (.cells #[.slice none 0 0, .slice none 0 0, .bool false] 43) := ⟨_, rfl⟩
  have T1 : TwoF w L R s.c w.heap.size w1 := by rw [hw1]; exact TwoF.start w L R s.c
  have st1 : RefAt w1 L R s := by rw [hw1]; exact (h.below (below_alloc _ _)).below (below_alloc _ _)
  have Kf : Aside (∀ {v : World}, Below w1.heap.size w1 v → TwoF w L R s.c w.heap.size v ∧ RefAt v L R s) := fun hb => ⟨T1.below hb, st1.below hb⟩
  have ch := rholder_calls st1 hm s.c 0
  obtain ⟨M, hMM⟩ : ∃ M, s.mine t 0 = M := ⟨_, rfl⟩
  have hMe := mine_eq s t 0
  rw [hMM] at hMe
  generalize (aget 0 s.ls).getD 0 = u at ch hMe
  generalize (aget 0 s.ls).isSome = ok at ch hMe
  have HM : Aside (M = (ok && (u == t))) := hMe
  clear hMe
  clear hMM
  obtain ⟨aL, cL, hLs, _, _⟩ := own_shape h.l
  obtain ⟨aR, cR, hRs, _, _⟩ := own_shape h.r
  generalize s.ls.length = zL at hLs hm
  generalize s.rs.length = zR at hRs
  subst hLs hRs
  clear T1 st1 h
  subst hw1
  unfold BackF
  simp only
  generalize s.c = c at *
  subst hc
  go_enter Tryz.func12, Tryz.ntmps12
  go_upto_region 2 with (go_at_call 13; with_reducible refine ch.mono ?_; rintro x w2 ⟨hx, b2⟩; subst hx; obtain ⟨T2, st2⟩ := Kf.out b2)
  go_cut [14] (fun s14 wx => s14 = .bool M ∧ w2 = wx)
  case first =>
    clear ch Kf
    cases ok with
    | false =>
      go_wp2
      go_meet
      exact ⟨by rw [HM.out]; rfl, rfl⟩
    | true =>
      by_cases hu : u = t
      · have hu' : (u == t) = true := by simpa using hu
        go_wp2
        go_meet
        exact ⟨by rw [HM.out, hu']; rfl, rfl⟩
      · have hu' : (u == t) = false := by simpa using hu
        go_wp2
        go_meet
        exact ⟨by rw [HM.out, hu']; rfl, rfl⟩
  case rest =>
    obtain ⟨rfl, rfl⟩ := hcut
    clear HM ch
    skip
    have q0 := T2.box.q0; have q1 := T2.box.q1; have q2 := T2.box.q2; have g0 := T2.box.f0; have g1 := T2.box.f1; have g2 := T2.box.f2; have h0 := T2.res.q0; have h1 := T2.res.q1; have h2 := T2.res.q2; have f0 := T2.res.f0; have f1 := T2.res.f1; have f2 := T2.res.f2
    go_wp2
    have T3 := T2.put2 true
    have st3 := st2.off T2.box 2 (.bool true)
    obtain ⟨F1, F2, F3⟩ := T3.out (c' := true) st3
    have y0 := F3.q0
    have y1 := F3.q1
    have y2 := F3.q2
    exact bodyPost_ret (v := .tuple #[.agg #[.slice aL zL cL, .slice aR zR cR, .bool true], .int .i64 0]) (by simp [results, Tryz.results12, go_sem, y0, y1, y2]) rfl ⟨_, _, rfl, ⟨F1.l, F1.r⟩, F2⟩

set_option maxHeartbeats 1000000 in
set_option maxRecDepth 1000000 in
theorem RP_s3 (h : RefAt w L R s) (hm : s.ls.length ≤ 1000) (_hm2 : s.rs.length ≤ 1000) (t : Int) (hc : s.c = true) :
    Calls Tryz.prog 12 #[rfV L R s.c, .int .i64 t, .int .i64 3, .int .u64 0, .int .i64 0] w fun x w' => BackF w (s, 17) x w' := by
  obtain ⟨w1, hw1⟩ : ∃ w1, w1 = (w.alloc (.cells #[L, R, .bool s.c] 43)).alloc (.cells #[.slice none 0 0, .slice none 0 0, .bool false] 43) := ⟨_, rfl⟩
  have T1 : TwoF w L R s.c w.heap.size w1 := by rw [hw1]; exact TwoF.start w L R s.c
  have st1 : RefAt w1 L R s := by rw [hw1]; exact (h.below (below_alloc _ _)).below (below_alloc _ _)
  have Kf : Aside (∀ {v : World}, Below w1.heap.size w1 v → TwoF w L R s.c w.heap.size v ∧ RefAt v L R s) := fun hb => ⟨T1.below hb, st1.below hb⟩
  have ch := rholder_calls st1 hm s.c 0
  obtain ⟨M, hMM⟩ : ∃ M, s.mine t 0 = M := ⟨_, rfl⟩
  have hMe := mine_eq s t 0
  rw [hMM] at hMe
  generalize (aget 0 s.ls).getD 0 = u at ch hMe
  generalize (aget 0 s.ls).isSome = ok at ch hMe
  have HM : Aside (M = (ok && (u == t))) := hMe
  clear hMe
  clear hMM
  obtain ⟨aL, cL, hLs, _, _⟩ := own_shape h.l
  obtain ⟨aR, cR, hRs, _, _⟩ := own_shape h.r
  generalize s.ls.length = zL at hLs hm
  generalize s.rs.length = zR at hRs
  subst hLs hRs
  clear T1 st1 h
  subst hw1
  unfold BackF
  simp only
  generalize s.c = c at *
  subst hc
  go_enter Tryz.func12, Tryz.ntmps12
  go_upto_region 2 with (go_at_call 13; with_reducible refine ch.mono ?_; rintro x w2 ⟨hx, b2⟩; subst hx; obtain ⟨T2, st2⟩ := Kf.out b2)
  go_cut [14] (fun s14 wx => s14 = .bool M ∧ w2 = wx)
  case first =>
    clear ch Kf
    cases ok with
    | false =>
      go_wp2
      go_meet
      exact ⟨by rw [HM.out]; rfl, rfl⟩
    | true =>
      by_cases hu : u = t
      · have hu' : (u == t) = true := by simpa using hu
        go_wp2
        go_meet
        exact ⟨by rw [HM.out, hu']; rfl, rfl⟩
      · have hu' : (u == t) = false := by simpa using hu
        go_wp2
        go_meet
        exact ⟨by rw [HM.out, hu']; rfl, rfl⟩
  case rest =>
    obtain ⟨rfl, rfl⟩ := hcut
    clear HM ch
    skip
    have q0 := T2.box.q0; have q1 := T2.box.q1; have q2 := T2.box.q2; have g0 := T2.box.f0; have g1 := T2.box.f1; have g2 := T2.box.f2; have h0 := T2.res.q0; have h1 := T2.res.q1; have h2 := T2.res.q2; have f0 := T2.res.f0; have f1 := T2.res.f1; have f2 := T2.res.f2
    go_wp2
    obtain ⟨F1, F2, F3⟩ := T2.out (c' := true) st2
    have y0 := F3.q0
    have y1 := F3.q1
    have y2 := F3.q2
    exact bodyPost_ret (v := .tuple #[.agg #[.slice aL zL cL, .slice aR zR cR, .bool true], .int .i64 17]) (by simp [results, Tryz.results12, go_sem, y0, y1, y2]) rfl ⟨_, _, rfl, ⟨F1.l, F1.r⟩, F2⟩

set_option maxHeartbeats 1000000 in
set_option maxRecDepth 1000000 in
theorem RP_s4 (h : RefAt w L R s) (hm : s.ls.length ≤ 1000) (_hm2 : s.rs.length ≤ 1000) (t : Int) (hc : s.c = true) :
    Calls Tryz.prog 12 #[rfV L R s.c, .int .i64 t, .int .i64 3, .int .u64 0, .int .i64 6] w fun x w' => BackF w ({ s with c := true }, 0) x w' := by
  obtain ⟨w1, hw1⟩ : ∃ w1, w1 = (w.alloc (.cells #[L, R, .bool s.c] 43)).alloc (.cells #[.slice none 0 0, .slice none 0 0, .bool false] 43) := ⟨_, rfl⟩
  have T1 : TwoF w L R s.c w.heap.size w1 := by rw [hw1]; exact TwoF.start w L R s.c
  have st1 : RefAt w1 L R s := by rw [hw1]; exact (h.below (below_alloc _ _)).below (below_alloc _ _)
  have Kf : Aside (∀ {v : World}, Below w1.heap.size w1 v → TwoF w L R s.c w.heap.size v ∧ RefAt v L R s) := fun hb => ⟨T1.below hb, st1.below hb⟩
  have ch := rholder_calls st1 hm s.c 0
  obtain ⟨M, hMM⟩ : ∃ M, s.mine t 0 = M := ⟨_, rfl⟩
  have hMe := mine_eq s t 0
  rw [hMM] at hMe
  generalize (aget 0 s.ls).getD 0 = u at ch hMe
  generalize (aget 0 s.ls).isSome = ok at ch hMe
  have HM : Aside (M = (ok && (u == t))) := hMe
  clear hMe
  clear hMM
  obtain ⟨aL, cL, hLs, _, _⟩ := own_shape h.l
  obtain ⟨aR, cR, hRs, _, _⟩ := own_shape h.r
  generalize s.ls.length = zL at hLs hm
  generalize s.rs.length = zR at hRs
  subst hLs hRs
  clear T1 st1 h
  subst hw1
  unfold BackF
  simp only
  generalize s.c = c at *
  subst hc
  go_enter Tryz.func12, Tryz.ntmps12
  go_upto_region 2 with (go_at_call 13; with_reducible refine ch.mono ?_; rintro x w2 ⟨hx, b2⟩; subst hx; obtain ⟨T2, st2⟩ := Kf.out b2)
  go_cut [14] (fun s14 wx => s14 = .bool M ∧ w2 = wx)
  case first =>
    clear ch Kf
    cases ok with
    | false =>
      go_wp2
      go_meet
      exact ⟨by rw [HM.out]; rfl, rfl⟩
    | true =>
      by_cases hu : u = t
      · have hu' : (u == t) = true := by simpa using hu
        go_wp2
        go_meet
        exact ⟨by rw [HM.out, hu']; rfl, rfl⟩
      · have hu' : (u == t) = false := by simpa using hu
        go_wp2
        go_meet
        exact ⟨by rw [HM.out, hu']; rfl, rfl⟩
  case rest =>
    obtain ⟨rfl, rfl⟩ := hcut
    clear HM ch
    skip
    have q0 := T2.box.q0; have q1 := T2.box.q1; have q2 := T2.box.q2; have g0 := T2.box.f0; have g1 := T2.box.f1; have g2 := T2.box.f2; have h0 := T2.res.q0; have h1 := T2.res.q1; have h2 := T2.res.q2; have f0 := T2.res.f0; have f1 := T2.res.f1; have f2 := T2.res.f2
    go_wp2
    have T3 := T2.put2 true
    have st3 := st2.off T2.box 2 (.bool true)
    obtain ⟨F1, F2, F3⟩ := T3.out (c' := true) st3
    have y0 := F3.q0
    have y1 := F3.q1
    have y2 := F3.q2
    exact bodyPost_ret (v := .tuple #[.agg #[.slice aL zL cL, .slice aR zR cR, .bool true], .int .i64 0]) (by simp [results, Tryz.results12, go_sem, y0, y1, y2]) rfl ⟨_, _, rfl, ⟨F1.l, F1.r⟩, F2⟩

set_option maxHeartbeats 1000000 in
set_option maxRecDepth 1000000 in
theorem RP_s5 (h : RefAt w L R s) (hm : s.ls.length ≤ 1000) (_hm2 : s.rs.length ≤ 1000) (t : Int) (hc : s.c = false) :
    Calls Tryz.prog 12 #[rfV L R s.c, .int .i64 t, .int .i64 3, .int .u64 0, .int .i64 6] w fun x w' => BackF w (s, 17) x w' := by
  obtain ⟨w1, hw1⟩ : ∃ w1, w1 = (w.alloc (.cells #[L, R, .bool s.c] 43)).alloc (.cells #[.slice none 0 0, .slice none 0 0, .bool false] 43) := ⟨_, rfl⟩
  have T1 : TwoF w L R s.c w.heap.size w1 := by rw [hw1]; exact TwoF.start w L R s.c
  have st1 : RefAt w1 L R s := by rw [hw1]; exact (h.below (below_alloc _ _)).below (below_alloc _ _)
  have Kf : Aside (∀ {v : World}, Below w1.heap.size w1 v → TwoF w L R s.c w.heap.size v ∧ RefAt v L R s) := fun hb => ⟨T1.below hb, st1.below hb⟩
  have ch := rholder_calls st1 hm s.c 0
  obtain ⟨M, hMM⟩ : ∃ M, s.mine t 0 = M := ⟨_, rfl⟩
  have hMe := mine_eq s t 0
  rw [hMM] at hMe
  generalize (aget 0 s.ls).getD 0 = u at ch hMe
  generalize (aget 0 s.ls).isSome = ok at ch hMe
  have HM : Aside (M = (ok && (u == t))) := hMe
  clear hMe
  clear hMM
  obtain ⟨aL, cL, hLs, _, _⟩ := own_shape h.l
  obtain ⟨aR, cR, hRs, _, _⟩ := own_shape h.r
  generalize s.ls.length = zL at hLs hm
  generalize s.rs.length = zR at hRs
  subst hLs hRs
  clear T1 st1 h
  subst hw1
  unfold BackF
  simp only
  generalize s.c = c at *
  subst hc
  go_enter Tryz.func12, Tryz.ntmps12
  go_upto_region 2 with (go_at_call 13; with_reducible refine ch.mono ?_; rintro x w2 ⟨hx, b2⟩; subst hx; obtain ⟨T2, st2⟩ := Kf.out b2)
  go_cut [14] (fun s14 wx => s14 = .bool M ∧ w2 = wx)
  case first =>
    clear ch Kf
    cases ok with
    | false =>
      go_wp2
      go_meet
      exact ⟨by rw [HM.out]; rfl, rfl⟩
    | true =>
      by_cases hu : u = t
      · have hu' : (u == t) = true := by simpa using hu
        go_wp2
        go_meet
        exact ⟨by rw [HM.out, hu']; rfl, rfl⟩
      · have hu' : (u == t) = false := by simpa using hu
        go_wp2
        go_meet
        exact ⟨by rw [HM.out, hu']; rfl, rfl⟩
  case rest =>
    obtain ⟨rfl, rfl⟩ := hcut
    clear HM ch
    skip
    have q0 := T2.box.q0; have q1 := T2.box.q1; have q2 := T2.box.q2; have g0 := T2.box.f0; have g1 := T2.box.f1; have g2 := T2.box.f2; have h0 := T2.res.q0; have h1 := T2.res.q1; have h2 := T2.res.q2; have f0 := T2.res.f0; have f1 := T2.res.f1; have f2 := T2.res.f2
    go_wp2
    obtain ⟨F1, F2, F3⟩ := T2.out (c' := false) st2
    have y0 := F3.q0
    have y1 := F3.q1
    have y2 := F3.q2
    exact bodyPost_ret (v := .tuple #[.agg #[.slice aL zL cL, .slice aR zR cR, .bool false], .int .i64 17]) (by simp [results, Tryz.results12, go_sem, y0, y1, y2]) rfl ⟨_, _, rfl, ⟨F1.l, F1.r⟩, F2⟩

set_option maxHeartbeats 1000000 in
set_option maxRecDepth 1000000 in
theorem RP_s6 (h : RefAt w L R s) (hm : s.ls.length ≤ 1000) (_hm2 : s.rs.length ≤ 1000) (t : Int) (e : Int) (h0 : (e == 0) = false) (h6 : (e == 6) = false) :
    Calls Tryz.prog 12 #[rfV L R s.c, .int .i64 t, .int .i64 3, .int .u64 0, .int .i64 e] w fun x w' => BackF w (s, 17) x w' := by
  obtain ⟨w1, hw1⟩ : ∃ w1, w1 = (w.alloc (.cells #[L, R, .bool s.c] 43)).alloc (.cells #[.slice none 0 0, .slice none 0 0, .bool false] 43) := ⟨_, rfl⟩
  have T1 : TwoF w L R s.c w.heap.size w1 := by rw [hw1]; exact TwoF.start w L R s.c
  have st1 : RefAt w1 L R s := by rw [hw1]; exact (h.below (below_alloc _ _)).below (below_alloc _ _)
  have Kf : Aside (∀ {v : World}, Below w1.heap.size w1 v → TwoF w L R s.c w.heap.size v ∧ RefAt v L R s) := fun hb => ⟨T1.below hb, st1.below hb⟩
  have ch := rholder_calls st1 hm s.c 0
  obtain ⟨M, hMM⟩ : ∃ M, s.mine t 0 = M := ⟨_, rfl⟩
  have hMe := mine_eq s t 0
  rw [hMM] at hMe
  generalize (aget 0 s.ls).getD 0 = u at ch hMe
  generalize (aget 0 s.ls).isSome = ok at ch hMe
  have HM : Aside (M = (ok && (u == t))) := hMe
  clear hMe
  clear hMM
  obtain ⟨aL, cL, hLs, _, _⟩ := own_shape h.l
  obtain ⟨aR, cR, hRs, _, _⟩ := own_shape h.r
  generalize s.ls.length = zL at hLs hm
  generalize s.rs.length = zR at hRs
  subst hLs hRs
  clear T1 st1 h
  subst hw1
  unfold BackF
  simp only
  generalize s.c = c at *
  go_enter Tryz.func12, Tryz.ntmps12
  go_upto_region 2 with (go_at_call 13; with_reducible refine ch.mono ?_; rintro x w2 ⟨hx, b2⟩; subst hx; obtain ⟨T2, st2⟩ := Kf.out b2)
  go_cut [14] (fun s14 wx => s14 = .bool M ∧ w2 = wx)
  case first =>
    clear ch Kf
    cases ok with
    | false =>
      go_wp2
      go_meet
      exact ⟨by rw [HM.out]; rfl, rfl⟩
    | true =>
      by_cases hu : u = t
      · have hu' : (u == t) = true := by simpa using hu
        go_wp2
        go_meet
        exact ⟨by rw [HM.out, hu']; rfl, rfl⟩
      · have hu' : (u == t) = false := by simpa using hu
        go_wp2
        go_meet
        exact ⟨by rw [HM.out, hu']; rfl, rfl⟩
  case rest =>
    obtain ⟨rfl, rfl⟩ := hcut
    clear HM ch
    skip
    have q0 := T2.box.q0; have q1 := T2.box.q1; have q2 := T2.box.q2; have g0 := T2.box.f0; have g1 := T2.box.f1; have g2 := T2.box.f2; have h0 := T2.res.q0; have h1 := T2.res.q1; have h2 := T2.res.q2; have f0 := T2.res.f0; have f1 := T2.res.f1; have f2 := T2.res.f2
    go_wp2
    obtain ⟨F1, F2, F3⟩ := T2.out (c' := c) st2
    have y0 := F3.q0
    have y1 := F3.q1
    have y2 := F3.q2
    exact bodyPost_ret (v := .tuple #[.agg #[.slice aL zL cL, .slice aR zR cR, .bool c], .int .i64 17]) (by simp [results, Tryz.results12, go_sem, y0, y1, y2]) rfl ⟨_, _, rfl, ⟨F1.l, F1.r⟩, F2⟩

set_option maxHeartbeats 1000000 in
set_option maxRecDepth 1000000 in
theorem RP_h1 (h : RefAt w L R s) (hm : s.ls.length ≤ 1000) (_hm2 : s.rs.length ≤ 1000) (t : Int) :
    Calls Tryz.prog 12 #[rfV L R s.c, .int .i64 t, .int .i64 4, .int .u64 0, .int .i64 0] w fun x w' => BackF w (s, 0) x w' := by
  obtain ⟨w1, hw1⟩ : ∃ w1, w1 = (w.alloc (.cells #[L, R, .bool s.c] 43)).alloc (.cells #[.slice none 0 0, .slice none 0 0, .bool false] 43) := ⟨_, rfl⟩
  have T1 : TwoF w L R s.c w.heap.size w1 := by rw [hw1]; exact TwoF.start w L R s.c
  have st1 : RefAt w1 L R s := by rw [hw1]; exact (h.below (below_alloc _ _)).below (below_alloc _ _)
  have Kf : Aside (∀ {v : World}, Below w1.heap.size w1 v → TwoF w L R s.c w.heap.size v ∧ RefAt v L R s) := fun hb => ⟨T1.below hb, st1.below hb⟩
  have ch := rholder_calls st1 hm s.c 0
  obtain ⟨M, hMM⟩ : ∃ M, s.mine t 0 = M := ⟨_, rfl⟩
  have hMe := mine_eq s t 0
  rw [hMM] at hMe
  generalize (aget 0 s.ls).getD 0 = u at ch hMe
  generalize (aget 0 s.ls).isSome = ok at ch hMe
  have HM : Aside (M = (ok && (u == t))) := hMe
  clear hMe
  clear hMM
  obtain ⟨aL, cL, hLs, _, _⟩ := own_shape h.l
  obtain ⟨aR, cR, hRs, _, _⟩ := own_shape h.r
  generalize s.ls.length = zL at hLs hm
  generalize s.rs.length = zR at hRs
  subst hLs hRs
  clear T1 st1 h
  subst hw1
  unfold BackF
  simp only
  generalize s.c = c at *
  go_enter Tryz.func12, Tryz.ntmps12
  go_upto_region 2 with (go_at_call 13; with_reducible refine ch.mono ?_; rintro x w2 ⟨hx, b2⟩; subst hx; obtain ⟨T2, st2⟩ := Kf.out b2)
  go_cut [14] (fun s14 wx => s14 = .bool M ∧ w2 = wx)
  case first =>
    clear ch Kf
    cases ok with
    | false =>
      go_wp2
      go_meet
      exact ⟨by rw [HM.out]; rfl, rfl⟩
    | true =>
      by_cases hu : u = t
      · have hu' : (u == t) = true := by simpa using hu
        go_wp2
        go_meet
        exact ⟨by rw [HM.out, hu']; rfl, rfl⟩
      · have hu' : (u == t) = false := by simpa using hu
        go_wp2
        go_meet
        exact ⟨by rw [HM.out, hu']; rfl, rfl⟩
  case rest =>
    obtain ⟨rfl, rfl⟩ := hcut
    clear HM ch
    skip
    have q0 := T2.box.q0; have q1 := T2.box.q1; have q2 := T2.box.q2; have g0 := T2.box.f0; have g1 := T2.box.f1; have g2 := T2.box.f2; have h0 := T2.res.q0; have h1 := T2.res.q1; have h2 := T2.res.q2; have f0 := T2.res.f0; have f1 := T2.res.f1; have f2 := T2.res.f2
    go_wp2
    obtain ⟨F1, F2, F3⟩ := T2.out (c' := c) st2
    have y0 := F3.q0
    have y1 := F3.q1
    have y2 := F3.q2
    exact bodyPost_ret (v := .tuple #[.agg #[.slice aL zL cL, .slice aR zR cR, .bool c], .int .i64 0]) (by simp [results, Tryz.results12, go_sem, y0, y1, y2]) rfl ⟨_, _, rfl, ⟨F1.l, F1.r⟩, F2⟩

set_option maxHeartbeats 1000000 in
set_option maxRecDepth 1000000 in
theorem RP_h2 (h : RefAt w L R s) (hm : s.ls.length ≤ 1000) (_hm2 : s.rs.length ≤ 1000) (t : Int) (id : Int) (hi : (id == 0) = false) :
    Calls Tryz.prog 12 #[rfV L R s.c, .int .i64 t, .int .i64 4, .int .u64 id, .int .i64 0] w fun x w' => BackF w (s, 17) x w' := by
  obtain ⟨w1, hw1⟩ : ∃ w1, w1 = (w.alloc (.cells #[L, R, .bool s.c] 43)).alloc (.cells #[.slice none 0 0, .slice none 0 0, .bool false] 43) := ⟨_, rfl⟩
  have T1 : TwoF w L R s.c w.heap.size w1 := by rw [hw1]; exact TwoF.start w L R s.c
  have st1 : RefAt w1 L R s := by rw [hw1]; exact (h.below (below_alloc _ _)).below (below_alloc _ _)
  have Kf : Aside (∀ {v : World}, Below w1.heap.size w1 v → TwoF w L R s.c w.heap.size v ∧ RefAt v L R s) := fun hb => ⟨T1.below hb, st1.below hb⟩
  have ch := rholder_calls st1 hm s.c id
  obtain ⟨M, hMM⟩ : ∃ M, s.mine t id = M := ⟨_, rfl⟩
  have hMe := mine_eq s t id
  rw [hMM] at hMe
  generalize (aget id s.ls).getD 0 = u at ch hMe
  generalize (aget id s.ls).isSome = ok at ch hMe
  have HM : Aside (M = (ok && (u == t))) := hMe
  clear hMe
  clear hMM
  obtain ⟨aL, cL, hLs, _, _⟩ := own_shape h.l
  obtain ⟨aR, cR, hRs, _, _⟩ := own_shape h.r
  generalize s.ls.length = zL at hLs hm
  generalize s.rs.length = zR at hRs
  subst hLs hRs
  clear T1 st1 h
  subst hw1
  unfold BackF
  simp only
  generalize s.c = c at *
  go_enter Tryz.func12, Tryz.ntmps12
  go_upto_region 2 with (go_at_call 13; with_reducible refine ch.mono ?_; rintro x w2 ⟨hx, b2⟩; subst hx; obtain ⟨T2, st2⟩ := Kf.out b2)
  go_cut [14] (fun s14 wx => s14 = .bool M ∧ w2 = wx)
  case first =>
    clear ch Kf
    cases ok with
    | false =>
      go_wp2
      go_meet
      exact ⟨by rw [HM.out]; rfl, rfl⟩
    | true =>
      by_cases hu : u = t
      · have hu' : (u == t) = true := by simpa using hu
        go_wp2
        go_meet
        exact ⟨by rw [HM.out, hu']; rfl, rfl⟩
      · have hu' : (u == t) = false := by simpa using hu
        go_wp2
        go_meet
        exact ⟨by rw [HM.out, hu']; rfl, rfl⟩
  case rest =>
    obtain ⟨rfl, rfl⟩ := hcut
    clear HM ch
    skip
    have q0 := T2.box.q0; have q1 := T2.box.q1; have q2 := T2.box.q2; have g0 := T2.box.f0; have g1 := T2.box.f1; have g2 := T2.box.f2; have h0 := T2.res.q0; have h1 := T2.res.q1; have h2 := T2.res.q2; have f0 := T2.res.f0; have f1 := T2.res.f1; have f2 := T2.res.f2
    go_wp2
    obtain ⟨F1, F2, F3⟩ := T2.out (c' := c) st2
    have y0 := F3.q0
    have y1 := F3.q1
    have y2 := F3.q2
    exact bodyPost_ret (v := .tuple #[.agg #[.slice aL zL cL, .slice aR zR cR, .bool c], .int .i64 17]) (by simp [results, Tryz.results12, go_sem, y0, y1, y2]) rfl ⟨_, _, rfl, ⟨F1.l, F1.r⟩, F2⟩

set_option maxHeartbeats 1000000 in
set_option maxRecDepth 1000000 in
theorem RP_h3 (h : RefAt w L R s) (hm : s.ls.length ≤ 1000) (_hm2 : s.rs.length ≤ 1000) (t : Int) (e : Int) (id : Int) (h0 : (e == 0) = false) :
    Calls Tryz.prog 12 #[rfV L R s.c, .int .i64 t, .int .i64 4, .int .u64 id, .int .i64 e] w fun x w' => BackF w (s, 17) x w' := by
  obtain ⟨w1, hw1⟩ : ∃ w1, w1 = (w.alloc (.cells #[L, R, .bool s.c] 43)).alloc (.cells #[.slice none 0 0, .slice none 0 0, .bool false] 43) := ⟨_, rfl⟩
  have T1 : TwoF w L R s.c w.heap.size w1 := by rw [hw1]; exact TwoF.start w L R s.c
  have st1 : RefAt w1 L R s := by rw [hw1]; exact (h.below (below_alloc _ _)).below (below_alloc _ _)
  have Kf : Aside (∀ {v : World}, Below w1.heap.size w1 v → TwoF w L R s.c w.heap.size v ∧ RefAt v L R s) := fun hb => ⟨T1.below hb, st1.below hb⟩
  have ch := rholder_calls st1 hm s.c id
  obtain ⟨M, hMM⟩ : ∃ M, s.mine t id = M := ⟨_, rfl⟩
  have hMe := mine_eq s t id
  rw [hMM] at hMe
  generalize (aget id s.ls).getD 0 = u at ch hMe
  generalize (aget id s.ls).isSome = ok at ch hMe
  have HM : Aside (M = (ok && (u == t))) := hMe
  clear hMe
  clear hMM
  obtain ⟨aL, cL, hLs, _, _⟩ := own_shape h.l
  obtain ⟨aR, cR, hRs, _, _⟩ := own_shape h.r
  generalize s.ls.length = zL at hLs hm
  generalize s.rs.length = zR at hRs
  subst hLs hRs
  clear T1 st1 h
  subst hw1
  unfold BackF
  simp only
  generalize s.c = c at *
  go_enter Tryz.func12, Tryz.ntmps12
  go_upto_region 2 with (go_at_call 13; with_reducible refine ch.mono ?_; rintro x w2 ⟨hx, b2⟩; subst hx; obtain ⟨T2, st2⟩ := Kf.out b2)
  go_cut [14] (fun s14 wx => s14 = .bool M ∧ w2 = wx)
  case first =>
    clear ch Kf
    cases ok with
    | false =>
      go_wp2
      go_meet
      exact ⟨by rw [HM.out]; rfl, rfl⟩
    | true =>
      by_cases hu : u = t
      · have hu' : (u == t) = true := by simpa using hu
        go_wp2
        go_meet
        exact ⟨by rw [HM.out, hu']; rfl, rfl⟩
      · have hu' : (u == t) = false := by simpa using hu
        go_wp2
        go_meet
        exact ⟨by rw [HM.out, hu']; rfl, rfl⟩
  case rest =>
    obtain ⟨rfl, rfl⟩ := hcut
    clear HM ch
    skip
    have q0 := T2.box.q0; have q1 := T2.box.q1; have q2 := T2.box.q2; have g0 := T2.box.f0; have g1 := T2.box.f1; have g2 := T2.box.f2; have h0 := T2.res.q0; have h1 := T2.res.q1; have h2 := T2.res.q2; have f0 := T2.res.f0; have f1 := T2.res.f1; have f2 := T2.res.f2
    go_wp2
    obtain ⟨F1, F2, F3⟩ := T2.out (c' := c) st2
    have y0 := F3.q0
    have y1 := F3.q1
    have y2 := F3.q2
    exact bodyPost_ret (v := .tuple #[.agg #[.slice aL zL cL, .slice aR zR cR, .bool c], .int .i64 17]) (by simp [results, Tryz.results12, go_sem, y0, y1, y2]) rfl ⟨_, _, rfl, ⟨F1.l, F1.r⟩, F2⟩

set_option maxHeartbeats 1000000 in
set_option maxRecDepth 1000000 in
theorem RP_o1 (h : RefAt w L R s) (hm : s.ls.length ≤ 1000) (_hm2 : s.rs.length ≤ 1000) (t : Int) (e : Int) (op : Int) (id : Int) (n0 : (op == 0) = false) (n1 : (op == 1) = false) (n2 : (op == 2) = false) (n3 : (op == 3) = false) (n4 : (op == 4) = false) :
    Calls Tryz.prog 12 #[rfV L R s.c, .int .i64 t, .int .i64 op, .int .u64 id, .int .i64 e] w fun x w' => BackF w (s, 17) x w' := by
  obtain ⟨w1, hw1⟩ : ∃ w1, w1 = (w.alloc (.cells #[L, R, .bool s.c] 43)).alloc (.cells #[.slice none 0 0, .slice none 0 0, .bool false] 43) := ⟨_, rfl⟩
  have T1 : TwoF w L R s.c w.heap.size w1 := by rw [hw1]; exact TwoF.start w L R s.c
  have st1 : RefAt w1 L R s := by rw [hw1]; exact (h.below (below_alloc _ _)).below (below_alloc _ _)
  have Kf : Aside (∀ {v : World}, Below w1.heap.size w1 v → TwoF w L R s.c w.heap.size v ∧ RefAt v L R s) := fun hb => ⟨T1.below hb, st1.below hb⟩
  have ch := rholder_calls st1 hm s.c id
  obtain ⟨M, hMM⟩ : ∃ M, s.mine t id = M := ⟨_, rfl⟩
  have hMe := mine_eq s t id
  rw [hMM] at hMe
  generalize (aget id s.ls).getD 0 = u at ch hMe
  generalize (aget id s.ls).isSome = ok at ch hMe
  have HM : Aside (M = (ok && (u == t))) := hMe
  clear hMe
  clear hMM
  obtain ⟨aL, cL, hLs, _, _⟩ := own_shape h.l
  obtain ⟨aR, cR, hRs, _, _⟩ := own_shape h.r
  generalize s.ls.length = zL at hLs hm
  generalize s.rs.length = zR at hRs
  subst hLs hRs
  clear T1 st1 h
  subst hw1
  unfold BackF
  simp only
  generalize s.c = c at *
  go_enter Tryz.func12, Tryz.ntmps12
  go_upto_region 2 with (go_at_call 13; with_reducible refine ch.mono ?_; rintro x w2 ⟨hx, b2⟩; subst hx; obtain ⟨T2, st2⟩ := Kf.out b2)
  go_cut [14] (fun s14 wx => s14 = .bool M ∧ w2 = wx)
  case first =>
    clear ch Kf
    cases ok with
    | false =>
      go_wp2
      go_meet
      exact ⟨by rw [HM.out]; rfl, rfl⟩
    | true =>
      by_cases hu : u = t
      · have hu' : (u == t) = true := by simpa using hu
        go_wp2
        go_meet
        exact ⟨by rw [HM.out, hu']; rfl, rfl⟩
      · have hu' : (u == t) = false := by simpa using hu
        go_wp2
        go_meet
        exact ⟨by rw [HM.out, hu']; rfl, rfl⟩
  case rest =>
    obtain ⟨rfl, rfl⟩ := hcut
    clear HM ch
    skip
    have q0 := T2.box.q0; have q1 := T2.box.q1; have q2 := T2.box.q2; have g0 := T2.box.f0; have g1 := T2.box.f1; have g2 := T2.box.f2; have h0 := T2.res.q0; have h1 := T2.res.q1; have h2 := T2.res.q2; have f0 := T2.res.f0; have f1 := T2.res.f1; have f2 := T2.res.f2
    go_wp2
    obtain ⟨F1, F2, F3⟩ := T2.out (c' := c) st2
    have y0 := F3.q0
    have y1 := F3.q1
    have y2 := F3.q2
    exact bodyPost_ret (v := .tuple #[.agg #[.slice aL zL cL, .slice aR zR cR, .bool c], .int .i64 17]) (by simp [results, Tryz.results12, go_sem, y0, y1, y2]) rfl ⟨_, _, rfl, ⟨F1.l, F1.r⟩, F2⟩

end Go.Proofs.YthpfbljbifcaoaaGreatDoor
