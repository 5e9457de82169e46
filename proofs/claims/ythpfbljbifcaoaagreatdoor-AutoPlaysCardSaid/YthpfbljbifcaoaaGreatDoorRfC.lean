/- What the document's Point hands back, part 2. Conditions: how its lists lie in memory. -/
import Derived.Test.YthpfbljbifcaoaaGreatDoorRfB
namespace Go.Proofs.YthpfbljbifcaoaaGreatDoor
open Go.ChangeShapes Go.WideShapes Go.ChangeAt Go.RowKit Go.Eng Go.Deep

variable {w w' : World} {L R : Value} {s : AS}

set_option maxHeartbeats 1000000 in
set_option maxRecDepth 1000000 in
theorem RP_g2 (h : RefAt w L R s) (hm : s.ls.length ≤ 1000) (hm2 : s.rs.length ≤ 1000) (t : Int) (hf : s.free 0 = false) :
    Calls Tryz.prog 12 #[rfV L R s.c, .int .i64 t, .int .i64 0, .int .u64 0, .int .i64 0] w fun x w' => BackF w (s, 17) x w' := by
  obtain ⟨w1, hw1⟩ : ∃ w1, w1 = (w.alloc (.cells #[L, R, .bool s.c] 43)).alloc (.cells #[.slice none 0 0, .slice none 0 0, .bool false] 43) := ⟨_, rfl⟩
  have T1 : TwoF w L R s.c w.heap.size w1 := by rw [hw1]; exact TwoF.start w L R s.c
  have st1 : RefAt w1 L R s := by rw [hw1]; exact (h.below (below_alloc _ _)).below (below_alloc _ _)
  have Kf : Aside (∀ {v : World}, Below w1.heap.size w1 v → TwoF w L R s.c w.heap.size v ∧ RefAt v L R s) := fun hb => ⟨T1.below hb, st1.below hb⟩
  have ch := rholder_calls st1 hm s.c 0
  obtain ⟨M, hMM⟩ : ∃ M, s.mine t 0 = M := ⟨_, rfl⟩
  have cf : Aside (∀ {v : World}, Below w1.heap.size w1 v → Calls Tryz.prog 20 #[rfV L R s.c, .int .u64 0] v fun e w' => e = .returned (.bool false) ∧ Below v.heap.size v w') := fun hb => by have := rfree_calls (st1.below hb) hm hm2 s.c 0; rw [hf] at this; exact this
  have hMe := mine_eq s t 0
  rw [hMM] at hMe
  generalize (aget 0 s.ls).getD 0 = u at ch hMe
  generalize (aget 0 s.ls).isSome = ok at ch hMe
  have HM : Aside (M = (ok && (u == t))) := hMe
  clear hMe
  clear hMM
  obtain ⟨aL, cL, hLs, _, _⟩ := own_shape h.l
  obtain ⟨aR, cR, hRs, _, _⟩ := own_shape h.r
  generalize s.ls.length = zL at hLs hm
  generalize s.rs.length = zR at hRs hm2
  subst hLs hRs
  clear T1 st1 h hf
  subst hw1
  unfold BackF
  simp only
  generalize s.c = c at *
  go_enter Tryz.func12, Tryz.ntmps12
  go_upto_region 2 with (go_at_call 13; with_reducible refine ch.mono ?_; rintro x w2 ⟨hx, b2⟩; subst hx; obtain ⟨T2, st2⟩ := Kf.out b2)
  go_cut [14] (fun s14 wx => s14 = .bool M ∧ w2 = wx)
  case first =>
    clear ch Kf
    cases ok with
    | false =>
      go_wp2
      go_meet
      exact ⟨by rw [HM.out]; rfl, rfl⟩
    | true =>
      by_cases hu : u = t
      · have hu' : (u == t) = true := by simpa using hu
        go_wp2
        go_meet
        exact ⟨by rw [HM.out, hu']; rfl, rfl⟩
      · have hu' : (u == t) = false := by simpa using hu
        go_wp2
        go_meet
        exact ⟨by rw [HM.out, hu']; rfl, rfl⟩
  case rest =>
    obtain ⟨rfl, rfl⟩ := hcut
    clear HM ch
    skip
    have q0 := T2.box.q0; have q1 := T2.box.q1; have q2 := T2.box.q2; have g0 := T2.box.f0; have g1 := T2.box.f1; have g2 := T2.box.f2; have h0 := T2.res.q0; have h1 := T2.res.q1; have h2 := T2.res.q2; have f0 := T2.res.f0; have f1 := T2.res.f1; have f2 := T2.res.f2
    go_wp2_with (go_at_call 20; have hh := cf.out b2; with_reducible refine hh.mono ?_; clear hh q0 q1 q2 g0 g1 g2 h0 h1 h2 f0 f1 f2; rintro x w3 ⟨hx, b3⟩; subst hx; obtain ⟨T3, st3⟩ := Kf.out (b2.trans (b3.mono b2.size)); have q0 := T3.box.q0; have q1 := T3.box.q1; have q2 := T3.box.q2; have g0 := T3.box.f0; have g1 := T3.box.f1; have g2 := T3.box.f2; have h0 := T3.res.q0; have h1 := T3.res.q1; have h2 := T3.res.q2; have f0 := T3.res.f0; have f1 := T3.res.f1; have f2 := T3.res.f2)
    obtain ⟨F1, F2, F3⟩ := T3.out (c' := c) st3
    have y0 := F3.q0
    have y1 := F3.q1
    have y2 := F3.q2
    exact bodyPost_ret (v := .tuple #[.agg #[.slice aL zL cL, .slice aR zR cR, .bool c], .int .i64 17]) (by simp [results, Tryz.results12, go_sem, y0, y1, y2]) rfl ⟨_, _, rfl, ⟨F1.l, F1.r⟩, F2⟩

set_option maxHeartbeats 1000000 in
set_option maxRecDepth 1000000 in
theorem RP_g3 (h : RefAt w L R s) (hm : s.ls.length ≤ 1000) (hm2 : s.rs.length ≤ 1000) (t : Int) (id : Int) (hi : (id == 0) = false) (hf : s.free id = false) :
    Calls Tryz.prog 12 #[rfV L R s.c, .int .i64 t, .int .i64 0, .int .u64 id, .int .i64 0] w fun x w' => BackF w (s, 17) x w' := by
  obtain ⟨w1, hw1⟩ : ∃ w1, w1 = (w.alloc (.cells #[L, R, .bool s.c] 43)).alloc (.cells #[.slice none 0 0, .slice none 0 0, .bool false] 43) := ⟨_, rfl⟩
  have T1 : TwoF w L R s.c w.heap.size w1 := by rw [hw1]; exact TwoF.start w L R s.c
  have st1 : RefAt w1 L R s := by rw [hw1]; exact (h.below (below_alloc _ _)).below (below_alloc _ _)
  have Kf : Aside (∀ {v : World}, Below w1.heap.size w1 v → TwoF w L R s.c w.heap.size v ∧ RefAt v L R s) := fun hb => ⟨T1.below hb, st1.below hb⟩
  have ch := rholder_calls st1 hm s.c id
  obtain ⟨M, hMM⟩ : ∃ M, s.mine t id = M := ⟨_, rfl⟩
  have cf : Aside (∀ {v : World}, Below w1.heap.size w1 v → Calls Tryz.prog 20 #[rfV L R s.c, .int .u64 id] v fun e w' => e = .returned (.bool false) ∧ Below v.heap.size v w') := fun hb => by have := rfree_calls (st1.below hb) hm hm2 s.c id; rw [hf] at this; exact this
  have hMe := mine_eq s t id
  rw [hMM] at hMe
  generalize (aget id s.ls).getD 0 = u at ch hMe
  generalize (aget id s.ls).isSome = ok at ch hMe
  have HM : Aside (M = (ok && (u == t))) := hMe
  clear hMe
  clear hMM
  obtain ⟨aL, cL, hLs, _, _⟩ := own_shape h.l
  obtain ⟨aR, cR, hRs, _, _⟩ := own_shape h.r
  generalize s.ls.length = zL at hLs hm
  generalize s.rs.length = zR at hRs hm2
  subst hLs hRs
  clear T1 st1 h hf
  subst hw1
  unfold BackF
  simp only
  generalize s.c = c at *
  go_enter Tryz.func12, Tryz.ntmps12
  go_upto_region 2 with (go_at_call 13; with_reducible refine ch.mono ?_; rintro x w2 ⟨hx, b2⟩; subst hx; obtain ⟨T2, st2⟩ := Kf.out b2)
  go_cut [14] (fun s14 wx => s14 = .bool M ∧ w2 = wx)
  case first =>
    clear ch Kf
    cases ok with
    | false =>
      go_wp2
      go_meet
      exact ⟨by rw [HM.out]; rfl, rfl⟩
    | true =>
      by_cases hu : u = t
      · have hu' : (u == t) = true := by simpa using hu
        go_wp2
        go_meet
        exact ⟨by rw [HM.out, hu']; rfl, rfl⟩
      · have hu' : (u == t) = false := by simpa using hu
        go_wp2
        go_meet
        exact ⟨by rw [HM.out, hu']; rfl, rfl⟩
  case rest =>
    obtain ⟨rfl, rfl⟩ := hcut
    clear HM ch
    skip
    have q0 := T2.box.q0; have q1 := T2.box.q1; have q2 := T2.box.q2; have g0 := T2.box.f0; have g1 := T2.box.f1; have g2 := T2.box.f2; have h0 := T2.res.q0; have h1 := T2.res.q1; have h2 := T2.res.q2; have f0 := T2.res.f0; have f1 := T2.res.f1; have f2 := T2.res.f2
    go_wp2_with (go_at_call 20; have hh := cf.out b2; with_reducible refine hh.mono ?_; clear hh q0 q1 q2 g0 g1 g2 h0 h1 h2 f0 f1 f2; rintro x w3 ⟨hx, b3⟩; subst hx; obtain ⟨T3, st3⟩ := Kf.out (b2.trans (b3.mono b2.size)); have q0 := T3.box.q0; have q1 := T3.box.q1; have q2 := T3.box.q2; have g0 := T3.box.f0; have g1 := T3.box.f1; have g2 := T3.box.f2; have h0 := T3.res.q0; have h1 := T3.res.q1; have h2 := T3.res.q2; have f0 := T3.res.f0; have f1 := T3.res.f1; have f2 := T3.res.f2)
    obtain ⟨F1, F2, F3⟩ := T3.out (c' := c) st3
    have y0 := F3.q0
    have y1 := F3.q1
    have y2 := F3.q2
    exact bodyPost_ret (v := .tuple #[.agg #[.slice aL zL cL, .slice aR zR cR, .bool c], .int .i64 17]) (by simp [results, Tryz.results12, go_sem, y0, y1, y2]) rfl ⟨_, _, rfl, ⟨F1.l, F1.r⟩, F2⟩

theorem own_two {w : World} (x y : Value) (e : TypeId) : ∀ (j : Nat) (u : Value), [x, y][j]? = some u → (w.alloc (.cells #[x, y] e)).cell? ((⟨w.heap.size, 0, none⟩ : Addr).add j) = some u := by
  intro j u hj
  match j with
  | 0 => simp at hj; subst hj; simp [Addr.add]
  | 1 => simp at hj; subst hj; simp [Addr.add]
  | j + 2 => simp at hj

set_option maxHeartbeats 1000000 in
set_option maxRecDepth 1000000 in
theorem RP_more_nil (h : RefAt w (.slice none 0 0) R s) (hls : s.ls = []) (hm2 : s.rs.length ≤ 1000) (t id : Int) (hf : s.free id = true) :
    Calls Tryz.prog 12 #[rfV (.slice none 0 0) R s.c, .int .i64 t, .int .i64 0, .int .u64 id, .int .i64 0] w fun x w' => BackF w ({ s with ls := [(id, t)] }, 0) x w' := by
  obtain ⟨i0, hi, hz0, hz1, hz2⟩ := info_parts info53
  obtain ⟨w1, hw1⟩ : ∃ w1, w1 = (w.alloc (.cells #[.slice none 0 0, R, .bool s.c] 43)).alloc (.cells #[.slice none 0 0, .slice none 0 0, .bool false] 43) := ⟨_, rfl⟩
  have T1 : TwoF w (.slice none 0 0) R s.c w.heap.size w1 := by rw [hw1]; exact TwoF.start w _ _ s.c
  have st1 : RefAt w1 (.slice none 0 0) R s := by rw [hw1]; exact (h.below (below_alloc _ _)).below (below_alloc _ _)
  have Kf : Aside (∀ {v : World}, Below w1.heap.size w1 v → TwoF w (.slice none 0 0) R s.c w.heap.size v ∧ RefAt v (.slice none 0 0) R s) := fun hb => ⟨T1.below hb, st1.below hb⟩
  have ch := rholder_calls st1 (by rw [hls]; simp) s.c id
  have cf : Aside (∀ {v : World}, Below w1.heap.size w1 v → Calls Tryz.prog 20 #[rfV (.slice none 0 0) R s.c, .int .u64 id] v fun e w' => e = .returned (.bool true) ∧ Below v.heap.size v w') := fun hb => by have := rfree_calls (st1.below hb) (by rw [hls]; simp) hm2 s.c id; rw [hf] at this; exact this
  have hnone : aget id s.ls = none := (AS.free_iff.1 hf).2.1
  rw [hnone] at ch
  simp only [Option.getD_none, Option.isSome_none] at ch
  obtain ⟨aR, cR, hRs, _, _⟩ := own_shape h.r
  generalize s.rs.length = zR at hRs hm2
  subst hRs
  clear T1 st1 h hf hnone hls 
  subst hw1
  unfold BackF
  simp only
  generalize s.c = c at *
  go_enter Tryz.func12, Tryz.ntmps12
  go_wp2_with (first
    | (go_at_call 13; with_reducible refine ch.mono ?_; clear ch; rintro x w2 ⟨hx, b2⟩; subst hx; obtain ⟨T2, st2⟩ := Kf.out b2; have q0 := T2.box.q0; have q1 := T2.box.q1; have q2 := T2.box.q2; have g0 := T2.box.f0; have g1 := T2.box.f1; have g2 := T2.box.f2; have h0 := T2.res.q0; have h1 := T2.res.q1; have h2 := T2.res.q2; have f0 := T2.res.f0; have f1 := T2.res.f1; have f2 := T2.res.f2)
    | (go_at_call 20; have hh := cf.out b2; with_reducible refine hh.mono ?_; clear hh q0 q1 q2 g0 g1 g2 h0 h1 h2 f0 f1 f2; rintro x w3 ⟨hx, b3⟩; subst hx; obtain ⟨T3, st3⟩ := Kf.out (b2.trans (b3.mono b2.size)); have q0 := T3.box.q0; have q1 := T3.box.q1; have q2 := T3.box.q2; have g0 := T3.box.f0; have g1 := T3.box.f1; have g2 := T3.box.f2; have h0 := T3.res.q0; have h1 := T3.res.q1; have h2 := T3.res.q2; have f0 := T3.res.f0; have f1 := T3.res.f1; have f2 := T3.res.f2)
    | (at_builtin; refine wpList_append_own_none rfl (.tmp 42) (.tmp 44) 40 rfl w3.heap.size 53 i0 2 Tryz.underlying40 hi (.slice none 0 0) 0 [] rfl (World.ownsRow_nil w3 _ 53 2) rfl ?_; have bb4 : Below w3.heap.size w3 (w3.alloc (.cells #[.int .u64 id, .int .i64 t] 53)) := below_alloc _ _; have T4 := T3.below bb4; clear q0 q1 q2 g0 g1 g2 h0 h1 h2 f0 f1 f2; have q0 := T4.box.q0; have q1 := T4.box.q1; have q2 := T4.box.q2; have g0 := T4.box.f0; have g1 := T4.box.f1; have g2 := T4.box.f2; have h0 := T4.res.q0; have h1 := T4.res.q1; have h2 := T4.res.q2; have f0 := T4.res.f0; have f1 := T4.res.f1; have f2 := T4.res.f2)
    | (at_builtin; refine wpList_append_own _ rfl (.tmp 46) (.tmp 50) 40 rfl w3.heap.size 53 i0 (.agg #[.int .u64 0, .int .i64 0]) 2 16 Tryz.underlying40 hi hz0 hz1 hz2 rfl (by decide) (.slice none 0 0) 0 [] rfl (World.ownsRow_nil _ _ 53 2) ⟨w3.heap.size, 0, none⟩ 1 1 [.int .u64 id, .int .i64 t] rfl rfl (own_two _ _ _) (by simp [Value.oneCell']) (by unfold maxLen; omega) (by omega) (by simp) ?_; intro v6 w6 own6 gr6 _; obtain ⟨a6, c6, rfl, _, _⟩ := own_shape own6; have b6 : Below w3.heap.size w3 w6 := bb4.trans (grown_own (by simp) (World.ownsRow_nil _ _ 53 2) gr6); have T6 := T3.below b6; clear q0 q1 q2 g0 g1 g2 h0 h1 h2 f0 f1 f2; have q0 := T6.box.q0; have q1 := T6.box.q1; have q2 := T6.box.q2; have g0 := T6.box.f0; have g1 := T6.box.f1; have g2 := T6.box.f2; have h0 := T6.res.q0; have h1 := T6.res.q1; have h2 := T6.res.q2; have f0 := T6.res.f0; have f1 := T6.res.f1; have f2 := T6.res.f2))
  have T7 := T6.put0 (.slice a6 (0 + 1) c6)
  have st6 : RefAt w6 (.slice a6 (0 + 1) c6) (.slice aR zR cR) { s with ls := [] ++ [(id, t)] } := ⟨pairs_more (ls := []) (p := (id, t)) own6 rfl, (st3.below b6).r⟩
  have st7 := st6.off T6.box 0 (.slice a6 (0 + 1) c6)
  obtain ⟨F1, F2, F3⟩ := T7.out (c' := c) st7
  have y0 := F3.q0
  have y1 := F3.q1
  have y2 := F3.q2
  exact bodyPost_ret (v := .tuple #[.agg #[.slice a6 (0 + 1) c6, .slice aR zR cR, .bool c], .int .i64 0]) (by simp [results, Tryz.results12, go_sem, y0, y1, y2]) rfl ⟨_, _, rfl, ⟨F1.l, F1.r⟩, F2⟩

set_option maxHeartbeats 1000000 in
set_option maxRecDepth 1000000 in
theorem RP_more_some {g n cL : Nat} {ls : List (Int × Int)} (h : RefAt w (.slice (some ⟨g, 0, none⟩) n cL) R s) (hls : s.ls = ls) (hn : n = ls.length) (hn2 : n ≤ 1000) (hm2 : s.rs.length ≤ 1000) (t id : Int) (hf : s.free id = true) :
    Calls Tryz.prog 12 #[rfV (.slice (some ⟨g, 0, none⟩) n cL) R s.c, .int .i64 t, .int .i64 0, .int .u64 id, .int .i64 0] w fun x w' => BackF w ({ s with ls := ls ++ [(id, t)] }, 0) x w' := by
  obtain ⟨i0, hi, hz0, hz1, hz2⟩ := info_parts info53
  obtain ⟨w1, hw1⟩ : ∃ w1, w1 = (w.alloc (.cells #[.slice (some ⟨g, 0, none⟩) n cL, R, .bool s.c] 43)).alloc (.cells #[.slice none 0 0, .slice none 0 0, .bool false] 43) := ⟨_, rfl⟩
  have T1 : TwoF w (.slice (some ⟨g, 0, none⟩) n cL) R s.c w.heap.size w1 := by rw [hw1]; exact TwoF.start w _ _ s.c
  have st1 : RefAt w1 (.slice (some ⟨g, 0, none⟩) n cL) R s := by rw [hw1]; exact (h.below (below_alloc _ _)).below (below_alloc _ _)
  have Kf : Aside (∀ {v : World}, Below w1.heap.size w1 v → TwoF w (.slice (some ⟨g, 0, none⟩) n cL) R s.c w.heap.size v ∧ RefAt v (.slice (some ⟨g, 0, none⟩) n cL) R s) := fun hb => ⟨T1.below hb, st1.below hb⟩
  have ch := rholder_calls st1 (by rw [hls]; omega) s.c id
  have cf : Aside (∀ {v : World}, Below w1.heap.size w1 v → Calls Tryz.prog 20 #[rfV (.slice (some ⟨g, 0, none⟩) n cL) R s.c, .int .u64 id] v fun e w' => e = .returned (.bool true) ∧ Below v.heap.size v w') := fun hb => by have := rfree_calls (st1.below hb) (by rw [hls]; omega) hm2 s.c id; rw [hf] at this; exact this
  have HN : Aside (∀ {v : World}, Below w1.heap.size w1 v → ∀ (j : Nat) (u : Value), (flat ls)[j]? = some u → v.cell? ((⟨g, 0, none⟩ : Addr).add j) = some u) := fun hb => pairs_src (by have := (st1.below hb).l; rw [hls] at this; exact this) hn
  have HL : Aside ((flat ls).length = n * 2 ∧ (∀ u ∈ flat ls, u.oneCell' = true) ∧ n = ls.length) := ⟨by rw [flat_length, hn], flat_cells ls, hn⟩
  have hnone : aget id s.ls = none := (AS.free_iff.1 hf).2.1
  rw [hnone] at ch
  simp only [Option.getD_none, Option.isSome_none] at ch
  obtain ⟨aR, cR, hRs, _, _⟩ := own_shape h.r
  generalize s.rs.length = zR at hRs hm2
  subst hRs
  clear T1 st1 h hf hnone hls hn
  subst hw1
  unfold BackF
  simp only
  generalize s.c = c at *
  go_enter Tryz.func12, Tryz.ntmps12
  go_wp2_with (first
    | (go_at_call 13; with_reducible refine ch.mono ?_; clear ch; rintro x w2 ⟨hx, b2⟩; subst hx; obtain ⟨T2, st2⟩ := Kf.out b2; have q0 := T2.box.q0; have q1 := T2.box.q1; have q2 := T2.box.q2; have g0 := T2.box.f0; have g1 := T2.box.f1; have g2 := T2.box.f2; have h0 := T2.res.q0; have h1 := T2.res.q1; have h2 := T2.res.q2; have f0 := T2.res.f0; have f1 := T2.res.f1; have f2 := T2.res.f2)
    | (go_at_call 20; have hh := cf.out b2; with_reducible refine hh.mono ?_; clear hh q0 q1 q2 g0 g1 g2 h0 h1 h2 f0 f1 f2; rintro x w3 ⟨hx, b3⟩; subst hx; obtain ⟨T3, st3⟩ := Kf.out (b2.trans (b3.mono b2.size)); have q0 := T3.box.q0; have q1 := T3.box.q1; have q2 := T3.box.q2; have g0 := T3.box.f0; have g1 := T3.box.f1; have g2 := T3.box.f2; have h0 := T3.res.q0; have h1 := T3.res.q1; have h2 := T3.res.q2; have f0 := T3.res.f0; have f1 := T3.res.f1; have f2 := T3.res.f2)
    | (at_builtin; refine wpList_append_own w3 rfl (.tmp 42) (.tmp 44) 40 rfl w3.heap.size 53 i0 (.agg #[.int .u64 0, .int .i64 0]) 2 16 Tryz.underlying40 hi hz0 hz1 hz2 rfl (by decide) (.slice none 0 0) 0 [] rfl (World.ownsRow_nil w3 _ 53 2) ⟨g, 0, none⟩ n cL (flat ls) rfl HL.out.1 (HN.out (b2.trans (b3.mono b2.size))) HL.out.2.1 (by unfold maxLen; omega) (by omega) (Nat.le_refl _) ?_; intro v4 w4 own4 gr4 _; rw [List.nil_append, Nat.zero_add] at own4; obtain ⟨a4, c4, rfl, _, _⟩ := own_shape own4; have b4 : Below w3.heap.size w3 w4 := grown_own (Nat.le_refl _) (World.ownsRow_nil w3 w3.heap.size 53 2) gr4; have bb4 : Below w4.heap.size w4 (w4.alloc (.cells #[.int .u64 id, .int .i64 t] 53)) := below_alloc _ _; have T4 := (T3.below b4).below bb4; have own5 := World.ownsRow.alloc own4 (.cells #[.int .u64 id, .int .i64 t] 53); clear q0 q1 q2 g0 g1 g2 h0 h1 h2 f0 f1 f2; have q0 := T4.box.q0; have q1 := T4.box.q1; have q2 := T4.box.q2; have g0 := T4.box.f0; have g1 := T4.box.f1; have g2 := T4.box.f2; have h0 := T4.res.q0; have h1 := T4.res.q1; have h2 := T4.res.q2; have f0 := T4.res.f0; have f1 := T4.res.f1; have f2 := T4.res.f2)
    | (at_builtin; refine wpList_append_own _ rfl (.tmp 46) (.tmp 50) 40 rfl w3.heap.size 53 i0 (.agg #[.int .u64 0, .int .i64 0]) 2 16 Tryz.underlying40 hi hz0 hz1 hz2 rfl (by decide) (.slice a4 n c4) n (flat ls) rfl own5 ⟨w4.heap.size, 0, none⟩ 1 1 [.int .u64 id, .int .i64 t] rfl rfl (own_two _ _ _) (by simp [Value.oneCell']) (by unfold maxLen; omega) (by omega) (by have := b4.size; have := bb4.size; omega) ?_; intro v6 w6 own6 gr6 _; obtain ⟨a6, c6, rfl, _, _⟩ := own_shape own6; have b6 : Below w3.heap.size w3 w6 := (b4.trans (bb4.mono b4.size)).trans (grown_own (by have := b4.size; have := bb4.size; omega) own5 gr6); have T6 := T3.below b6; clear q0 q1 q2 g0 g1 g2 h0 h1 h2 f0 f1 f2; have q0 := T6.box.q0; have q1 := T6.box.q1; have q2 := T6.box.q2; have g0 := T6.box.f0; have g1 := T6.box.f1; have g2 := T6.box.f2; have h0 := T6.res.q0; have h1 := T6.res.q1; have h2 := T6.res.q2; have f0 := T6.res.f0; have f1 := T6.res.f1; have f2 := T6.res.f2))
  have T7 := T6.put0 (.slice a6 (n + 1) c6)
  have st6 : RefAt w6 (.slice a6 (n + 1) c6) (.slice aR zR cR) { s with ls := ls ++ [(id, t)] } := ⟨pairs_more (p := (id, t)) own6 (by rw [HL.out.2.2]), (st3.below b6).r⟩
  have st7 := st6.off T6.box 0 (.slice a6 (n + 1) c6)
  obtain ⟨F1, F2, F3⟩ := T7.out (c' := c) st7
  have y0 := F3.q0
  have y1 := F3.q1
  have y2 := F3.q2
  exact bodyPost_ret (v := .tuple #[.agg #[.slice a6 (n + 1) c6, .slice aR zR cR, .bool c], .int .i64 0]) (by simp [results, Tryz.results12, go_sem, y0, y1, y2]) rfl ⟨_, _, rfl, ⟨F1.l, F1.r⟩, F2⟩

end Go.Proofs.YthpfbljbifcaoaaGreatDoor

namespace Go.Proofs.YthpfbljbifcaoaaGreatDoor
open Go.ChangeShapes Go.WideShapes Go.ChangeAt Go.RowKit Go.Eng Go.Deep

variable {w w' : World} {L R : Value} {s : AS}

/-- What is kept so far. -/
def fl (ls : List (Int × Int)) (id : Int) (k : Nat) : List (Int × Int) := (ls.take k).filter fun p => p.1 != id

theorem fl_succ {ls : List (Int × Int)} {id : Int} {k : Nat} {p : Int × Int} (hk : ls[k]? = some p) : fl ls id (k + 1) = if p.1 = id then fl ls id k else fl ls id k ++ [p] := by
  unfold fl
  have hl := (List.getElem?_eq_some_iff.1 hk).1
  have e : ls.take (k + 1) = ls.take k ++ [p] := by
    rw [List.take_add_one, hk]; rfl
  rw [e, List.filter_append]
  by_cases h : p.1 = id
  · simp [h]
  · simp [h]

theorem fl_all {ls : List (Int × Int)} (hk : Keys1 ls) (id : Int) : fl ls id ls.length = adel id ls := by
  unfold fl
  rw [List.take_length]
  induction ls with
  | nil => rfl
  | cons p l ih =>
    have hk' := hk
    unfold Keys1 at hk
    rw [List.pairwise_cons] at hk
    unfold adel
    by_cases e : id = p.1
    · rw [if_pos e]
      have h1 : (p.1 != id) = false := by simp [e]
      rw [List.filter_cons_of_neg (by simpa using h1)]
      rw [List.filter_eq_self]
      intro q hq
      have := hk.1 q hq
      simp only [bne_iff_ne, ne_eq]
      rw [e]
      exact fun h => this h.symm
    · rw [if_neg e]
      have h1 : (p.1 != id) = true := by simpa using fun h => e h.symm
      rw [List.filter_cons_of_pos (by simpa using h1), ih hk'.tail]

theorem fl_le (ls : List (Int × Int)) (id : Int) (k : Nat) : (fl ls id k).length ≤ ls.length := by
  unfold fl
  exact Nat.le_trans (List.length_filter_le _ _) (by simp only [List.length_take]; omega)

set_option maxHeartbeats 1000000 in
set_option maxRecDepth 1000000 in
theorem RP_p1 {g n cL : Nat} {ls : List (Int × Int)} (h : RefAt w (.slice (some ⟨g, 0, none⟩) n cL) R s) (hls : s.ls = ls) (hn : n = ls.length) (hn2 : n ≤ 1000) (t id : Int) (hM : s.mine t id = true) (hk1 : Keys1 ls) :
    Calls Tryz.prog 12 #[rfV (.slice (some ⟨g, 0, none⟩) n cL) R s.c, .int .i64 t, .int .i64 1, .int .u64 id, .int .i64 0] w fun x w' => BackF w ({ s with ls := adel id ls }, 0) x w' := by
  obtain ⟨i0, hi, hz0, hz1, hz2⟩ := info_parts info53
  obtain ⟨w1, hw1⟩ : ∃ w1, w1 = (w.alloc (.cells #[.slice (some ⟨g, 0, none⟩) n cL, R, .bool s.c] 43)).alloc (.cells #[.slice none 0 0, .slice none 0 0, .bool false] 43) := ⟨_, rfl⟩
  have T1 : TwoF w (.slice (some ⟨g, 0, none⟩) n cL) R s.c w.heap.size w1 := by rw [hw1]; exact TwoF.start w _ _ s.c
  have st1 : RefAt w1 (.slice (some ⟨g, 0, none⟩) n cL) R s := by rw [hw1]; exact (h.below (below_alloc _ _)).below (below_alloc _ _)
  have Kf : Aside (∀ {v : World}, Below w1.heap.size w1 v → TwoF w (.slice (some ⟨g, 0, none⟩) n cL) R s.c w.heap.size v ∧ RefAt v (.slice (some ⟨g, 0, none⟩) n cL) R s) := fun hb => ⟨T1.below hb, st1.below hb⟩
  have ch := rholder_calls st1 (by rw [hls]; omega) s.c id
  have hag : aget id s.ls = some t := by unfold AS.mine at hM; simpa using hM
  rw [hag] at ch
  simp only [Option.getD_some, Option.isSome_some] at ch
  have CC : Aside (∀ {v : World}, Below w1.heap.size w1 v → ∀ {k : Nat} {p : Int × Int}, ls[k]? = some p → v.cell? ⟨g, k * 2, none⟩ = some (.int .u64 p.1) ∧ v.cell? ⟨g, k * 2 + 1, none⟩ = some (.int .i64 p.2)) := fun hb _ _ hk => PairsAt.cell (by have := (st1.below hb).l; rw [hls] at this; exact this) hk
  have HL : Aside (n = ls.length ∧ fl ls id ls.length = adel id ls) := ⟨hn, fl_all hk1 id⟩
  obtain ⟨aR, cR, hRs, _, _⟩ := own_shape h.r
  generalize s.rs.length = zR at hRs
  subst hRs
  clear T1 st1 h hag hM hls hn hk1
  subst hw1
  unfold BackF
  simp only
  generalize s.c = c at *
  go_enter Tryz.func12, Tryz.ntmps12
  go_wp2_with (go_at_call 13; with_reducible refine ch.mono ?_; clear ch; rintro x w2 ⟨hx, b2⟩; subst hx; obtain ⟨T2, st2⟩ := Kf.out b2; have q0 := T2.box.q0; have q1 := T2.box.q1; have q2 := T2.box.q2; have g0 := T2.box.f0; have g1 := T2.box.f1; have g2 := T2.box.f2; have h0 := T2.res.q0; have h1 := T2.res.q1; have h2 := T2.res.q2; have f0 := T2.res.f0; have f1 := T2.res.f1; have f2 := T2.res.f2)
  have H2 : Aside (TwoF w (.slice (some ⟨g, 0, none⟩) n cL) (.slice aR zR cR) c w.heap.size w2 ∧ RefAt w2 (.slice (some ⟨g, 0, none⟩) n cL) (.slice aR zR cR) s) := ⟨T2, st2⟩
  clear q0 q1 q2 g0 g1 g2 h0 h1 h2 f0 f1 f2 T2 st2
  go_loopg [16, 89] n (fun gh v16 i wx => ∃ k : Nat, k ≤ n ∧ gh = n - k ∧ i = .int .i64 k ∧ Below w2.heap.size w2 wx ∧ wx.ownsRow w2.heap.size 53 2 v16 (fl ls id k).length (flat (fl ls id k)))
  case atStart => exact ⟨0, Nat.zero_le _, rfl, rfl, Below.refl _ _, World.ownsRow_nil w2 _ 53 2⟩
  case round =>
    obtain ⟨k, hk, rfl, rfl, hb, hown⟩ := hrel
    obtain ⟨a6, c6, rfl, _, _⟩ := own_shape hown
    by_cases hlt : k < n
    · obtain ⟨p, hp⟩ : ∃ p, ls[k]? = some p := ⟨_, List.getElem?_eq_getElem (by rw [← HL.out.1]; exact hlt)⟩
      obtain ⟨c0, c1⟩ := CC.out (b2.trans (hb.mono b2.size)) hp
      have hfl := fl_succ (id := id) hp
      have hle := fl_le ls id k
      have HF : Aside (fl ls id (k + 1) = if p.1 = id then fl ls id k else fl ls id k ++ [p]) := hfl
      have HO : Aside (wr.ownsRow w2.heap.size 53 2 (.slice a6 (fl ls id k).length c6) (fl ls id k).length (flat (fl ls id k))) := hown
      have hm : (fl ls id k).length ≤ 1000 := by have := HL.out.1; omega
      have HB : Aside (Below w2.heap.size w2 wr) := hb
      have hsz := hb.size
      clear hfl hown hp hle hb
      generalize hz : (fl ls id k).length = z at *
      have HZ : Aside ((fl ls id k).length = z) := hz
      clear hz
      obtain ⟨p1, p2⟩ := p
      simp only at c0 c1 HF
      have hki : (k : Int) < (n : Int) := by omega
      by_cases e : p1 = id
      · subst e
        go_wp2
        go_roundg (n - (k + 1))
        case measure => omega
        case rel =>
          have hf := HF.out
          simp only [if_true] at hf
          refine ⟨k + 1, by omega, rfl, by go_num, HB.out.alloc hsz _, ?_⟩
          rw [hf, HZ.out]
          exact World.ownsRow.alloc HO.out _
      · have e' : (p1 == id) = false := by simpa using e
        go_wp2_with (at_builtin; refine wpList_append_own _ rfl (.tmp 97) (.tmp 99) 40 rfl w2.heap.size 53 i0 (.agg #[.int .u64 0, .int .i64 0]) 2 16 Tryz.underlying40 hi hz0 hz1 hz2 rfl (by decide) (.slice a6 z c6) z (flat (fl ls id k)) rfl (World.ownsRow.alloc (World.ownsRow.alloc HO.out _) _) ⟨wr.heap.size + 1, 0, none⟩ 1 1 [.int .u64 p1, .int .i64 p2] rfl rfl (by have := own_two (w := wr.alloc (.cells #[.int .u64 p1, .int .i64 p2] 53)) (.int .u64 p1) (.int .i64 p2) 53; simpa using this) (by simp [Value.oneCell']) (by unfold maxLen; omega) (by omega) (by simp; omega) ?_; intro v7 w7 own7 gr7 _; have b7 : Below w2.heap.size w2 w7 := ((HB.out.alloc hsz _).alloc (by simp; omega) _).trans (grown_own (by simp; omega) (World.ownsRow.alloc (World.ownsRow.alloc HO.out _) _) gr7); obtain ⟨a7, c7, rfl, _, _⟩ := own_shape own7)
        go_roundg (n - (k + 1))
        case measure => omega
        case rel =>
          have hf := HF.out
          rw [if_neg e] at hf
          refine ⟨k + 1, by omega, rfl, by go_num, b7, ?_⟩
          rw [hf, flat_one, List.length_append, HZ.out]
          exact own7
    · obtain rfl : k = n := by omega
      have T3 := H2.out.1.below hb
      have st3 := H2.out.2.below hb
      have hlen := HL.out.1
      have HO : Aside (wr.ownsRow w2.heap.size 53 2 (.slice a6 (fl ls id k).length c6) (fl ls id k).length (flat (fl ls id k)) ∧ fl ls id k = adel id ls) := ⟨hown, by rw [hlen]; exact HL.out.2⟩
      clear hown hlen
      generalize hz : (fl ls id k).length = z at HO ⊢
      have HZ : Aside ((fl ls id k).length = z) := hz
      clear hz
      have q0 := T3.box.q0; have q1 := T3.box.q1; have q2 := T3.box.q2; have g0 := T3.box.f0; have g1 := T3.box.f1; have g2 := T3.box.f2; have h0 := T3.res.q0; have h1 := T3.res.q1; have h2 := T3.res.q2; have f0 := T3.res.f0; have f1 := T3.res.f1; have f2 := T3.res.f2
      go_wp2
      have T7 := T3.put0 (.slice a6 z c6)
      have st6 : RefAt wr (.slice a6 z c6) (.slice aR zR cR) { s with ls := adel id ls } := by
        refine ⟨?_, st3.r⟩
        obtain ⟨h1, h2⟩ := HO.out
        have h3 := HZ.out
        rw [h2] at h1 h3
        show PairsAt wr (.slice a6 z c6) (adel id ls)
        unfold PairsAt
        rw [h3]
        exact World.ownsRow.mono h1 (Nat.zero_le _)
      have st7 := st6.off T3.box 0 (.slice a6 z c6)
      obtain ⟨F1, F2, F3⟩ := T7.out (c' := c) st7
      have y0 := F3.q0
      have y1 := F3.q1
      have y2 := F3.q2
      exact bodyPost_ret (v := .tuple #[.agg #[.slice a6 z c6, .slice aR zR cR, .bool c], .int .i64 0]) (by simp [results, Tryz.results12, go_sem, y0, y1, y2]) rfl ⟨_, _, rfl, ⟨F1.l, F1.r⟩, F2⟩

/-- The document's Point. -/
theorem RPoint_calls (h : RefAt w L R s) (hI : s.Inv) (hm : s.ls.length ≤ 1000) (hm2 : s.rs.length ≤ 1000) (t op id e : Int) :
    Calls Tryz.prog 12 #[rfV L R s.c, .int .i64 t, .int .i64 op, .int .u64 id, .int .i64 e] w fun x w' => BackF w (s.Point t op id e) x w' := by
  have b2 : ∀ {a b : Int}, ¬ a = b → (a == b) = false := fun h => by simpa using h
  by_cases o0 : op = 0
  · subst o0
    by_cases e0 : e = 0
    · subst e0
      cases hf : s.free id with
      | true =>
        have hP : s.Point t 0 id 0 = ({ s with ls := s.ls ++ [(id, t)] }, 0) := by simp [AS.Point, AS.point, AS.get, hf]
        rw [hP]
        obtain ⟨aL, cL, hL, hnone, hsome⟩ := own_shape h.l
        cases aL with
        | none =>
          obtain ⟨h0, hc0⟩ := hnone rfl
          have e : s.ls = [] := List.length_eq_zero_iff.1 h0
          rw [h0, hc0] at hL
          subst hL
          rw [e]
          exact RP_more_nil h e hm2 t id hf
        | some b =>
          obtain ⟨g, rfl⟩ := hsome b rfl
          subst hL
          exact RP_more_some h rfl rfl hm hm2 t id hf
      | false =>
        have hP : s.Point t 0 id 0 = (s, 17) := by simp [AS.Point, AS.point, AS.get, hf]
        rw [hP]
        by_cases hi : id = 0
        · subst hi; exact RP_g2 h hm hm2 t hf
        · exact RP_g3 h hm hm2 t id (b2 hi) hf
    · by_cases hi : id = 0
      · subst hi
        by_cases e6 : e = 6
        · subst e6
          rcases Bool.eq_false_or_eq_true s.c with hc | hc
          · have hP : s.Point t 0 0 6 = (s, 0) := by simp [AS.Point, AS.point, AS.get, hc]
            rw [hP]; exact RP_g4 h hm hm2 t hc
          · have hP : s.Point t 0 0 6 = (s, 17) := by simp [AS.Point, AS.point, AS.get, hc]
            rw [hP]; exact RP_g5 h hm hm2 t hc
        · by_cases e7 : e = 7
          · subst e7
            have hP : s.Point t 0 0 7 = (s, 0) := by simp [AS.Point, AS.point, AS.get]
            rw [hP]; exact RP_g7 h hm hm2 t
          · by_cases e8 : e = 8
            · subst e8
              have hP : s.Point t 0 0 8 = (s, 0) := by simp [AS.Point, AS.point, AS.get]
              rw [hP]; exact RP_g9 h hm hm2 t
            · have hP : s.Point t 0 0 e = (s, 17) := by simp [AS.Point, AS.point, AS.get, e0, e6, e7, e8]
              rw [hP]; exact RP_g11 h hm hm2 t e (b2 e0) (b2 e6) (b2 e7) (b2 e8)
      · have hP : s.Point t 0 id e = (s, 17) := by
          have hib := b2 hi
          simp only [AS.Point, AS.point, AS.get, if_neg e0, if_true]
          split <;> simp [hib]
        rw [hP]
        by_cases e6 : e = 6
        · subst e6; exact RP_g6 h hm hm2 t id (b2 hi)
        · by_cases e7 : e = 7
          · subst e7; exact RP_g8 h hm hm2 t id (b2 hi)
          · by_cases e8 : e = 8
            · subst e8; exact RP_g10 h hm hm2 t id (b2 hi)
            · exact RP_g12 h hm hm2 t e id (b2 e0) (b2 hi)
  · by_cases o1 : op = 1
    · subst o1
      by_cases e0 : e = 0
      · subst e0
        cases hM : s.mine t id with
        | true =>
          have hP : s.Point t 1 id 0 = ({ s with ls := adel id s.ls }, 0) := by simp [AS.Point, AS.point, AS.put, AS.held, hM]
          rw [hP]
          obtain ⟨aL, cL, hL, hnone, hsome⟩ := own_shape h.l
          cases aL with
          | none =>
            exfalso
            have e : s.ls = [] := List.length_eq_zero_iff.1 (hnone rfl).1
            unfold AS.mine at hM
            rw [e] at hM
            simp [aget] at hM
          | some b =>
            obtain ⟨g, rfl⟩ := hsome b rfl
            subst hL
            exact RP_p1 h rfl rfl hm t id hM hI.keys
        | false =>
          have hP : s.Point t 1 id 0 = (s, 17) := by simp [AS.Point, AS.point, AS.put, AS.held, hM]
          rw [hP]; exact RP_p2 h hm hm2 t id hM
      · by_cases e5 : e = 5
        · subst e5
          cases hM : s.mine t id with
          | true =>
            have hP : s.Point t 1 id 5 = (s, 17) := by simp [AS.Point, AS.point, AS.put, AS.held, hM]
            rw [hP]; exact RP_p4 h hm hm2 t id hM
          | false =>
            have hP : s.Point t 1 id 5 = (s, 0) := by simp [AS.Point, AS.point, AS.put, AS.held, hM]
            rw [hP]; exact RP_p3 h hm hm2 t id hM
        · have hP : s.Point t 1 id e = (s, 17) := by simp [AS.Point, AS.point, AS.put, AS.held, e0, e5]
          rw [hP]; exact RP_p5 h hm hm2 t e id (b2 e0) (b2 e5)
    · by_cases o2 : op = 2
      · subst o2
        by_cases e0 : e = 0
        · subst e0
          cases hM : s.mine t id with
          | true =>
            have hP : s.Point t 2 id 0 = (s, 0) := by simp [AS.Point, AS.point, AS.put, AS.held, hM]
            rw [hP]; exact RP_q1 h hm hm2 t id hM
          | false =>
            have hP : s.Point t 2 id 0 = (s, 17) := by simp [AS.Point, AS.point, AS.put, AS.held, hM]
            rw [hP]; exact RP_q2 h hm hm2 t id hM
        · by_cases e5 : e = 5
          · subst e5
            cases hM : s.mine t id with
            | true =>
              have hP : s.Point t 2 id 5 = (s, 17) := by simp [AS.Point, AS.point, AS.put, AS.held, hM]
              rw [hP]; exact RP_q4 h hm hm2 t id hM
            | false =>
              have hP : s.Point t 2 id 5 = (s, 0) := by simp [AS.Point, AS.point, AS.put, AS.held, hM]
              rw [hP]; exact RP_q3 h hm hm2 t id hM
          · have hP : s.Point t 2 id e = (s, 17) := by simp [AS.Point, AS.point, AS.put, AS.held, e0, e5]
            rw [hP]; exact RP_q5 h hm hm2 t e id (b2 e0) (b2 e5)
      · by_cases o3 : op = 3
        · subst o3
          by_cases hi : id = 0
          · subst hi
            by_cases e0 : e = 0
            · subst e0
              rcases Bool.eq_false_or_eq_true s.c with hc | hc
              · have hP : s.Point t 3 0 0 = (s, 17) := by simp [AS.Point, AS.point, AS.shut, hc]
                rw [hP]; exact RP_s3 h hm hm2 t hc
              · have hP : s.Point t 3 0 0 = ({ s with c := true }, 0) := by simp [AS.Point, AS.point, AS.shut, hc]
                rw [hP]; exact RP_s2 h hm hm2 t hc
            · by_cases e6 : e = 6
              · subst e6
                rcases Bool.eq_false_or_eq_true s.c with hc | hc
                · have hP : s.Point t 3 0 6 = ({ s with c := true }, 0) := by simp [AS.Point, AS.point, AS.shut, hc]
                  rw [hP]; exact RP_s4 h hm hm2 t hc
                · have hP : s.Point t 3 0 6 = (s, 17) := by simp [AS.Point, AS.point, AS.shut, hc]
                  rw [hP]; exact RP_s5 h hm hm2 t hc
              · have hP : s.Point t 3 0 e = (s, 17) := by simp [AS.Point, AS.point, AS.shut, e0, e6]
                rw [hP]; exact RP_s6 h hm hm2 t e (b2 e0) (b2 e6)
          · have hP : s.Point t 3 id e = (s, 17) := by simp [AS.Point, AS.point, AS.shut, hi]
            rw [hP]; exact RP_s1 h hm hm2 t e id (b2 hi)
        · by_cases o4 : op = 4
          · subst o4
            by_cases e0 : e = 0
            · subst e0
              by_cases hi : id = 0
              · subst hi
                have hP : s.Point t 4 0 0 = (s, 0) := by simp [AS.Point, AS.point]
                rw [hP]; exact RP_h1 h hm hm2 t
              · have hP : s.Point t 4 id 0 = (s, 17) := by simp [AS.Point, AS.point, hi]
                rw [hP]; exact RP_h2 h hm hm2 t id (b2 hi)
            · have hP : s.Point t 4 id e = (s, 17) := by simp [AS.Point, AS.point, e0]
              rw [hP]; exact RP_h3 h hm hm2 t e id (b2 e0)
          · have hP : s.Point t op id e = (s, 17) := by simp [AS.Point, AS.point, o0, o1, o2, o3, o4]
            rw [hP]; exact RP_o1 h hm hm2 t e op id (b2 o0) (b2 o1) (b2 o2) (b2 o3) (b2 o4)

end Go.Proofs.YthpfbljbifcaoaaGreatDoor
