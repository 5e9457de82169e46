/- The law's walk, at whatever acts. Conditions: how the argument lies in memory; that the example is found true. -/
import Derived.Test.YthpfbljbifcaoaaGreatDoorAuB
import Derived.Test.YthpfbljbifcaoaaGreatDoorMo
import Derived.RegionTactic
import Derived.Deep.RegionHeld3
import Derived.Deep.QuietTactic
import Derived.BigQuiet
import Derived.WalkSpells
namespace Go.Proofs.YthpfbljbifcaoaaGreatDoor
open Go.ChangeShapes Go.WideShapes Go.ChangeAt Go.RowKit Go.Eng Go.Deep

/-- The act that is looked at, in block Z. -/
def ActAt (v : World) (Z : Nat) (a0 a1 a2 a3 : Int) (a4 : Bool) : Prop := v.heap[Z]? = some (.cells #[.int .i64 a0, .int .i64 a1, .int .u64 a2, .int .u8 a3, .bool a4] 30 (0, 0))

variable {v v' : World} {X Y Z : Nat} {a0 a1 a2 a3 : Int} {a4 : Bool}
theorem ActAt.q0 (h : ActAt v Z a0 a1 a2 a3 a4) : v.cell? ⟨Z, 0, none⟩ = some (.int .i64 a0) := by unfold ActAt at h; simp [World.cell?, h]
theorem ActAt.q1 (h : ActAt v Z a0 a1 a2 a3 a4) : v.cell? ⟨Z, 1, none⟩ = some (.int .i64 a1) := by unfold ActAt at h; simp [World.cell?, h]
theorem ActAt.q2 (h : ActAt v Z a0 a1 a2 a3 a4) : v.cell? ⟨Z, 2, none⟩ = some (.int .u64 a2) := by unfold ActAt at h; simp [World.cell?, h]
theorem ActAt.q3 (h : ActAt v Z a0 a1 a2 a3 a4) : v.cell? ⟨Z, 3, none⟩ = some (.int .u8 a3) := by unfold ActAt at h; simp [World.cell?, h]
theorem ActAt.q4 (h : ActAt v Z a0 a1 a2 a3 a4) : v.cell? ⟨Z, 4, none⟩ = some (.bool a4) := by unfold ActAt at h; simp [World.cell?, h]

/-- In a round: the state in X, the state as it was in Y, the act in Z. -/
structure Fr (W : World) (B X Y Z : Nat) (lm rm : Option Nat) (s : AS) (wl wr : Option Nat) (u : AS) (a0 a1 a2 a3 : Int) (a4 : Bool) (v : World) : Prop where
  low : Below B W v
  hB : B ≤ X
  cur : RowS v X lm rm s.c
  st : StAt v lm rm s
  act : ActAt v Z a0 a1 a2 a3 a4
  was : RowS v Y wl wr u.c
  wst : StAt v wl wr u
  xy : X ≠ Y
  xz : X ≠ Z

variable {W : World} {B : Nat} {lm rm wl wr : Option Nat} {s u : AS}

theorem Fr.below (h : Fr W B X Y Z lm rm s wl wr u a0 a1 a2 a3 a4 v) (hb : Below v.heap.size v v') : Fr W B X Y Z lm rm s wl wr u a0 a1 a2 a3 a4 v' :=
  ⟨h.low.trans (hb.mono (Nat.le_of_lt (Nat.lt_of_le_of_lt h.hB h.cur.lt))), h.hB, h.cur.below hb h.cur.lt, h.st.below hb, (hb.block Z (Array.getElem?_eq_some_iff.1 h.act).1).trans h.act, h.was.below hb h.was.lt, h.wst.below hb, h.xy, h.xz⟩

theorem Fr.drew (h : Fr W B X Y Z lm rm s wl wr u a0 a1 a2 a3 a4 v) : Fr W B X Y Z lm rm s wl wr u a0 a1 a2 a3 a4 v.drew := h.below ⟨rfl, rfl, rfl, Nat.le_refl _, fun _ _ => rfl⟩

theorem StAt.offRow {l r : Option Nat} {c : Bool} (h : StAt v lm rm s) (hx : RowS v X l r c) (n : Nat) (x : Value) : StAt (v.setCell ⟨X, n, none⟩ x) lm rm s :=
  h.set (p := ⟨X, n, none⟩) (fun _ e => h.neL hx e) (fun _ e => h.neR hx e) x

/-- The state is stored. -/
theorem Fr.put {lm' rm' : Option Nat} {s' : AS} (h : Fr W B X Y Z lm rm s wl wr u a0 a1 a2 a3 a4 v) (st : StAt v lm' rm' s') :
    Fr W B X Y Z lm' rm' s' wl wr u a0 a1 a2 a3 a4 (((v.setCell ⟨X, 0, none⟩ (.map lm')).setCell ⟨X, 1, none⟩ (.map rm')).setCell ⟨X, 2, none⟩ (.bool s'.c)) := by
  have keep : ∀ {j : Nat}, X ≠ j → (((v.setCell ⟨X, 0, none⟩ (.map lm')).setCell ⟨X, 1, none⟩ (.map rm')).setCell ⟨X, 2, none⟩ (.bool s'.c)).heap[j]? = v.heap[j]? := by
    intro j hj
    rw [Below.heap_setCell _ _ _ _ (fun e => hj e.symm), Below.heap_setCell _ _ _ _ (fun e => hj e.symm), Below.heap_setCell _ _ _ _ (fun e => hj e.symm)]
  have e1 := h.cur
  refine ⟨((h.low.setCell h.hB _).setCell h.hB _).setCell h.hB _, h.hB, h.cur.set lm' rm' s'.c, ?_, (keep h.xz).trans h.act, (keep h.xy).trans h.was, ?_, h.xy, h.xz⟩
  · exact ((st.set (p := ⟨X, 0, none⟩) (fun _ e => st.neL h.cur e) (fun _ e => st.neR h.cur e) _).set (p := ⟨X, 1, none⟩) (fun _ e => st.neL h.cur e) (fun _ e => st.neR h.cur e) _).set (p := ⟨X, 2, none⟩) (fun _ e => st.neL h.cur e) (fun _ e => st.neR h.cur e) _
  · have st := h.wst
    exact ((st.set (p := ⟨X, 0, none⟩) (fun _ e => st.neL h.cur e) (fun _ e => st.neR h.cur e) _).set (p := ⟨X, 1, none⟩) (fun _ e => st.neL h.cur e) (fun _ e => st.neR h.cur e) _).set (p := ⟨X, 2, none⟩) (fun _ e => st.neL h.cur e) (fun _ e => st.neR h.cur e) _

/-- Is it retired? -/
def gone (s : AS) (id : Int) : Bool := s.rs.contains id
theorem gone_iff {s : AS} {id : Int} : gone s id = true ↔ id ∈ s.rs := by unfold gone; simp

theorem fr_holder_was (h : Fr W B X Y Z lm rm s wl wr u a0 a1 a2 a3 a4 v) (id : Int) :
    Calls Tryz.prog 6 #[stV wl wr u.c, .int .u64 id] v fun e w' => e = .returned (.tuple #[.int .i64 ((aget id u.ls).getD 0), .bool (aget id u.ls).isSome]) ∧ Fr W B X Y Z lm rm s wl wr u a0 a1 a2 a3 a4 w' :=
  (holder_calls h.wst u.c id).mono fun _ _ ⟨he, hb⟩ => ⟨he, h.below hb⟩
theorem fr_holder (h : Fr W B X Y Z lm rm s wl wr u a0 a1 a2 a3 a4 v) (id : Int) :
    Calls Tryz.prog 6 #[stV lm rm s.c, .int .u64 id] v fun e w' => e = .returned (.tuple #[.int .i64 ((aget id s.ls).getD 0), .bool (aget id s.ls).isSome]) ∧ Fr W B X Y Z lm rm s wl wr u a0 a1 a2 a3 a4 w' :=
  (holder_calls h.st s.c id).mono fun _ _ ⟨he, hb⟩ => ⟨he, h.below hb⟩
theorem fr_retired_was (h : Fr W B X Y Z lm rm s wl wr u a0 a1 a2 a3 a4 v) (id : Int) :
    Calls Tryz.prog 7 #[stV wl wr u.c, .int .u64 id] v fun e w' => e = .returned (.bool (gone u id)) ∧ Fr W B X Y Z lm rm s wl wr u a0 a1 a2 a3 a4 w' :=
  (retired_calls h.wst u.c id).mono fun _ _ ⟨he, hb⟩ => ⟨he, h.below hb⟩
theorem fr_retired (h : Fr W B X Y Z lm rm s wl wr u a0 a1 a2 a3 a4 v) (id : Int) :
    Calls Tryz.prog 7 #[stV lm rm s.c, .int .u64 id] v fun e w' => e = .returned (.bool (gone s id)) ∧ Fr W B X Y Z lm rm s wl wr u a0 a1 a2 a3 a4 w' :=
  (retired_calls h.st s.c id).mono fun _ _ ⟨he, hb⟩ => ⟨he, h.below hb⟩
theorem fr_leases_was (h : Fr W B X Y Z lm rm s wl wr u a0 a1 a2 a3 a4 v) (hI : u.Inv) :
    Calls Tryz.prog 8 #[stV wl wr u.c] v fun e w' => e = .returned (.int .i64 u.ls.length) ∧ Fr W B X Y Z lm rm s wl wr u a0 a1 a2 a3 a4 w' :=
  (leases_calls h.wst hI u.c).mono fun _ _ ⟨he, hb⟩ => ⟨he, h.below hb⟩
theorem fr_retire (h : Fr W B X Y Z lm rm s wl wr u a0 a1 a2 a3 a4 v) (id : Int) :
    Calls Tryz.prog 9 #[stV lm rm s.c, .int .u64 id] v fun x w' => ∃ lm' rm', x = .returned (.tuple #[stV lm' rm' (s.Retire id).1.c, .int .i64 (s.Retire id).2]) ∧ StAt w' lm' rm' (s.Retire id).1 ∧ Fr W B X Y Z lm rm s wl wr u a0 a1 a2 a3 a4 w' :=
  (Retire_calls h.st id).mono fun _ _ ⟨lm', rm', he, hs, hb⟩ => ⟨lm', rm', he, hs, h.below hb⟩
theorem fr_point (h : Fr W B X Y Z lm rm s wl wr u a0 a1 a2 a3 a4 v) (hI : s.Inv) (t op id e : Int) :
    Calls Tryz.prog 10 #[stV lm rm s.c, .int .i64 t, .int .i64 op, .int .u64 id, .int .i64 e] v fun x w' => ∃ lm' rm', x = .returned (.tuple #[stV lm' rm' (s.Point t op id e).1.c, .int .i64 (s.Point t op id e).2]) ∧ StAt w' lm' rm' (s.Point t op id e).1 ∧ Fr W B X Y Z lm rm s wl wr u a0 a1 a2 a3 a4 w' :=
  (Point_calls h.st hI t op id e).mono fun _ _ ⟨lm', rm', he, hs, hb⟩ => ⟨lm', rm', he, hs, h.below hb⟩

/-- A round begins: the act, and the state as it was, lie in blocks of their own. -/
theorem Fr.start (low : Below B W v) (hB : B ≤ X) (cur : RowS v X lm rm s.c) (st : StAt v lm rm s) (a0 a1 a2 a3 : Int) (a4 : Bool) :
    Fr W B X (v.heap.size + 1) v.heap.size lm rm s lm rm s a0 a1 a2 a3 a4 ((v.alloc (.cells #[.int .i64 a0, .int .i64 a1, .int .u64 a2, .int .u8 a3, .bool a4] 30)).alloc (.cells #[.map lm, .map rm, .bool s.c] 27)) := by
  have b1 := below_alloc v (.cells #[.int .i64 a0, .int .i64 a1, .int .u64 a2, .int .u8 a3, .bool a4] 30)
  have b2 := below_alloc (v.alloc (.cells #[.int .i64 a0, .int .i64 a1, .int .u64 a2, .int .u8 a3, .bool a4] 30)) (.cells #[.map lm, .map rm, .bool s.c] 27)
  have hl := cur.lt
  have bb := b1.trans (b2.mono b1.size)
  refine ⟨low.trans (bb.mono (by omega)), hB, cur.below bb hl, st.below bb, ?_, ?_, st.below bb, by omega, by omega⟩
  · exact (b2.block v.heap.size (by simp)).trans (Go.MapKept.heap_alloc v _).1
  · have := RowS.new (v.alloc (.cells #[.int .i64 a0, .int .i64 a1, .int .u64 a2, .int .u8 a3, .bool a4] 30)) lm rm s.c
    simpa using this

end Go.Proofs.YthpfbljbifcaoaaGreatDoor

namespace Go.Proofs.YthpfbljbifcaoaaGreatDoor
open Go.ChangeShapes Go.WideShapes Go.ChangeAt Go.RowKit Go.Eng Go.Deep

theorem st_zero (v : World) : StAt v none none ⟨[], [], false⟩ :=
  ⟨⟨[], .inl ⟨rfl, rfl⟩, List.Pairwise.nil, fun _ => rfl⟩, [], .inl ⟨rfl, rfl⟩, List.Pairwise.nil, fun i => by simp [aget]⟩

theorem u8_conv {x : Int} (h : (Lit.int .u8 x).wf = true) : 0 ≤ x ∧ x < 256 := by
  simp only [Lit.wf, Bool.and_eq_true, decide_eq_true_eq] at h
  have hmin : IntKind.u8.min = 0 := by decide
  have hmax : IntKind.u8.max = 255 := by decide
  rw [hmin, hmax] at h
  omega

set_option maxHeartbeats 4000000 in
set_option maxRecDepth 1000000 in
theorem law_some (W : World) (B : Nat) (hB : B = W.heap.size) (haw : Calls Tryz.prog 5 #[] W fun e w' => e = .returned (.bool true) ∧ Below B W w') (blk off n cap : Nat) (hn : n ≤ 100) (hblk : blk < B)
    (F : ∀ k, k < n → FiveBAt W blk (off + k * 5) .i64 .i64 .u64 .u8) :
    Calls Tryz.prog 3 #[.slice (some ⟨blk, off, none⟩) n cap] W fun e w' => e = .returned (.bool true) ∧ Below B W w' := by
  have hBl : B ≤ W.heap.size := Nat.le_of_eq hB
  have F' : Aside (∀ k, k < n → FiveBAt W blk (off + k * 5) .i64 .i64 .u64 .u8) := F
  clear F hB
  go_enter Tryz.func3, Tryz.ntmps3
  go_wp2_with (go_at_call 5; with_reducible refine haw.mono ?_; rintro e w1 ⟨rfl, b1⟩; have s1 := Nat.le_trans hBl b1.size)
  have hcur : RowS (w1.alloc (.cells #[.map none, .map none, .bool false] 27)) w1.heap.size none none false := RowS.new w1 none none false
  have hlow : Below B W (w1.alloc (.cells #[.map none, .map none, .bool false] 27)) := b1.trans ((below_alloc w1 _).mono s1)
  clear b1 haw
  generalize w1.alloc (.cells #[.map none, .map none, .bool false] 27) = w2 at hcur hlow ⊢
  generalize w1.heap.size = X at hcur s1 ⊢
  go_loopg [23] n (fun g i wx => ∃ (t : Nat) (s : AS) (lm rm : Option Nat), t ≤ n ∧ g = n - t ∧ i = .int .i64 t ∧ s.Inv ∧ RowS wx X lm rm s.c ∧ StAt wx lm rm s ∧ Below B W wx)
  case atStart => exact ⟨0, ⟨[], [], false⟩, none, none, Nat.zero_le _, rfl, rfl, AS.inv0, hcur, st_zero w2, hlow⟩
  case round =>
    clear hcur hlow
    obtain ⟨t, s, lm, rm, ht, rfl, rfl, hI, cur, st, low⟩ := hrel
    by_cases hlt : t < n
    · obtain ⟨x0, x1, x2, x3, x4, ⟨c0, c1, c2, c3, c4⟩, w0, w1', w2', w3'⟩ := F'.out t hlt
      have tr : ∀ {j : Nat} {u : Value}, W.cell? ⟨blk, j, none⟩ = some u → wr.cell? ⟨blk, j, none⟩ = some u := fun h => (low.cell (by exact hblk)).trans h
      have d0 := tr c0
      have d1 := tr c1
      have d2 := tr c2
      have d3 := tr c3
      have d4 := tr c4
      clear c0 c1 c2 c3 c4 tr
      have F0 := Fr.start low s1 cur st x0 x1 x2 x3 x4
      have curA := cur.below (below_alloc wr (.cells #[.int .i64 x0, .int .i64 x1, .int .u64 x2, .int .u8 x3, .bool x4] 30)) cur.lt
      have g0 := curA.q0
      have g1 := curA.q1
      have g2 := curA.q2
      generalize hZ : wr.heap.size = Z at F0
      have e2 := F0.act.q2
      have hlti : (t : Int) < (n : Int) := by omega
      clear cur st low
      go_upto_region 11 with (go_at_call 6; have h6 := fr_holder_was F0 x2; with_reducible refine h6.mono ?_; clear h6 e2 g0 g1 g2; rintro e w6 ⟨he, F6⟩; subst he)
      go_cut [9, 10] (fun s9 s10 wx => s9 = .bool (gone s x2) ∧ s10 = .int .i64 s.ls.length ∧ Fr W B X (Z + 1) Z lm rm s lm rm s x0 x1 x2 x3 x4 wx)
      case first =>
        have q0 := F6.was.q0
        have q1 := F6.was.q1
        have q2 := F6.was.q2
        have q3 := F6.act.q2
        have F6d := F6.drew
        go_region_held3 (fun w' => w'.cell? ⟨Z + 1, 0, none⟩ = some (.map lm) ∧ w'.cell? ⟨Z + 1, 1, none⟩ = some (.map rm) ∧ w'.cell? ⟨Z + 1, 2, none⟩ = some (.bool s.c) ∧ w'.cell? ⟨Z, 2, none⟩ = some (.int .u64 x2))
          (first | go_keep | exact ⟨k7.was.q0, k7.was.q1, k7.was.q2, k7.act.q2⟩ | exact ⟨k8.was.q0, k8.was.q1, k8.was.q2, k8.act.q2⟩)
          (first
            | (go_at_call 7; have hh := fr_retired_was F6d x2; with_reducible refine hh.mono ?_; clear hh; rintro e w7 ⟨he, k7⟩; subst he)
            | (go_at_call 7; have hh := fr_retired_was k8 x2; with_reducible refine hh.mono ?_; clear hh; rintro e w7 ⟨he, k7⟩; subst he)
            | (go_at_call 8; have hh := fr_leases_was F6d hI; with_reducible refine hh.mono ?_; clear hh; rintro e w8 ⟨he, k8⟩; subst he)
            | (go_at_call 8; have hh := fr_leases_was k7 hI; with_reducible refine hh.mono ?_; clear hh; rintro e w8 ⟨he, k8⟩; subst he))
        all_goals (go_wp2_with fail; go_meet; exact ⟨rfl, rfl, by assumption⟩)
      case rest =>
        obtain ⟨rfl, rfl, F7⟩ := hcut
        generalize hT : (aget x2 s.ls).getD 0 = T
        generalize hok : (aget x2 s.ls).isSome = ok
        generalize hG : gone s x2 = G
        have HE : Aside ((aget x2 s.ls).getD 0 = T ∧ (aget x2 s.ls).isSome = ok ∧ gone s x2 = G) := ⟨hT, hok, hG⟩
        clear hT hok hG
        have e4 := F7.act.q4
        go_upto_if 42 with (fail)
        go_cut [] (fun wx => ∃ lm' rm' s', AS.Inv s' ∧ (gone s x2 = true → gone s' x2 = true) ∧ Fr W B X (Z + 1) Z lm' rm' s' lm rm s x0 x1 x2 x3 x4 wx)
        case first =>
          cases x4 with
          | true =>
            obtain ⟨s', f, hR⟩ : ∃ s' f, s.Retire x2 = (s', f) := ⟨_, _, rfl⟩
            have hret := fr_retire F7 x2
            have hI' := hI.retire x2
            have hL := AS.retire_law x2 hR
            rw [hR] at hret hI'
            simp only at hret hI'
            have HI' : Aside (AS.Inv s' ∧ (gone s x2 = true → gone s' x2 = true)) := ⟨hI', fun h => gone_iff.2 (hL.2 (gone_iff.1 h))⟩
            have HL : Aside (f = 0 → aget x2 s.ls = none ∧ gone s x2 = false ∧ gone s' x2 = true) := fun h => by
              obtain ⟨h1, h2, h3⟩ := hL.1 h
              exact ⟨h1, by cases hg : gone s x2; rfl; exact absurd (gone_iff.1 hg) h2, gone_iff.2 h3⟩
            clear hR hI' hL
            have c0 := F7.cur.q0
            have c1 := F7.cur.q1
            have c2 := F7.cur.q2
            have e2 := F7.act.q2
            go_upto_region 15 with (go_at_call 9; with_reducible refine hret.mono ?_; clear hret c0 c1 c2 e2 e4; rintro x w8 ⟨lm', rm', hx, st8, F8⟩; subst hx; have c0 := F8.cur.q0; have c1 := F8.cur.q1; have c2 := F8.cur.q2; have f0 := F8.cur.f0; have f1 := F8.cur.f1; have f2 := F8.cur.f2)
            have F9 := F8.put st8
            obtain ⟨w9, hw9⟩ : ∃ w9, w9 = ((w8.setCell ⟨X, 0, none⟩ (.map lm')).setCell ⟨X, 1, none⟩ (.map rm')).setCell ⟨X, 2, none⟩ (.bool s'.c) := ⟨_, rfl⟩
            rw [← hw9] at F9 ⊢
            clear hw9 c0 c1 c2 f0 f1 f2 F8 st8
            have y0 := F9.cur.q0
            have y1 := F9.cur.q1
            have y2 := F9.cur.q2
            have e2 := F9.act.q2
            by_cases hf : f = 0
            · obtain ⟨h1, h2, h3⟩ := HL.out hf
              have hh := fr_retired F9 x2
              rw [h3] at hh
              obtain ⟨hT, hok, hG⟩ := HE.out
              clear HE
              rw [h1] at hT hok
              rw [h2] at hG
              simp only [Option.isSome_none, Option.getD_none] at hT hok
              clear h1 h2 h3 HL
              subst hf hT hok hG
              go_wp2_with (go_at_call 7; with_reducible refine hh.mono ?_; clear hh y0 y1 y2 e2; rintro e w10 ⟨he, F10⟩; subst he)
              go_meet
              exact ⟨lm', rm', s', HI'.out.1, HI'.out.2, F10⟩
            · have hf' : (f == 0) = false := by simpa using hf
              clear HL
              go_wp2
              go_meet
              exact ⟨lm', rm', s', HI'.out.1, HI'.out.2, F9⟩
          | false =>
            obtain ⟨s', f, hR⟩ : ∃ s' f, s.Point x0 x1 x2 x3 = (s', f) := ⟨_, _, rfl⟩
            have hpt := fr_point F7 hI x0 x1 x2 x3
            have hI' := hI.Point x0 x1 x2 x3
            have hL := AS.point_law hI x0 x1 x2 x3 hR
            rw [hR] at hpt hI'
            simp only at hpt hI'
            have HI' : Aside (AS.Inv s' ∧ (gone s x2 = true → gone s' x2 = true)) := ⟨hI', fun h => gone_iff.2 (hL.1 (gone_iff.1 h)).2⟩
            have HL : Aside ((∀ u, aget x2 s'.ls = some u → gone s x2 = false) ∧ (∀ t u, aget x2 s.ls = some t → aget x2 s'.ls = some u → u = t) ∧
                (∀ u, aget x2 s.ls = none → aget x2 s'.ls = some u → f = 0 ∧ x1 = 0 ∧ u = x0) ∧ (∀ t, aget x2 s.ls = some t → aget x2 s'.ls = none → x1 = 1 ∧ t = x0)) := by
              refine ⟨fun u hu => ?_, hL.2⟩
              cases hg : gone s x2 with
              | false => rfl
              | true => rw [(hL.1 (gone_iff.1 hg)).1] at hu; cases hu
            clear hR hI' hL
            have c0 := F7.cur.q0
            have c1 := F7.cur.q1
            have c2 := F7.cur.q2
            have e0 := F7.act.q0
            have e1 := F7.act.q1
            have e2 := F7.act.q2
            have e3 := F7.act.q3
            have hx3 := (u8_conv w3').1
            have hx3' := (u8_conv w3').2
            go_upto_region 19 with (first
              | (go_at_call 10; with_reducible refine hpt.mono ?_; clear hpt c0 c1 c2 e0 e1 e2 e3 e4; rintro x w8 ⟨lm', rm', hx, st8, F8⟩; subst hx; have c0 := F8.cur.q0; have c1 := F8.cur.q1; have c2 := F8.cur.q2; have f0 := F8.cur.f0; have f1 := F8.cur.f1; have f2 := F8.cur.f2; have F9 := F8.put st8; have y0 := F9.cur.q0; have y1 := F9.cur.q1; have y2 := F9.cur.q2; have e2 := F9.act.q2)
              | (go_at_call 6; have hh := fr_holder F9 x2; with_reducible refine hh.mono ?_; clear hh y0 y1 y2 e2 c0 c1 c2 f0 f1 f2 F8 F9 st8; rintro x w10 ⟨hx, F10⟩; subst hx))
            have e0 := F10.act.q0
            have e1 := F10.act.q1
            obtain ⟨hT, hok, hG⟩ := HE.out
            clear HE
            cases ho : aget x2 s.ls with
            | none =>
              rw [ho] at hT hok
              simp only [Option.isSome_none, Option.getD_none] at hT hok
              subst hT hok
              cases ho' : aget x2 s'.ls with
              | none =>
                simp only [Option.isSome_none, Option.getD_none]
                clear HL ho ho' hG
                go_wp2
                go_meet
                exact ⟨lm', rm', s', HI'.out.1, HI'.out.2, F10⟩
              | some u =>
                obtain ⟨rfl, rfl, rfl⟩ := HL.out.2.2.1 u ho ho'
                have hg := HL.out.1 u ho'
                rw [hg] at hG
                subst hG
                simp only [Option.isSome_some, Option.getD_some]
                clear HL ho ho' hg
                go_wp2
                go_meet
                exact ⟨lm', rm', s', HI'.out.1, HI'.out.2, F10⟩
            | some v =>
              rw [ho] at hT hok
              simp only [Option.isSome_some, Option.getD_some] at hT hok
              subst hT hok
              cases ho' : aget x2 s'.ls with
              | none =>
                obtain ⟨rfl, rfl⟩ := HL.out.2.2.2 _ ho ho'
                simp only [Option.isSome_none, Option.getD_none]
                clear HL ho ho' hG
                go_wp2
                go_meet
                exact ⟨lm', rm', s', HI'.out.1, HI'.out.2, F10⟩
              | some u =>
                have hg := HL.out.1 u ho'
                obtain rfl := HL.out.2.1 _ u ho ho'
                rw [hg] at hG
                subst hG
                simp only [Option.isSome_some, Option.getD_some]
                clear HL ho ho' hg
                go_wp2
                go_meet
                exact ⟨lm', rm', s', HI'.out.1, HI'.out.2, F10⟩
        case rest =>
          obtain ⟨lm2, rm2, s2, hI2, hg2, F11⟩ := hcut
          clear F7 e4
          have HI2 : Aside (AS.Inv s2 ∧ (gone s x2 = true → gone s2 x2 = true)) := ⟨hI2, hg2⟩
          clear hI2 hg2
          have q0 := F11.was.q0
          have q1 := F11.was.q1
          have q2 := F11.was.q2
          have e2 := F11.act.q2
          go_upto_region 22 with (go_at_call 6; have hh := fr_holder_was F11 x2; rw [HE.out.1, HE.out.2.1] at hh; with_reducible refine hh.mono ?_; clear hh q0 q1 q2 e2; rintro x w12 ⟨hx, F12⟩; subst hx; have q0 := F12.was.q0; have q1 := F12.was.q1; have q2 := F12.was.q2; have e2 := F12.act.q2)
          have hg := HE.out.2.2
          clear HE
          cases G with
          | false =>
            go_wp2_with (first
              | (go_at_call 7; have hh := fr_retired_was F12 x2; rw [hg] at hh; with_reducible refine hh.mono ?_; clear hh q0 q1 q2 e2; rintro x w13 ⟨hx, F13⟩; subst hx; have q0 := F13.was.q0; have q1 := F13.was.q1; have q2 := F13.was.q2; have e2 := F13.act.q2)
              | (go_at_call 8; have hh := fr_leases_was F13 hI; with_reducible refine hh.mono ?_; clear hh q0 q1 q2 e2; rintro x w14 ⟨hx, F14⟩; subst hx))
            go_roundg (n - (t + 1))
            case measure => omega
            case rel => exact ⟨t + 1, s2, lm2, rm2, by omega, rfl, by go_num, HI2.out.1, F14.cur, F14.st, F14.low⟩
          | true =>
            have hg3 := HI2.out.2 hg
            have HG : Aside (gone s2 x2 = true) := hg3
            clear hg3
            go_wp2_with (first
              | (go_at_call 7; have hh := fr_retired_was F12 x2; rw [hg] at hh; with_reducible refine hh.mono ?_; clear hh q0 q1 q2 e2; rintro x w13 ⟨hx, F13⟩; subst hx; have q0 := F13.was.q0; have q1 := F13.was.q1; have q2 := F13.was.q2; have e2 := F13.act.q2)
              | (go_at_call 8; have hh := fr_leases_was F13 hI; with_reducible refine hh.mono ?_; clear hh q0 q1 q2 e2; rintro x w14 ⟨hx, F14⟩; subst hx; have q0 := F14.cur.q0; have q1 := F14.cur.q1; have q2 := F14.cur.q2; have e2 := F14.act.q2)
              | (go_at_call 7; have hh := fr_retired F14 x2; rw [HG.out] at hh; with_reducible refine hh.mono ?_; clear hh q0 q1 q2 e2; rintro x w15 ⟨hx, F15⟩; subst hx))
            go_roundg (n - (t + 1))
            case measure => omega
            case rel => exact ⟨t + 1, s2, lm2, rm2, by omega, rfl, by go_num, HI2.out.1, F15.cur, F15.st, F15.low⟩
    · have hkn : t = n := by omega
      subst hkn
      go_wp2
      go_ret
      exact ⟨rfl, low⟩

end Go.Proofs.YthpfbljbifcaoaaGreatDoor

namespace Go.Proofs.YthpfbljbifcaoaaGreatDoor
open Go.ChangeShapes Go.WideShapes Go.ChangeAt Go.RowKit Go.Eng Go.Deep

set_option maxRecDepth 1000000 in
theorem law_long (W : World) (B : Nat) (haw : Calls Tryz.prog 5 #[] W fun e w' => e = .returned (.bool true) ∧ Below B W w') (p : Option Addr) (n cap : Nat) (hn : 100 < n) :
    Calls Tryz.prog 3 #[.slice p n cap] W fun e w' => e = .returned (.bool true) ∧ Below B W w' := by
  go_enter Tryz.func3, Tryz.ntmps3
  go_wp2_with (go_at_call 5; with_reducible refine haw.mono ?_; rintro e w1 ⟨rfl, b1⟩)
  go_ret
  exact ⟨rfl, b1⟩

set_option maxRecDepth 1000000 in
theorem law_empty (W : World) (B : Nat) (hB : B = W.heap.size) (haw : Calls Tryz.prog 5 #[] W fun e w' => e = .returned (.bool true) ∧ Below B W w') (p : Option Addr) (cap : Nat) :
    Calls Tryz.prog 3 #[.slice p 0 cap] W fun e w' => e = .returned (.bool true) ∧ Below B W w' := by
  have hBl : B ≤ W.heap.size := Nat.le_of_eq hB
  clear hB
  go_enter Tryz.func3, Tryz.ntmps3
  go_wp2_with (go_at_call 5; with_reducible refine haw.mono ?_; rintro e w1 ⟨rfl, b1⟩; have s1 := Nat.le_trans hBl b1.size)
  have hlow : Below B W (w1.alloc (.cells #[.map none, .map none, .bool false] 27)) := b1.trans ((below_alloc w1 _).mono s1)
  clear b1 haw
  generalize w1.alloc (.cells #[.map none, .map none, .bool false] 27) = w2 at hlow ⊢
  refine wp_loop_rounds 1 ?_
  rw [rounds_succ]
  go_wp2
  go_ret
  exact ⟨rfl, hlow⟩

/-- The law, at whatever slice of acts. -/
theorem law_all (W : World) (haw : Calls Tryz.prog 5 #[] W fun e w' => e = .returned (.bool true) ∧ Below W.heap.size W w') (a0 : Option Addr) (n cap : Nat)
    (F : n = 0 ∨ ∃ b off, a0 = some ⟨b, off, none⟩ ∧ b < W.heap.size ∧ ∀ i, i < n → FiveBAt W b (off + i * 5) .i64 .i64 .u64 .u8) :
    Calls Tryz.prog 3 #[.slice a0 n cap] W fun e w' => e = .returned (.bool true) ∧ Below W.heap.size W w' := by
  by_cases h100 : 100 < n
  · exact law_long W _ haw a0 n cap h100
  · rcases F with rfl | ⟨b, off, rfl, hb, hF⟩
    · exact law_empty W _ rfl haw a0 cap
    · exact law_some W _ rfl haw b off n cap (by omega) hb hF

end Go.Proofs.YthpfbljbifcaoaaGreatDoor
