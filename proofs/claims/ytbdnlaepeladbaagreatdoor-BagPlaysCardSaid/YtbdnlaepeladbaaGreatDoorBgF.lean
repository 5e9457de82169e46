/- Entry, Told and Clone. Conditions: how both bags lie in memory. -/
import Derived.Test.YtbdnlaepeladbaaGreatDoorBgE
import Derived.Deep.RegionHeld3
import Derived.Test.YtbdnlaepeladbaaGreatDoorMo
set_option linter.unusedSimpArgs false
set_option linter.unusedVariables false
namespace Go.Proofs.YtbdnlaepeladbaaGreatDoor
open Go.ChangeShapes Go.WideShapes Go.ChangeAt Go.RowKit Go.Eng

set_option maxHeartbeats 1000000 in
set_option maxRecDepth 1000000 in
theorem entry_some {w : World} {b m : Nat} {L : Value} {es : List (Int × Pl)} (h : BagAt w b m L es) (id : Int) {p : Pl} {n : Nat} (hid : aget id es = some p) (hn : WordAt w p.c n) :
    Calls Tryz.prog 44 #[.pointer (some ⟨b, 0, none⟩), .int .u64 id] w fun e w' => e = .returned (.tuple #[.agg #[.int .u64 id, .int .u64 n, .int .u64 p.born, .int .u64 p.since, .int .u64 p.proved], .bool true]) ∧ Below w.heap.size w w' := by
  obtain ⟨w1, hw1⟩ : ∃ w1, w1 = w.alloc (.cells #[.int .u64 0, .int .u64 0, .int .u64 0, .int .u64 0, .int .u64 0] 78) := ⟨_, rfl⟩
  have b1 : Below w.heap.size w w1 := by rw [hw1]; exact (Below.refl _ w).alloc (Nat.le_refl _) _
  have hg := get_calls (h.below b1 h.lt.1 h.lt.2) id
  have hn1 := hn.below b1 hn.lt
  rw [hid] at hg
  change Calls Tryz.prog 94 _ w1 fun e w' => e = .returned (.tuple #[.agg #[.pointer (some ⟨p.c, 0, none⟩), .int .u64 p.born, .int .u64 p.since, .int .u64 p.proved], .bool true]) ∧ Below w1.heap.size w1 w' at hg
  rw [hw1] at hg
  clear h hid
  go_enter Tryz.func44, Tryz.ntmps44
  go_wp2_with (go_at_call 94; with_reducible refine hg.mono ?_; rintro e w2 ⟨rfl, b2⟩)
  have hA : w.heap.size < w1.heap.size := by rw [hw1]; simp
  obtain ⟨w3, hw3⟩ : ∃ w3, w3 = w2.alloc (.cells #[.pointer (some ⟨p.c, 0, none⟩), .int .u64 p.born, .int .u64 p.since, .int .u64 p.proved] 166) := ⟨_, rfl⟩
  rw [← hw1] at b2
  have b3 : Below w1.heap.size w1 w3 := by rw [hw3]; exact b2.alloc b2.size _
  have hblk : w3.heap[w.heap.size]? = some (.cells #[.int .u64 0, .int .u64 0, .int .u64 0, .int .u64 0, .int .u64 0] 78) := by
    have e := (Go.MapKept.heap_alloc w (.cells #[.int .u64 0, .int .u64 0, .int .u64 0, .int .u64 0, .int .u64 0] 78)).1
    rw [← hw1] at e
    rw [b3.block _ hA, e]
  have hn3 := hn1.below b3 hn1.lt
  have hne : w.heap.size ≠ w2.heap.size := by have := b2.size; omega
  have p0 : w3.cell? ⟨w2.heap.size, 0, none⟩ = some (.pointer (some ⟨p.c, 0, none⟩)) := by rw [hw3]; simp
  have p1 : w3.cell? ⟨w2.heap.size, 1, none⟩ = some (.int .u64 p.born) := by rw [hw3]; simp
  have p2 : w3.cell? ⟨w2.heap.size, 2, none⟩ = some (.int .u64 p.since) := by rw [hw3]; simp
  have p3 : w3.cell? ⟨w2.heap.size, 3, none⟩ = some (.int .u64 p.proved) := by rw [hw3]; simp
  have k0 : w3.cell? ⟨w.heap.size, 0, none⟩ = some (.int .u64 0) := by simp [World.cell?, hblk]
  have k1 : w3.cell? ⟨w.heap.size, 1, none⟩ = some (.int .u64 0) := by simp [World.cell?, hblk]
  have k2 : w3.cell? ⟨w.heap.size, 2, none⟩ = some (.int .u64 0) := by simp [World.cell?, hblk]
  have k3 : w3.cell? ⟨w.heap.size, 3, none⟩ = some (.int .u64 0) := by simp [World.cell?, hblk]
  have k4 : w3.cell? ⟨w.heap.size, 4, none⟩ = some (.int .u64 0) := by simp [World.cell?, hblk]
  have f0 : w3.frozen? ⟨w.heap.size, 0, none⟩ = false := by simp [World.frozen?, hblk]
  have f1 : w3.frozen? ⟨w.heap.size, 1, none⟩ = false := by simp [World.frozen?, hblk]
  have f2 : w3.frozen? ⟨w.heap.size, 2, none⟩ = false := by simp [World.frozen?, hblk]
  have f3 : w3.frozen? ⟨w.heap.size, 3, none⟩ = false := by simp [World.frozen?, hblk]
  have f4 : w3.frozen? ⟨w.heap.size, 4, none⟩ = false := by simp [World.frozen?, hblk]
  have hcell := hn3.cell
  have b4 : Below w.heap.size w w3 := b1.trans (b3.mono b1.size)
  have b5 : w.heap.size ≤ w3.heap.size := b4.size
  rw [← hw3]
  clear hw3 hn3 hblk b3 b2 hA hn1 hg hn b1 hw1
  generalize hz : w2.heap.size = Z at hne p0 p1 p2 p3 ⊢
  generalize hy : w.heap.size = A at hne k0 k1 k2 k3 k4 f0 f1 f2 f3 f4 ⊢
  refine wp_region_still_tail 11 (by kernel_rfl) (by kernel_rfl) ?_
  simp only [List.take_succ_cons, List.take_zero, List.drop_succ_cons, List.drop_zero]
  still_step
  still_step
  still_step
  still_call (cell_load p.c n w3.drew hcell)
  still_step
  still_step
  still_step
  still_step
  still_step
  still_step
  still_step
  refine wpStill_nil ?_
  change wpList _ _ _ _ _ w3.drew
  go_wp2
  refine bodyPost_ret (v := .tuple #[.agg #[.int .u64 id, .int .u64 n, .int .u64 p.born, .int .u64 p.since, .int .u64 p.proved], .bool true]) (by simp [results, Tryz.results44, go_sem, k0, k1, k2, k3, k4]) rfl ⟨rfl, ?_⟩
  have hA' := Nat.le_of_eq hy
  exact (((((b4.setCell (p := ⟨A, 0, none⟩) hA' _).setCell (p := ⟨A, 1, none⟩) hA' _).setCell (p := ⟨A, 2, none⟩) hA' _).setCell (p := ⟨A, 3, none⟩) hA' _).setCell (p := ⟨A, 4, none⟩) hA' _).drew

variable {w w' : World} {b : Nat} {ns : List Int} {B : List (List Int)} {D R : Nat → Prop}

theorem pentry (h : PBg w b ns B D R) {id x bo si pr : Int} (hr : rfind id B = some [x, bo, si, pr]) :
    Calls Tryz.prog 44 #[.pointer (some ⟨b, 0, none⟩), .int .u64 id] w fun e w' => e = .returned (.tuple #[.agg #[.int .u64 id, .int .u64 x, .int .u64 bo, .int .u64 si, .int .u64 pr], .bool true]) ∧ Below w.heap.size w w' := by
  obtain ⟨⟨m, L, es, h1⟩, _, _⟩ := h
  cases hid : aget id es with
  | none => rw [h1.no id hid] at hr; cases hr
  | some p =>
    obtain ⟨n, hn, hr2⟩ := h1.ent id p hid
    rw [hr] at hr2
    simp only [rowP, Option.some.injEq, List.cons.injEq, and_true] at hr2
    obtain ⟨rfl, rfl, rfl, rfl⟩ := hr2
    exact entry_some h1.bag id hid hn

theorem pentry0 (h : PBg w b ns B D R) :
    Calls Tryz.prog 44 #[.pointer (some ⟨b, 0, none⟩), .int .u64 0] w fun e w' => e = .returned (.tuple #[.agg #[.int .u64 0, .int .u64 0, .int .u64 0, .int .u64 0, .int .u64 0], .bool false]) ∧ Below w.heap.size w w' := by
  obtain ⟨⟨m, L, es, h1⟩, _, _⟩ := h
  have hid : aget 0 es = none := by
    cases h : aget 0 es with
    | none => rfl
    | some p =>
      obtain ⟨x, _, hr⟩ := h1.ent 0 p h
      rw [h1.zero] at hr; cases hr
  exact entry_none h1.bag 0 hid

theorem rfind_of_mem : ∀ {B : List (List Int)}, SortedR B → ∀ {r : List Int}, r ∈ B → rfind (r.headD 0) B = some r.tail
  | [], _, r, h => by cases h
  | q :: B, hs, r, h => by
    obtain ⟨h1, h2⟩ := List.pairwise_cons.1 hs
    unfold rfind
    rcases List.mem_cons.1 h with rfl | h
    · rw [if_pos rfl]
    · have := h1 r h
      rw [if_neg (by omega)]
      exact rfind_of_mem h2 h

theorem PBg.rows (h : PBg w b ns B D R) {k : Nat} {r : List Int} (hk : B[k]? = some r) : colWfs fiveK r = true ∧ rfind (r.headD 0) B = some r.tail := by
  obtain ⟨⟨m, L, es, h1⟩, _, _⟩ := h
  exact ⟨h1.wf r (List.mem_of_getElem? hk), rfind_of_mem h1.srt (List.mem_of_getElem? hk)⟩

end Go.Proofs.YtbdnlaepeladbaaGreatDoor

namespace Go.Proofs.YtbdnlaepeladbaaGreatDoor
open Go.ChangeShapes Go.WideShapes Go.ChangeAt Go.RowKit Go.Eng

/-- Words in memory. -/
def WdsAt (w : World) (a : Option Addr) (l : List Int) : Prop := ∀ k x, l[k]? = some x → ∃ g o, a = some ⟨g, o, none⟩ ∧ w.cell? ⟨g, o + k, none⟩ = some (.int .u64 x)

theorem WdsAt.below {w w' : World} {a : Option Addr} {l : List Int} (h : WdsAt w a l) (hb : Below w.heap.size w w') : WdsAt w' a l := fun k x hk => by
  obtain ⟨g, o, e, hc⟩ := h k x hk
  refine ⟨g, o, e, ?_⟩
  have e2 := hb.block g (World.block_lt_of_cell? _ _ hc)
  simp only [World.cell?] at hc ⊢
  rw [e2]; exact hc

theorem WdsAt.of_list {w : World} {a : Option Addr} {c n : Nat} {l : List Int} (h : ListAt w (.slice a n c) l) : WdsAt w a l := fun k x hk => by
  rcases h with ⟨e, rfl⟩ | ⟨g, cap, cs, e, h2, h3, h4, h5⟩
  · simp at hk
  · simp only [Value.slice.injEq] at e
    refine ⟨g, 0, e.1, ?_⟩
    simp only [World.cell?, h2, Nat.zero_add]
    exact h5 k x hk

theorem WdsAt.of_lst {w : World} {a : Option Addr} {c n : Nat} {l : List Int} (h : LstAt [.int .u64] w (.slice a n c) (oneRows l)) : WdsAt w a l := fun k x hk => by
  rcases h.shape with ⟨e, h0⟩ | ⟨b, off, cap, e, _⟩
  · simp only [oneRows, List.map_eq_nil_iff] at h0
    rw [h0] at hk; simp at hk
  · simp only [Value.slice.injEq] at e
    obtain ⟨rfl, _, _⟩ := e
    exact ⟨b, off, rfl, h.one (by simp [oneRows, hk])⟩

set_option maxHeartbeats 1000000 in
set_option maxRecDepth 1000000 in
theorem eqB_calls {w : World} {l : List Int} {a1 a2 : Option Addr} (c1 c2 : Nat) (h1 : WdsAt w a1 l) (h2 : WdsAt w a2 l) (hm : l.length ≤ 10000) :
    Calls Tryz.prog 26 #[.slice a1 (List.length l) c1, .slice a2 (List.length l) c2] w fun e w' => e = .returned (.bool true) ∧ Below w.heap.size w w' := by
  have H0 := aside_of (And.intro h1 h2)
  obtain ⟨n, hn⟩ : ∃ n, n = l.length := ⟨_, rfl⟩
  have HN := aside_of hn
  rw [← hn] at hm ⊢
  clear h1 h2 hn
  go_enter Tryz.func26, Tryz.ntmps26
  go_wp2
  go_loopg [13] n (fun gh v13 wr => ∃ k : Nat, k ≤ n ∧ gh = n - k ∧ v13 = .int .i64 k ∧ Below w.heap.size w wr)
  case atStart => exact ⟨0, Nat.zero_le _, rfl, rfl, Below.refl _ _⟩
  case round =>
    obtain ⟨k, hk, rfl, rfl, hb⟩ := hrel
    by_cases hkn : k < n
    · obtain ⟨x, hx⟩ : ∃ x, l[k]? = some x := ⟨_, List.getElem?_eq_getElem (by rw [← HN.out]; exact hkn)⟩
      obtain ⟨g1, o1, rfl, k1⟩ := (H0.out.1.below hb) k x hx
      obtain ⟨g2, o2, rfl, k2⟩ := (H0.out.2.below hb) k x hx
      have hkn' : (k : Int) < (n : Int) := by omega
      have HB := aside_of hb
      clear hb hx
      go_wp2
      go_quiet (fail)
      try go_wp2
      go_roundg (n - (k + 1))
      case measure => omega
      case rel => exact ⟨k + 1, by omega, rfl, by go_num, bdrewN HB.out _⟩
    · have hkn' : ¬ (k : Int) < (n : Int) := by omega
      have HB := aside_of hb
      clear hb
      go_wp2
      go_ret
      exact ⟨rfl, HB.out⟩

end Go.Proofs.YtbdnlaepeladbaaGreatDoor

namespace Go.Proofs.YtbdnlaepeladbaaGreatDoor
open Go.ChangeShapes Go.WideShapes Go.ChangeAt Go.RowKit Go.Eng

variable {w w' v v' : World} {b : Nat} {ns : List Int} {B : List (List Int)} {D R : Nat → Prop}

/-- In Told: the bag, the document's in its box X. -/
structure T15 (w0 : World) (b : Nat) (ns : List Int) (B : List (List Int)) (D R : Nat → Prop) (v1 v2 : Value) (X : Nat) (v : World) : Prop where
  bag : PBg v b ns B D R
  box : v.heap[X]? = some (.cells #[v1, v2] 61 (0, 0))
  l : LstAt fiveK v v1 B
  n : LstAt [.int .u64] v v2 (oneRows ns)
  low : Below w0.heap.size w0 v

theorem T15.below {w0 : World} {v1 v2 : Value} {X : Nat} (h : T15 w0 b ns B D R v1 v2 X v) (hb : Below v.heap.size v v') : T15 w0 b ns B D R v1 v2 X v' :=
  ⟨h.bag.below hb, (hb.block X (Array.getElem?_eq_some_iff.1 h.box).1).trans h.box, h.l.below hb, h.n.below hb, h.low.trans (hb.mono h.low.size)⟩
theorem T15.q0 {w0 : World} {v1 v2 : Value} {X : Nat} (h : T15 w0 b ns B D R v1 v2 X v) : v.cell? ⟨X, 0, none⟩ = some v1 := by simp [World.cell?, h.box]
theorem T15.q1 {w0 : World} {v1 v2 : Value} {X : Nat} (h : T15 w0 b ns B D R v1 v2 X v) : v.cell? ⟨X, 1, none⟩ = some v2 := by simp [World.cell?, h.box]

theorem b_heap_new (v : World) (o : Obj) : (v.alloc o).heap[v.heap.size]? = some o := (Go.MapKept.heap_alloc v o).1
theorem b_below_alloc (v : World) (o : Obj) : Below v.heap.size v (v.alloc o) := (Below.refl _ v).alloc (Nat.le_refl _) o

theorem bown_below {w w' : World} {base e size n : Nat} {v : Value} {xs : List Value} (h : w.ownsRow base e size v n xs) (hb : Below w.heap.size w w') : w'.ownsRow base e size v n xs :=
  ⟨h.1, h.2.imp id fun ⟨g, cap, cur, h1, h2, h3, h4⟩ => ⟨g, cap, cur, h1, h2, (hb.block g (Array.getElem?_eq_some_iff.1 h3).1).trans h3, h4⟩⟩

/-- The ids of rows. -/
def hdV (B : List (List Int)) : List Value := B.map fun r => .int .u64 (r.headD 0)
theorem hdV_step {B : List (List Int)} {k : Nat} {r : List Int} (h : B[k]? = some r) : hdV (B.take (k + 1)) = hdV (B.take k) ++ [.int .u64 (r.headD 0)] := by
  unfold hdV
  rw [List.take_add_one, h, List.map_append]; rfl

theorem cells5 {v : World} {Z : Nat} {x0 x1 x2 x3 x4 : Value} {t : TypeId} (r : v.heap[Z]? = some (.cells #[x0, x1, x2, x3, x4] t (0, 0))) :
    v.cell? ⟨Z, 0, none⟩ = some x0 ∧ v.cell? ⟨Z, 1, none⟩ = some x1 ∧ v.cell? ⟨Z, 2, none⟩ = some x2 ∧ v.cell? ⟨Z, 3, none⟩ = some x3 ∧ v.cell? ⟨Z, 4, none⟩ = some x4 := by
  simp [World.cell?, r]

theorem plist (h : PBg w b ns B D R) : Calls Tryz.prog 110 #[.pointer (some ⟨b, 0, none⟩)] w fun e w' => ∃ L, e = .returned (.agg #[L]) ∧ ListAt w' L ns ∧ Below w.heap.size w w' := by
  obtain ⟨⟨m, L, es, h1⟩, _, _⟩ := h
  exact (list_calls h1.bag h1.lst).mono fun e w' ⟨he, hb⟩ => ⟨L, he, h1.lst.below hb, hb⟩

theorem pall {L : Value} (h : ListAt w L ns) (hl : ns.length ≤ 1000) : Calls Tryz.prog 111 #[.agg #[L]] w fun e w' => ∃ a c, e = .returned (.slice a ns.length c) ∧ WdsAt w' a ns ∧ Below w.heap.size w w' := by
  refine (all_calls h (by omega)).mono ?_
  rintro e w' ⟨L', rfl, h1, hb⟩
  obtain ⟨a, n, c, rfl⟩ := h1.shape
  have : n = ns.length := by
    rcases h1 with ⟨e, rfl⟩ | ⟨g, cap, cs, e, _⟩
    · simp only [Value.slice.injEq] at e; exact e.2.1
    · simp only [Value.slice.injEq] at e; exact e.2.1
  subst this
  exact ⟨a, c, rfl, .of_list h1, hb⟩

structure T15b (w0 : World) (b : Nat) (ns : List Int) (B : List (List Int)) (D R : Nat → Prop) (v1 v2 : Value) (X : Nat) (a5 : Option Addr) (v : World) : Prop where
  t : T15 w0 b ns B D R v1 v2 X v
  ids : WdsAt v a5 (B.map (·.headD 0))
theorem T15b.below {w0 : World} {v1 v2 : Value} {X : Nat} {a5 : Option Addr} (h : T15b w0 b ns B D R v1 v2 X a5 v) (hb : Below v.heap.size v v') : T15b w0 b ns B D R v1 v2 X a5 v' := ⟨h.t.below hb, h.ids.below hb⟩
theorem T15b.s {w0 : World} {v1 v2 : Value} {X : Nat} {a5 : Option Addr} (h : T15b w0 b ns B D R v1 v2 X a5 v) : v.cell? ⟨X, 0, none⟩ = some v1 ∧ v.cell? ⟨X, 1, none⟩ = some v2 := ⟨h.t.q0, h.t.q1⟩
theorem b_below_drew (v : World) : Below v.heap.size v v.drew := ⟨rfl, rfl, rfl, Nat.le_refl _, fun _ _ => rfl⟩

set_option maxHeartbeats 4000000 in
set_option maxRecDepth 1000000 in
theorem told15_calls {v1 v2 : Value} (h : PBg w b ns B D R) (h1 : LstAt fiveK w v1 B) (h2 : LstAt [.int .u64] w v2 (oneRows ns)) (hl : B.length ≤ 1000) (hn : ns.length ≤ 1000)
    (HC : ∀ (v : World) (s : Int), PBg v b ns B D R → Calls Tryz.prog 55 #[.pointer (some ⟨b, 0, none⟩), .int .i64 s] v fun e w' => e = .returned (.int .i64 (countB B s)) ∧ Below v.heap.size v w')
    (HI : ∀ v : World, PBg v b ns B D R → Calls Tryz.prog 109 #[.pointer (some ⟨b, 0, none⟩)] v fun e w' => ∃ a cap, e = .returned (.slice a B.length cap) ∧ ListAt w' (.slice a B.length cap) (B.map (·.headD 0)) ∧ Below v.heap.size v w') :
    Calls Tryz.prog 43 #[.pointer (some ⟨b, 0, none⟩), .agg #[v1, v2]] w fun e w' => e = .returned (.bool true) ∧ Below w.heap.size w w' := by
  obtain ⟨i0, hi0, hz0, hz1, hz2⟩ := info_parts infoW1
  obtain ⟨a1, c1, rfl⟩ := h1.sl
  obtain ⟨a2, c2, rfl⟩ := h2.sl1
  have bx := b_below_alloc w (.cells #[.slice a1 B.length c1, .slice a2 ns.length c2] 61)
  have T0 : Aside (∀ v, Below (w.heap.size + 1) (w.alloc (.cells #[.slice a1 B.length c1, .slice a2 ns.length c2] 61)) v → T15 w b ns B D R (.slice a1 B.length c1) (.slice a2 ns.length c2) w.heap.size v) := aside_of fun v hv =>
    (show T15 w b ns B D R (.slice a1 B.length c1) (.slice a2 ns.length c2) w.heap.size (w.alloc (.cells #[.slice a1 B.length c1, .slice a2 ns.length c2] 61)) from ⟨h.below bx, b_heap_new _ _, h1.below bx, h2.below bx, bx⟩).below (by simpa using hv)
  have HW5 := aside_of h1.wfs
  have HCI := aside_of (And.intro HC HI)
  clear bx h h1 h2 HC HI
  obtain ⟨n, hn'⟩ : ∃ n, n = B.length := ⟨_, rfl⟩
  obtain ⟨m, hm'⟩ : ∃ m, m = ns.length := ⟨_, rfl⟩
  have HN := aside_of (And.intro hn' hm')
  rw [← hn'] at hl T0 HCI ⊢
  rw [← hm'] at hn T0 ⊢
  clear hn' hm'
  go_enter Tryz.func43, Tryz.ntmps43
  go_wp2
  go_loopg [5, 16] n (fun gh v5 v16 wx => ∃ k : Nat, k ≤ n ∧ gh = n - k ∧ v16 = .int .i64 k ∧ wx.ownsRow (w.heap.size + 1) 22 1 v5 k (hdV (B.take k)) ∧ Aside (Below (w.heap.size + 1) (w.alloc (.cells #[.slice a1 n c1, .slice a2 m c2] 61)) wx))
  case atStart => exact ⟨0, Nat.zero_le _, rfl, rfl, World.ownsRow_nil _ _ 22 1, aside_of (Below.refl _ _)⟩
  case round =>
    obtain ⟨k, hk, rfl, rfl, hown, HB⟩ := hrel
    obtain ⟨a5, c5, rfl⟩ := bown_shape hown
    have HO := aside_of hown
    have HT := aside_of (T0.out _ HB.out)
    clear hown
    by_cases hlt : k < n
    · obtain ⟨row, hp⟩ : ∃ row, B[k]? = some row := ⟨_, List.getElem?_eq_getElem (by rw [← HN.out.1]; exact hlt)⟩
      obtain ⟨x0, x1, x2, x3, x4, rfl, _⟩ := five_row (HW5.out _ (List.mem_of_getElem? hp))
      have hf : rfind x0 B = some [x1, x2, x3, x4] := (HT.out.bag.rows hp).2
      have hki : (k : Int) < (n : Int) := by omega
      obtain ⟨bb, off, rfl⟩ : ∃ bb off, a1 = some ⟨bb, off, none⟩ := by
        rcases HT.out.l.shape with ⟨e, e2⟩ | ⟨bb, off, cap, e, _⟩
        · rw [e2] at hp; simp at hp
        · simp only [Value.slice.injEq] at e; exact ⟨bb, off, e.1⟩
      obtain ⟨c0, c1', c2', c3, c4⟩ := HT.out.l.five hp
      have HS := aside_of (hdV_step hp)
      have hrow := b_heap_new wr (.cells #[.int .u64 x0, .int .u64 x1, .int .u64 x2, .int .u64 x3, .int .u64 x4] 175)
      obtain ⟨d0, d1, d2, d3, d4⟩ := cells5 hrow
      have K : Aside (∀ (w7 : World), ((wr.alloc (.cells #[.int .u64 x0, .int .u64 x1, .int .u64 x2, .int .u64 x3, .int .u64 x4] 175)).alloc (.cells #[.int .u64 x0] 22)).grownBy w7 (Value.slice a5 k c5).ownBlock → Below (w.heap.size + 1) (w.alloc (.cells #[.slice (some ⟨bb, off, none⟩) n c1, .slice a2 m c2] 61)) w7 ∧ w7.heap[wr.heap.size]? = some (.cells #[.int .u64 x0, .int .u64 x1, .int .u64 x2, .int .u64 x3, .int .u64 x4] 175 (0, 0))) := aside_of (by
        intro w7 gr
        have ow := World.ownsRow.alloc (World.ownsRow.alloc HO.out (.cells #[.int .u64 x0, .int .u64 x1, .int .u64 x2, .int .u64 x3, .int .u64 x4] 175)) (.cells #[.int .u64 x0] 22)
        have s1 : w.heap.size + 1 ≤ wr.heap.size := by have := HB.out.size; simpa using this
        refine ⟨((HB.out.alloc s1 _).alloc (by simp; omega) _).trans (bgrown_own (by simp; omega) ow gr), ?_⟩
        rw [gr.block wr.heap.size (by simp <;> omega) (fun e => by
          have := (World.ownsRow.lt HO.out _ e.symm).2
          omega)]
        rw [Below.heap_alloc _ _ _ (by simp)]
        exact hrow)
      clear hp hrow
      have hf' := aside_of hf
      have HBs := aside_of (show w.heap.size + 1 ≤ wr.heap.size by have := HB.out.size; simpa using this)
      clear hf
      go_upto_region 6 with (at_builtin; refine wpList_append_own _ rfl (.tmp 20) (.tmp 23) 33 rfl (w.heap.size + 1) 22 i0 (.int .u64 0) 1 8 Tryz.underlying33 hi0 hz0 hz1 hz2 rfl (by decide) (.slice a5 k c5) k (hdV (B.take k)) rfl (World.ownsRow.alloc (World.ownsRow.alloc HO.out _) _) ⟨wr.heap.size + 1, 0, none⟩ 1 1 [.int .u64 x0] rfl rfl (by have := bown_one (wr.alloc (.cells #[.int .u64 x0, .int .u64 x1, .int .u64 x2, .int .u64 x3, .int .u64 x4] 175)) (.int .u64 x0) 22; simpa using this) (by simp [Value.oneCell']) (by unfold maxLen; omega) (by omega) (by have := HBs.out; simp; omega) ?_; intro v7 w7 own7 gr7 _)
      obtain ⟨b7, r7⟩ := K.out _ gr7
      have H7 := aside_of (And.intro own7 (And.intro b7 r7))
      have T7 := T0.out _ b7
      obtain ⟨e0, e1, e2, e3, e4⟩ := cells5 r7
      have hen := pentry T7.bag hf'.out
      clear gr7 own7 b7 r7 T7 d0 d1 d2 d3 d4 c0 c1' c2' c3 c4
      have S7 := aside_of (Array.getElem?_eq_some_iff.1 H7.out.2.2).1
      go_upto_region 7 with (go_at_call 44; with_reducible refine hen.mono ?_; clear hen; rintro e w8 ⟨he, b8⟩; subst he)
      have b9 : Below w7.heap.size w7 (w8.alloc (.cells #[.int .u64 x0, .int .u64 x1, .int .u64 x2, .int .u64 x3, .int .u64 x4] 78)) := b8.alloc b8.size _
      have r9 := (b9.block _ S7.out).trans H7.out.2.2
      have s9 := b_heap_new w8 (.cells #[.int .u64 x0, .int .u64 x1, .int .u64 x2, .int .u64 x3, .int .u64 x4] 78)
      have HB9 := H7.out.2.1.trans (b9.mono (Nat.le_trans (by simp) H7.out.2.1.size))
      have hld := pload (T0.out _ HB9).bag x0
      have hwr : wordR B x0 = x1 := by unfold wordR; rw [hf'.out]; rfl
      rw [hwr, hf'.out] at hld
      simp only [Option.isSome_some] at hld
      have S9 := aside_of (Array.getElem?_eq_some_iff.1 r9).1
      have Z9 := aside_of (Array.getElem?_eq_some_iff.1 s9).1
      clear e0 e1 e2 e3 e4 hwr
      obtain ⟨e0, e1, e2, e3, e4⟩ := cells5 r9
      have H9 := aside_of (And.intro r9 (And.intro s9 (And.intro b9 HB9)))
      clear r9 s9 b9 HB9 b8
      go_upto_region 8 with (go_at_call 32; with_reducible refine hld.mono ?_; clear hld; rintro e w10 ⟨he, b10⟩; subst he)
      have r10 := (b10.block _ S9.out).trans H9.out.1
      have s10 := (b10.block _ Z9.out).trans H9.out.2.1
      have b11 := H9.out.2.2.1.trans (b10.mono H9.out.2.2.1.size)
      have HB11 := H7.out.2.1.trans (b11.mono (Nat.le_trans (by simp) H7.out.2.1.size))
      clear e0 e1 e2 e3 e4
      obtain ⟨e0, e1, e2, e3, e4⟩ := cells5 r10
      obtain ⟨f0, f1, f2, f3, f4⟩ := cells5 s10
      have H11 := aside_of (And.intro b11 HB11)
      have OK : Aside (w10.ownsRow (w.heap.size + 1) 22 1 v7 (k + 1) (hdV (B.take (k + 1)))) := aside_of (by
        rw [HS.out]
        exact bown_below H7.out.1 b11)
      clear r10 s10 b11 HB11 b10
      go_wp2
      go_roundg (n - (k + 1))
      case measure => omega
      case rel => exact ⟨k + 1, by omega, rfl, by go_num, OK.out, aside_of H11.out.2⟩
    · obtain rfl : k = n := by omega
      have F0 : T15b w b ns B D R (.slice a1 k c1) (.slice a2 m c2) w.heap.size a5 wr := ⟨HT.out, by
        have := HO.out
        rw [show B.take k = B by rw [HN.out.1, List.take_length]] at this
        exact .of_list (.of_own (by rw [List.map_map]; exact this))⟩
      have HF := aside_of F0
      clear F0 hk hlt
      go_wp2
      go_loopg [67] 4 (fun gh v67 wx => ∃ s : Nat, s ≤ 4 ∧ gh = 4 - s ∧ v67 = .int .i64 s ∧ Aside (T15b w b ns B D R (.slice a1 k c1) (.slice a2 m c2) w.heap.size a5 wx))
      case atStart => exact ⟨0, by omega, rfl, rfl, HF⟩
      case round =>
        clear HF HO HB HT T0
        obtain ⟨s, hs, rfl, rfl, HF⟩ := hrel
        by_cases hlt : s < 4
        · have hsi : (s : Int) < 4 := by omega
          have F0 := HF.out
          have F := F0.below (b_below_drew _)
          have e1 := fun (v : World) (hv : T15b w b ns B D R (.slice a1 k c1) (.slice a2 m c2) w.heap.size a5 v) => HCI.out.1 v s hv.t.bag
          have e2 := fun (v : World) (hv : T15b w b ns B D R (.slice a1 k c1) (.slice a2 m c2) w.heap.size a5 v) => dcount hv.t.l hv.t.n (by rw [← HN.out.1]; exact hl) (s : Int)
          generalize hcn : (countB B (s : Int) : Int) = cn at e1 e2
          clear hcn
          go_wp2
          go_region_held3 (fun w' => w'.cell? ⟨w.heap.size, 0, none⟩ = some (.slice a1 k c1) ∧ w'.cell? ⟨w.heap.size, 1, none⟩ = some (.slice a2 m c2))
            (first | exact F.s | exact F0.s | go_keep)
            (first
              | (go_at_call 55; with_reducible refine (e1 _ F).mono ?_; rintro x v1 ⟨hx, u1⟩; subst hx; have F := F.below u1)
              | (go_at_call 108; with_reducible refine (e2 _ F).mono ?_; rintro x v2 ⟨hx, u2⟩; subst hx; have F := F.below u2))
          have HF2 := aside_of F
          clear F F0
          go_wp2
          go_roundg (4 - (s + 1))
          case measure => omega
          case rel => exact ⟨s + 1, by omega, rfl, by go_num, HF2⟩
        · obtain rfl : s = 4 := by omega
          have F0 := HF.out
          have F := F0.below (b_below_drew _)
          clear hlt
          obtain ⟨IDS, hI⟩ : ∃ IDS, IDS = B.map (·.headD 0) := ⟨_, rfl⟩
          have hIl : IDS.length = k := by rw [hI, List.length_map, HN.out.1]
          have e3 := fun (v : World) (hv : T15b w b ns B D R (.slice a1 k c1) (.slice a2 m c2) w.heap.size a5 v) => (HCI.out.2 v hv.t.bag).mono fun e w' (he : ∃ a cap, e = .returned (.slice a k cap) ∧ ListAt w' (.slice a k cap) (B.map (·.headD 0)) ∧ Below v.heap.size v w') => show ∃ a cap, e = .returned (.slice a k cap) ∧ WdsAt w' a IDS ∧ Below v.heap.size v w' from by
            obtain ⟨a, cap, h1, h2, h3⟩ := he
            exact ⟨a, cap, h1, by rw [hI]; exact .of_list h2, h3⟩
          have e4 := fun (v : World) (p q : Option Addr) (c1 c2 : Nat) (h1 : WdsAt v p IDS) (h2 : WdsAt v q IDS) => eqB_calls c1 c2 h1 h2 (by omega)
          have e5 := fun (v : World) (hv : T15b w b ns B D R (.slice a1 k c1) (.slice a2 m c2) w.heap.size a5 v) => plist hv.t.bag
          have e6 := fun (v : World) (L : Value) (h : ListAt v L ns) => pall h (by rw [← HN.out.2]; exact hn)
          have e7 := fun (v : World) (p q : Option Addr) (c1 c2 : Nat) (h1 : WdsAt v p ns) (h2 : WdsAt v q ns) => eqB_calls c1 c2 h1 h2 (by rw [← HN.out.2]; omega)
          have e8 := fun (v : World) (hv : T15b w b ns B D R (.slice a1 k c1) (.slice a2 m c2) w.heap.size a5 v) => show WdsAt v a5 IDS from by rw [hI]; exact hv.ids
          have e9 := fun (v : World) (hv : T15b w b ns B D R (.slice a1 k c1) (.slice a2 m c2) w.heap.size a5 v) => WdsAt.of_lst hv.t.n
          rw [hIl] at e4
          rw [← HN.out.2] at e6 e7
          clear hI hIl
          go_wp2
          go_region_held3 (fun w' => w'.cell? ⟨w.heap.size, 0, none⟩ = some (.slice a1 k c1) ∧ w'.cell? ⟨w.heap.size, 1, none⟩ = some (.slice a2 m c2))
            (first | exact F.s | exact F0.s | go_keep)
            (first
              | (go_at_call 109; with_reducible refine (e3 _ F).mono ?_; rintro x v1 ⟨a, cap, hx, i1, u1⟩; subst hx; have F := F.below u1)
              | (go_at_call 26; with_reducible refine (e4 _ _ _ _ _ i1 (e8 _ F)).mono ?_; rintro x v2 ⟨hx, u2⟩; subst hx; have F := F.below u2; clear i1)
              | (go_at_call 110; with_reducible refine (e5 _ F).mono ?_; rintro x v3 ⟨L, hx, i3, u3⟩; subst hx; have F := F.below u3)
              | (go_at_call 111; with_reducible refine (e6 _ _ i3).mono ?_; rintro x v4 ⟨a4, c4, hx, i4, u4⟩; subst hx; have F := F.below u4)
              | (go_at_call 26; with_reducible refine (e7 _ _ _ _ _ i4 (e9 _ F)).mono ?_; rintro x v5 ⟨hx, u5⟩; subst hx; have F := F.below u5))
          go_wp2
          go_ret
          exact ⟨rfl, F.t.low⟩

end Go.Proofs.YtbdnlaepeladbaaGreatDoor

namespace Go.Proofs.YtbdnlaepeladbaaGreatDoor
open Go.ChangeShapes Go.WideShapes Go.ChangeAt Go.RowKit Go.Eng

theorem cclone {w : World} {c n : Nat} (h : WordAt w c n) : Calls Tryz.prog 93 #[.pointer (some ⟨c, 0, none⟩)] w fun e w' => e = .returned (.pointer (some ⟨w.heap.size, 0, none⟩)) ∧ w' = w.alloc (.cells #[.int .u64 n] 250) := by
  have c1 := cell_load c n w h.cell
  have c2 := fun v => cell_made n v
  clear h
  go_enter Tryz.func93, Tryz.ntmps93
  go_wp2_with (first | (go_at_call 95; with_reducible refine c1.mono ?_; rintro e w1 ⟨he, hw⟩; subst he; subst hw) | (go_at_call 105; with_reducible refine (c2 _).mono ?_; rintro e w2 ⟨he, hw⟩; subst he; subst hw))
  go_ret
  exact ⟨rfl, rfl⟩

/-- In Clone's loop. -/
structure CI (w0 : World) (b' m' Z : Nat) (L : Value) (es : List (Int × Pl)) (ms0 : List MapEntry) (clock : Nat) (seen : List Nat) (ms : List MapEntry) (es' : List (Int × Pl)) (v : World) : Prop where
  goes : Go.Eng.Goes v Z m' clock seen ms clock
  sg : ms.map sig = ms0.map sig
  ents : EntsR .u64 plV ms es'
  k1 : Keys1 es'
  row : v.heap[b']? = some (.cells #[.map (some m'), L] 162 (0, 0))
  low : Below w0.heap.size w0 v
  lo3 : w0.heap.size ≤ m' ∧ w0.heap.size ≤ b' ∧ w0.heap.size ≤ Z
  no : ∀ id, aget id es = none → aget id es' = none
  yes : ∀ id p, aget id es = some p → ∃ p', aget id es' = some p' ∧ p'.born = p.born ∧ p'.since = p.since ∧ p'.proved = p.proved ∧ (p' = p ∨ (w0.heap.size ≤ p'.c ∧ p'.c ≠ m' ∧ ∀ n, WordAt w0 p.c n → WordAt v p'.c n))
  new : ∀ e ∈ ms0, e.born ∈ seen → ∀ id, e.key = .int .u64 id → ∀ p', aget id es' = some p' → w0.heap.size ≤ p'.c
  inj : ∀ i j p q, aget i es' = some p → aget j es' = some q → w0.heap.size ≤ p.c → p.c = q.c → i = j

variable {w0 v v' : World} {b' m' Z clock : Nat} {L : Value} {es es' : List (Int × Pl)} {ms0 ms : List MapEntry} {seen : List Nat}

theorem CI.below (h : CI w0 b' m' Z L es ms0 clock seen ms es' v) (hb : Below v.heap.size v v') : CI w0 b' m' Z L es ms0 clock seen ms es' v' where
  goes := by
    obtain ⟨h1, h2, h3, h4⟩ := h.goes
    exact ⟨(hb.block _ (Array.getElem?_eq_some_iff.1 h1).1).trans h1, (hb.block _ (Array.getElem?_eq_some_iff.1 h2).1).trans h2, h3, h4⟩
  sg := h.sg
  ents := h.ents
  k1 := h.k1
  row := (hb.block _ (Array.getElem?_eq_some_iff.1 h.row).1).trans h.row
  low := h.low.trans (hb.mono h.low.size)
  lo3 := h.lo3
  no := h.no
  yes := fun id p hp => by
    obtain ⟨p', h1, h2, h3, h4, h5⟩ := h.yes id p hp
    refine ⟨p', h1, h2, h3, h4, h5.imp (fun h => h) ?_⟩
    rintro ⟨g1, g2, g3⟩
    exact ⟨g1, g2, fun n hn => (g3 n hn).below hb (g3 n hn).lt⟩
  new := h.new
  inj := h.inj

theorem WordAt.uniq {w : World} {c x y : Nat} (h : WordAt w c x) (h' : WordAt w c y) : x = y := by
  unfold WordAt at h h'
  rw [h] at h'; simp at h'; omega

/-- A round. -/
theorem CI.step (h : CI w0 b' m' Z L es ms0 clock seen ms es' v) (hw : ∀ id p, aget id es = some p → ∃ n, WordAt w0 p.c n) {e : MapEntry} (he : e ∈ ms) (hns : ¬ e.born ∈ seen) {i : Int} {pl : Pl} (hp : (i, pl) ∈ es') (hkey : e.key = .int .u64 i) {w14 : World}
    (hg2 : Go.Eng.Goes w14 Z m' clock (seen ++ [e.born]) ms clock) (hos : w14.os = v.os) (htp : w14.tape = v.tape) (hou : w14.output = v.output) (hsz : w14.heap.size = v.heap.size) (hbk : ∀ j, j ≠ Z → w14.heap[j]? = v.heap[j]?)
    {n : Nat} (hn : WordAt v pl.c n) {ms2 : List MapEntry} (hents : EntsR .u64 plV ms2 (aput i { pl with c := w14.heap.size + 1 } es')) (hst : Stamped ms2 clock) (hsig : ms2.map sig = ms.map sig)
    (k1 : v'.os = w14.os) (k2 : v'.tape = w14.tape) (k3 : v'.output = w14.output) (k4 : w14.heap.size + 2 ≤ v'.heap.size) (k5 : ∀ j, j < w14.heap.size → j ≠ m' → v'.heap[j]? = w14.heap[j]?)
    (k6 : v'.heap[m']? = some (.map ms2.toArray clock)) (k7 : WordAt v' (w14.heap.size + 1) n) :
    CI w0 b' m' Z L es ms0 clock (seen ++ [e.born]) ms2 (aput i { pl with c := w14.heap.size + 1 } es') v' ∧ Go.Eng.leftOf ms0 (seen ++ [e.born]) < Go.Eng.leftOf ms0 seen := by
  obtain ⟨g1, g2, g3, g4⟩ := h.goes
  obtain ⟨_, f2, _, _⟩ := hg2
  have hm : m' < v.heap.size := (Array.getElem?_eq_some_iff.1 g1).1
  have hz : Z < v.heap.size := (Array.getElem?_eq_some_iff.1 g2).1
  have hbl : b' < v.heap.size := (Array.getElem?_eq_some_iff.1 h.row).1
  have hbm : b' ≠ m' := by rintro rfl; rw [h.row] at g1; cases g1
  have hbz : b' ≠ Z := by rintro rfl; rw [h.row] at g2; cases g2
  have hpi : aget i es' = some pl := Keys1.get h.k1 hp
  have hlow := h.low.size
  have keep : ∀ c x, WordAt v c x → c ≠ m' → WordAt v' c x := fun c x hx hc => by
    have hl := hx.lt
    have hcz : c ≠ Z := by rintro rfl; unfold WordAt at hx; rw [hx] at g2; cases g2
    exact (k5 c (by omega) hc).trans ((hbk c hcz).trans hx)
  obtain ⟨e0, he0, hb0, hk0⟩ := sig_mem h.sg he
  have hbnd : ∀ id q, aget id es' = some q → q.c < v.heap.size := fun id q hq => by
    cases ho : aget id es with
    | none => rw [h.no id ho] at hq; cases hq
    | some p =>
      obtain ⟨p', h1, _, _, _, h5⟩ := h.yes id p ho
      rw [hq] at h1
      obtain rfl := Option.some.inj h1
      obtain ⟨x, hx⟩ := hw id p ho
      rcases h5 with rfl | ⟨_, _, h5⟩
      · have := hx.lt; omega
      · exact (h5 x hx).lt
  refine ⟨⟨⟨k6, (k5 Z (by omega) g4).trans f2, hst, g4⟩, hsig.trans h.sg, hents, h.k1.put _ _, (k5 b' (by omega) hbm).trans ((hbk b' hbz).trans h.row), ?_, h.lo3, ?_, ?_, ?_, ?_⟩, ?_⟩
  · refine ⟨k1.trans (hos.trans h.low.os), k2.trans (htp.trans h.low.tape), k3.trans (hou.trans h.low.output), by omega, fun j hj => ?_⟩
    have := h.lo3
    rw [k5 j (by omega) (by omega), hbk j (by omega), h.low.block j hj]
  · intro id hno
    rw [aget_aput']
    have h0 := h.no id hno
    split
    · rename_i e1
      subst e1
      rw [hpi] at h0; cases h0
    · exact h0
  · intro id p hp2
    rw [aget_aput']
    obtain ⟨p', h1, h2, h3, h4, h5⟩ := h.yes id p hp2
    split
    · rename_i e1
      subst e1
      rw [hpi] at h1
      obtain rfl := Option.some.inj h1
      refine ⟨_, rfl, h2, h3, h4, .inr ⟨by show w0.heap.size ≤ w14.heap.size + 1; omega, by show w14.heap.size + 1 ≠ m'; omega, fun x hx => ?_⟩⟩
      have : WordAt v pl.c x := by
        rcases h5 with rfl | ⟨_, _, h5⟩
        · exact hx.below h.low hx.lt
        · exact h5 x hx
      rw [this.uniq hn]; exact k7
    · refine ⟨p', h1, h2, h3, h4, h5.imp (fun h => h) ?_⟩
      rintro ⟨r1, r2, r3⟩
      exact ⟨r1, r2, fun x hx => keep _ _ (r3 x hx) r2⟩
  · intro ex hex hsn id hke p' hp'
    rw [aget_aput'] at hp'
    split at hp'
    · obtain rfl := Option.some.inj hp'
      show w0.heap.size ≤ w14.heap.size + 1
      omega
    · rename_i hne
      rcases List.mem_append.1 hsn with hsn | hsn
      · exact h.new ex hex hsn id hke p' hp'
      · exfalso
        have hbe : ex.born = e.born := by simpa using hsn
        have h1 : ex = e0 := by
          have hs0 : ms0.Pairwise (fun a b => a.born ≠ b.born) := by
            have h1 : (ms.map (·.born)).Nodup := List.pairwise_map.2 (g3.1)
            have h2 : ms.map (·.born) = ms0.map (·.born) := by
              have := congrArg (List.map Prod.fst) h.sg
              simpa [List.map_map, Function.comp_def, sig] using this
            rw [h2] at h1
            exact List.pairwise_map.1 h1
          exact stamp_one hs0 hex he0 (by rw [hbe, hb0])
        rw [h1, hk0, hkey] at hke
        exact hne (by simpa using hke.symm)
  · intro i1 j1 p q hp1 hq1 hge hc
    rw [aget_aput'] at hp1 hq1
    split at hp1 <;> split at hq1
    · rename_i e1 e2
      rw [e1, e2]
    · obtain rfl := Option.some.inj hp1
      have := hbnd j1 q hq1
      simp only at hc
      omega
    · obtain rfl := Option.some.inj hq1
      have := hbnd i1 p hp1
      simp only at hc
      omega
    · exact h.inj i1 j1 p q hp1 hq1 hge hc
  · have := leftOf_lt (seen := seen) he0 (by rw [hb0]; exact hns)
    rw [hb0] at this
    exact this

theorem cell_belowB {v v' : World} {E j o : Nat} {x : Value} (h : Below E v v') (hj : j < E) (hc : v.cell? ⟨j, o, none⟩ = some x) : v'.cell? ⟨j, o, none⟩ = some x := by
  have := h.block j hj
  simp only [World.cell?] at hc ⊢
  rw [this]; exact hc

set_option maxHeartbeats 4000000 in
set_option maxRecDepth 1000000 in
theorem bclone {w : World} {b m : Nat} {L : Value} {es : List (Int × Pl)} (h : BagAt w b m L es) (hL : ∃ a n c, L = .slice a n c) (hk : Keys1 es) (hw : ∀ id p, aget id es = some p → ∃ n, WordAt w p.c n)
    (HCL : ∀ v : World, MapSt .u64 plV v m es → Calls Tryz.prog 92 #[.map (some m)] v fun e w' => e = .returned (.map (some v.heap.size)) ∧ MapSt .u64 plV w' v.heap.size es ∧ Below v.heap.size v w' ∧ w'.heap.size = v.heap.size + 1) :
    Calls Tryz.prog 31 #[.pointer (some ⟨b, 0, none⟩)] w fun e w' => ∃ b' m' Z clock seen ms0 ms es', e = .returned (.pointer (some ⟨b', 0, none⟩)) ∧ CI w b' m' Z L es ms0 clock seen ms es' w' ∧ ∀ e ∈ ms0, e.born ∈ seen := by
  obtain ⟨aL, nL, cL, rfl⟩ := hL
  have q0 := h.cell
  have q1 := h.cell1
  have c1 := HCL w.drew (h.2.same rfl)
  have hlt := h.lt
  have H0 := aside_of (And.intro h (And.intro hk (And.intro hw hlt)))
  clear HCL h hk hw hlt
  go_enter Tryz.func31, Tryz.ntmps31
  go_upto_region 3 with fail
  have HBd : Aside (b < w.drew.heap.size) := aside_of H0.out.2.2.2.1
  have p0 : w.drew.cell? ⟨b, 0, none⟩ = some (.map (some m)) := q0
  have p1 : w.drew.cell? ⟨b, 1, none⟩ = some (.slice aL nL cL) := q1
  go_region_held3 (fun w' => w'.cell? ⟨b, 0, none⟩ = some (.map (some m)) ∧ w'.cell? ⟨b, 1, none⟩ = some (.slice aL nL cL))
    (first | exact ⟨p0, p1⟩ | exact ⟨g0, g1⟩ | go_keep)
    (first
      | (go_at_call 92; with_reducible refine c1.mono ?_; rintro x w2 ⟨hx, m2, b2, s2⟩; subst hx; have g0 := cell_belowB b2 HBd.out p0; have g1 := cell_belowB b2 HBd.out p1))
  obtain ⟨HB, Hk, Hw, Hb, Hm⟩ := H0.out
  have s2' : w2.heap.size = w.heap.size + 1 := s2
  obtain ⟨w3, hw3⟩ : ∃ w3, w3 = w2.alloc (.cells #[.map (some w.heap.size), .slice aL nL cL] 162) := ⟨_, rfl⟩
  have b23 : Below w2.heap.size w2 w3 := by rw [hw3]; exact b_below_alloc _ _
  have b03 : Below w.heap.size w w3 := (show Below w.heap.size w w2 from (b_below_drew w).trans b2).trans (b23.mono (by omega))
  have r3 : w3.heap[w.heap.size + 1]? = some (.cells #[.map (some w.heap.size), .slice aL nL cL] 162 (0, 0)) := by rw [hw3, ← s2']; exact b_heap_new _ _
  have s3 : w3.heap.size = w.heap.size + 2 := by rw [hw3]; simp; omega
  have m3 : MapSt .u64 plV w3 w.heap.size es := (show MapSt .u64 plV w2 w.heap.size es from m2).below b23 (by omega)
  have q3 : w3.cell? ⟨w.heap.size + 1, 0, none⟩ = some (.map (some w.heap.size)) := by simp [World.cell?, r3]
  obtain ⟨ms, clock, hents, hrange, hgoes⟩ := run_range_st (P := Tryz.prog) Tryz.underlying158 m3
  have b34 := b_below_alloc w3 (.mapIter (some w.heap.size) clock #[] clock)
  rw [s3] at hrange hgoes
  have C0 : CI w (w.heap.size + 1) w.heap.size (w.heap.size + 2) (.slice aL nL cL) es ms clock [] ms es (w3.alloc (.mapIter (some w.heap.size) clock #[] clock)) :=
    ⟨hgoes, rfl, hents, Hk, (b34.block _ (by omega)).trans r3, b03.trans (b34.mono (by omega)), ⟨Nat.le_refl _, Nat.le_succ _, by omega⟩, fun _ h => h, fun id p hp => ⟨p, hp, rfl, rfl, rfl, .inl rfl⟩, fun e _ h => by simp at h, fun i j p q hp _ hge _ => by
      obtain ⟨n, hn⟩ := Hw i p hp
      have := hn.lt
      omega⟩
  have HC := aside_of C0
  have r4 : (w3.alloc (.mapIter (some w.heap.size) clock #[] clock)).cell? ⟨w.heap.size + 1, 0, none⟩ = some (.map (some w.heap.size)) := cell_belowB b34 (by omega) q3
  rw [← hw3]
  clear C0 hents hgoes b34 m3 s3 r3 b03 b23 hw3 s2' m2 b2 s2 g0 g1 p0 p1 q0 q1 c1 HB Hk Hw Hb Hm
  generalize hw4 : w3.alloc (.mapIter (some w.heap.size) clock #[] clock) = w4 at hrange HC r4
  have HHW : Aside (∀ id p, aget id es = some p → ∃ n, WordAt w p.c n) := aside_of H0.out.2.2.1
  clear H0 HBd
  go_wp2
  go_loopg [] (Go.Eng.leftOf ms []) (fun gh wx => ∃ seen ms1 es1, gh = Go.Eng.leftOf ms seen ∧ Aside (CI w (w.heap.size + 1) w.heap.size (w.heap.size + 2) (.slice aL nL cL) es ms clock seen ms1 es1 wx))
  case atStart => exact ⟨[], ms, es, rfl, HC⟩
  case round =>
    clear hrange HC r4
    obtain ⟨seen, ms1, es1, rfl, HC⟩ := hrel
    rcases run_next_all (P := Tryz.prog) (ty := 0) HC.out.goes with ⟨dr, hnx, hall⟩ | ⟨ent, he, hsn, w14, hnx, hg2, hos, htp, hou, hsz, hbk⟩
    · have HX := aside_of (show CI w (w.heap.size + 1) w.heap.size (w.heap.size + 2) (.slice aL nL cL) es ms clock seen ms1 es1 { wr with drawn := dr } from HC.out.below ⟨rfl, rfl, rfl, Nat.le_refl _, fun _ _ => rfl⟩)
      have HA := aside_of (show ∀ e ∈ ms, e.born ∈ seen from fun e he => by
        obtain ⟨e0, h0, h1, _⟩ := sig_mem HC.out.sg.symm he
        rw [← h1]; exact hall e0 h0)
      clear hall
      go_wp2
      go_ret
      exact ⟨_, _, _, _, _, _, _, _, rfl, HX.out, HA.out⟩
    · obtain ⟨p, hp, hkey, hval⟩ := ents_mem HC.out.ents he
      have hen := run_entry_goes (P := Tryz.prog) hg2 he
      rw [hkey, hval] at hnx hen
      obtain ⟨id, pl⟩ := p
      obtain ⟨n, hn⟩ : ∃ n, WordAt wr pl.c n := by
        have hg := Keys1.get HC.out.k1 hp
        cases ho : aget id es with
        | none => rw [HC.out.no id ho] at hg; cases hg
        | some p0 =>
          obtain ⟨p', h1, _, _, _, h5⟩ := HC.out.yes id p0 ho
          rw [hg] at h1
          obtain rfl := Option.some.inj h1
          obtain ⟨x, hx⟩ := HHW.out id p0 ho
          rcases h5 with rfl | ⟨_, _, h5⟩
          · exact ⟨x, hx.below HC.out.low hx.lt⟩
          · exact ⟨x, h5 x hx⟩
      have HS := aside_of (And.intro he (And.intro hsn (And.intro hp (And.intro hkey (And.intro hg2 (And.intro hos (And.intro htp (And.intro hou (And.intro hsz (And.intro hbk hn))))))))))
      have hlt14 := hn.lt
      have hn14 : WordAt w14 pl.c n := by
        refine (hbk _ ?_).trans hn
        rintro e
        have g2 := HC.out.goes.2.1
        unfold WordAt at hn
        rw [e, g2] at hn; cases hn
      have row14 : w14.heap[w.heap.size + 1]? = some (.cells #[.map (some w.heap.size), .slice aL nL cL] 162 (0, 0)) := (hbk _ (by omega)).trans HC.out.row
      change Sem.run Tryz.prog (Instr.next (.pointer (some ⟨w.heap.size + 2, 0, none⟩)) false 0) wr = Result.ok (.tuple #[.bool true, .int .u64 id, plV pl]) w14 at hnx
      change Sem.run Tryz.prog (Instr.entry (.pointer (some ⟨w.heap.size + 2, 0, none⟩))) w14 = Result.ok (.tuple #[.int .u64 id, plV pl]) w14 at hen
      unfold plV at hnx hen
      obtain ⟨w15, hw15⟩ : ∃ w15, w15 = w14.alloc (.cells #[.pointer (some ⟨pl.c, 0, none⟩), .int .u64 pl.born, .int .u64 pl.since, .int .u64 pl.proved] 166) := ⟨_, rfl⟩
      have b15 : Below w14.heap.size w14 w15 := by rw [hw15]; exact b_below_alloc _ _
      have s15 : w15.heap.size = w14.heap.size + 1 := by rw [hw15]; simp
      have r15 : w15.heap[w14.heap.size]? = some (.cells #[.pointer (some ⟨pl.c, 0, none⟩), .int .u64 pl.born, .int .u64 pl.since, .int .u64 pl.proved] 166 (0, 0)) := by rw [hw15]; exact b_heap_new _ _
      have hcc := cclone (hn14.below b15 hn14.lt)
      have x0 : w15.cell? ⟨w14.heap.size, 0, none⟩ = some (.pointer (some ⟨pl.c, 0, none⟩)) := by simp [World.cell?, r15]
      have HR := aside_of (And.intro b15 (And.intro s15 (And.intro r15 row14)))
      clear hn hn14 hlt14 he hsn hp hkey hval hg2 hos htp hou hsz hbk b15 r15 row14
      go_upto_region 7 with fail
      rw [← hw15]
      clear hw15
      have b16 := b_below_alloc w15 (.cells #[.int .u64 n] 250)
      have r16 : (w15.alloc (.cells #[.int .u64 n] 250)).heap[w14.heap.size]? = some (.cells #[.pointer (some ⟨pl.c, 0, none⟩), .int .u64 pl.born, .int .u64 pl.since, .int .u64 pl.proved] 166 (0, 0)) := (b16.block _ (by rw [HR.out.2.1]; omega)).trans HR.out.2.2.1
      have f16 : (w15.alloc (.cells #[.int .u64 n] 250)).frozen? ⟨w14.heap.size, 0, none⟩ = false := by simp [World.frozen?, r16]
      have x16 : (w15.alloc (.cells #[.int .u64 n] 250)).cell? ⟨w14.heap.size, 0, none⟩ = some (.pointer (some ⟨pl.c, 0, none⟩)) := by simp [World.cell?, r16]
      have H16 := aside_of (And.intro b16 r16)
      clear b16 r16
      go_upto_region 8 with (go_at_call 93; with_reducible refine hcc.mono ?_; clear hcc; rintro e w16 ⟨he, hw16⟩; subst he; subst hw16)
      have s16 : (w15.alloc (.cells #[.int .u64 n] 250)).heap.size = w14.heap.size + 2 := by simp [HR.out.2.1]
      have e15 : w15.heap.size = w14.heap.size + 1 := HR.out.2.1
      obtain ⟨w17, hw17⟩ : ∃ w17, w17 = (w15.setCell ⟨w14.heap.size, 0, none⟩ (.pointer (some ⟨w14.heap.size + 1, 0, none⟩))).alloc (.cells #[.int .u64 n] 250) := ⟨_, rfl⟩
      have z15 : (w15.setCell ⟨w14.heap.size, 0, none⟩ (.pointer (some ⟨w14.heap.size + 1, 0, none⟩))).heap.size = w14.heap.size + 1 := by simp [e15]
      have r17 : w17.heap[w14.heap.size]? = some (.cells #[.pointer (some ⟨w14.heap.size + 1, 0, none⟩), .int .u64 pl.born, .int .u64 pl.since, .int .u64 pl.proved] 166 (0, 0)) := by
        rw [hw17, Below.heap_alloc _ _ _ (by rw [z15]; omega), setCell_heap HR.out.2.2.1]; rfl
      have k17 : ∀ j, j < w14.heap.size → w17.heap[j]? = w14.heap[j]? := fun j hj => by
        rw [hw17, Below.heap_alloc _ _ _ (by rw [z15]; omega), Below.heap_setCell _ _ _ _ (by show j ≠ w14.heap.size; omega), HR.out.1.block j hj]
      have n17 : WordAt w17 (w14.heap.size + 1) n := by
        unfold WordAt
        have hx := b_heap_new (w15.setCell ⟨w14.heap.size, 0, none⟩ (.pointer (some ⟨w14.heap.size + 1, 0, none⟩))) (.cells #[.int .u64 n] 250)
        rw [z15] at hx
        rw [hw17]; exact hx
      have s17 : w17.heap.size = w14.heap.size + 2 := by rw [hw17]; simp [e15]
      have o17 : w17.os = w14.os ∧ w17.tape = w14.tape ∧ w17.output = w14.output := by
        have hb := (HR.out.1.setCell (p := ⟨w14.heap.size, 0, none⟩) (Nat.le_refl _) (.pointer (some ⟨w14.heap.size + 1, 0, none⟩))).alloc (by rw [z15]; omega) (.cells #[.int .u64 n] 250)
        rw [← hw17] at hb
        exact ⟨hb.os, hb.tape, hb.output⟩
      rw [← hw17]
      clear hw17 s16 H16 f16 x16 x0
      obtain ⟨he, hsn, hp, hkey, hg2, hos, htp, hou, hsz, hbk, hn⟩ := HS.out
      have hm14 : w14.heap[w.heap.size]? = some (.map ms1.toArray clock) := hg2.1
      have hml : w.heap.size < w14.heap.size := (Array.getElem?_eq_some_iff.1 hm14).1
      have hm17 : w17.drew.heap[w.heap.size]? = some (.map ms1.toArray clock) := (k17 _ hml).trans hm14
      obtain ⟨ms2, hmu, hents2, hst2, hsg2⟩ := run_mapUpdate_in (P := Tryz.prog) Tryz.underlying158 Tryz.underlying22 hm17 HC.out.ents hg2.2.2.1 id { pl with c := w14.heap.size + 1 } (Keys1.get HC.out.k1 hp)
      change Sem.run Tryz.prog (Instr.mapUpdate 158 (.map (some w.heap.size)) (.int .u64 id) (.agg #[.pointer (some ⟨w14.heap.size + 1, 0, none⟩), .int .u64 pl.born, .int .u64 pl.since, .int .u64 pl.proved])) w17.drew = _ at hmu
      obtain ⟨w18, hw18⟩ : ∃ w18, w18 = { w17.drew with heap := w17.drew.heap.setIfInBounds w.heap.size (.map ms2.toArray clock) } := ⟨_, rfl⟩
      rw [← hw18] at hmu
      have q17 : w17.cell? ⟨w.heap.size + 1, 0, none⟩ = some (.map (some w.heap.size)) := by
        have := (k17 (w.heap.size + 1) (Array.getElem?_eq_some_iff.1 HR.out.2.2.2).1).trans HR.out.2.2.2
        simp [World.cell?, this]
      have y0 : w17.cell? ⟨w14.heap.size, 0, none⟩ = some (.pointer (some ⟨w14.heap.size + 1, 0, none⟩)) := by simp [World.cell?, r17]
      have y1 : w17.cell? ⟨w14.heap.size, 1, none⟩ = some (.int .u64 pl.born) := by simp [World.cell?, r17]
      have y2 : w17.cell? ⟨w14.heap.size, 2, none⟩ = some (.int .u64 pl.since) := by simp [World.cell?, r17]
      have y3 : w17.cell? ⟨w14.heap.size, 3, none⟩ = some (.int .u64 pl.proved) := by simp [World.cell?, r17]
      have g18 : ∀ j, w18.heap[j]? = if w.heap.size = j then (if w.heap.size < w17.heap.size then some (Obj.map ms2.toArray clock) else none) else w17.heap[j]? := fun j => by
        rw [hw18]; exact Array.getElem?_setIfInBounds
      have z18 : w18.heap.size = w17.heap.size := by rw [hw18]; simp
      have fin := HC.out.step HHW.out he hsn hp hkey hg2 hos htp hou hsz hbk hn hents2 hst2 hsg2 (v' := w18) (by rw [hw18]; exact o17.1) (by rw [hw18]; exact o17.2.1) (by rw [hw18]; exact o17.2.2) (by rw [z18, s17]; omega)
        (fun j hj hne => by rw [g18, if_neg (fun e => hne e.symm)]; exact k17 j hj)
        (by rw [g18, if_pos rfl, if_pos (by omega)])
        (by unfold WordAt; rw [g18, if_neg (by omega)]; exact n17)
      have HFIN := aside_of fin
      clear fin g18 z18 hw18 hents2 hst2 hsg2 hm17 hm14 hml he hsn hp hkey hg2 hos htp hou hsz hbk hn HR HS n17 k17 r17 o17 s17 HC hnx hen s15 e15 z15
      refine wp_region_still_tail 6 (by kernel_rfl) (by kernel_rfl) ?_
      simp only [List.take_succ_cons, List.take_zero, List.drop_succ_cons, List.drop_zero]
      still_step
      still_step
      still_step
      still_step
      still_step
      still_step
      refine wpStill_nil ?_
      change wpList _ _ _ _ _ w17.drew
      go_wp2
      go_roundg (Go.Eng.leftOf ms (seen ++ [ent.born]))
      case measure => exact HFIN.out.2
      case rel => exact ⟨seen ++ [ent.born], ms2, _, rfl, aside_of HFIN.out.1⟩

/-- A bag of its own, with the same rows. -/
theorem pclone {w : World} {b : Nat} {ns : List Int} {B : List (List Int)} {D R : Nat → Prop} (h : PBg w b ns B D R)
    (HCL : ∀ (m : Nat) (es : List (Int × Pl)) (v : World), MapSt .u64 plV v m es → Calls Tryz.prog 92 #[.map (some m)] v fun e w' => e = .returned (.map (some v.heap.size)) ∧ MapSt .u64 plV w' v.heap.size es ∧ Below v.heap.size v w' ∧ w'.heap.size = v.heap.size + 1) :
    Calls Tryz.prog 31 #[.pointer (some ⟨b, 0, none⟩)] w fun e w' => ∃ b' D', e = .returned (.pointer (some ⟨b', 0, none⟩)) ∧ PBg w' b' ns B D' R ∧ (∀ c, D' c → w.heap.size ≤ c) ∧ Below w.heap.size w w' := by
  obtain ⟨⟨m, L, es, h1⟩, h2, h3⟩ := h
  refine (bclone h1.bag h1.lst.shape h1.keys (fun id p hp => by obtain ⟨x, hx, _⟩ := h1.ent id p hp; exact ⟨x, hx⟩) (HCL m es)).mono ?_
  rintro e w' ⟨b', m', Z, clock, seen, ms0, ms, es', rfl, hc, hall⟩
  have hnew : ∀ id p', aget id es' = some p' → w.heap.size ≤ p'.c := fun id p' hp => by
    obtain ⟨e0, he0, hk, _⟩ := ents_mem' hc.ents (aget_mem hp)
    obtain ⟨e1, he1, hb1, hk1⟩ := sig_mem hc.sg he0
    exact hc.new e1 he1 (hall e1 he1) id (by rw [hk1, hk]) p' hp
  have hm' : m' < w'.heap.size := (Array.getElem?_eq_some_iff.1 hc.goes.1).1
  have hb' : b' < w'.heap.size := (Array.getElem?_eq_some_iff.1 hc.row).1
  have hent : ∀ id p', aget id es' = some p' → ∃ x : Nat, WordAt w' p'.c x ∧ rfind id B = some (rowP p' x) := fun id p' hp => by
    cases ho : aget id es with
    | none => rw [hc.no id ho] at hp; cases hp
    | some p =>
      obtain ⟨p2, g1, g2, g3, g4, g5⟩ := hc.yes id p ho
      rw [hp] at g1
      obtain rfl := Option.some.inj g1
      obtain ⟨x, hx, hr⟩ := h1.ent id p ho
      refine ⟨x, ?_, by rw [hr]; unfold rowP; rw [g2, g3, g4]⟩
      rcases g5 with rfl | ⟨_, _, g5⟩
      · have := hnew id _ hp
        have := hx.lt
        omega
      · exact g5 x hx
  have hbm : b' ≠ m' := fun e => by
    have e1 := hc.row
    have e2 := hc.goes.1
    rw [e, e2] at e1; cases e1
  have hno : ∀ id, aget id es' = none → rfind id B = none := fun id hid => by
    cases ho : aget id es with
    | none => exact h1.no id ho
    | some p =>
      obtain ⟨p2, g1, _⟩ := hc.yes id p ho
      rw [hid] at g1; cases g1
  have hdc : ∀ id p, aget id es' = some p → w.heap.size ≤ p.c ∧ p.c < w'.heap.size := fun id p hp => ⟨hnew id p hp, by obtain ⟨x, hx, _⟩ := hent id p hp; exact hx.lt⟩
  refine ⟨b', fun c => w.heap.size ≤ c ∧ c < w'.heap.size, rfl, ⟨⟨m', L, es', ?_⟩, fun c hc => hc.2, fun c hc2 => ⟨Nat.lt_of_lt_of_le (h3 c hc2).1 hc.low.size, fun hd => ?_⟩⟩, fun c hd => hd.1, hc.low⟩
  · exact ⟨⟨hc.row, ⟨ms, clock, hc.goes.1, hc.ents, hc.goes.2.2.1⟩⟩, h1.lst.below hc.low, hbm, h1.srt, hc.k1, hno, hent, (fun i j p q hp hq e => hc.inj i j p q hp hq (hnew i p hp) e), h1.wf, h1.nodup, h1.nwf, h1.zero, ⟨hc.lo3.2.1, hb'⟩, ⟨hc.lo3.1, hm'⟩, hdc, h1.RL⟩
  · have := (h3 c hc2).1
    omega

end Go.Proofs.YtbdnlaepeladbaaGreatDoor
