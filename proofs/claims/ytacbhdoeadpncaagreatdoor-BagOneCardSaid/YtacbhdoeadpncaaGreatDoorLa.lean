/- The law's walk, at whatever acts. Conditions: how the argument lies in memory; that the example is found true. -/
import Derived.Test.YtacbhdoeadpncaaGreatDoorBgC
import Derived.Test.YtacbhdoeadpncaaGreatDoorMo
import Derived.Deep.LoopGhost
import Derived.Deep.DeepCutAuto
import Derived.Deep.CutBlock
namespace Go.Proofs.YtacbhdoeadpncaaGreatDoor
open Go.ChangeShapes Go.WideShapes Go.ChangeAt Go.RowKit Go.Eng Go.Deep

/-- The act that is looked at, in block Z. -/
def RowAt (v : World) (Z : Nat) (a0 a1 a2 a3 a4 : Int) : Prop := v.heap[Z]? = some (.cells #[.int .u8 a0, .int .u64 a1, .int .u64 a2, .int .u64 a3, .int .i64 a4] 29 (0, 0))

variable {W v v' : World} {B b m gm k Z : Nat} {L : Value} {ns : List Int} {es : List (Int × Pl)} {gs : List (Int × Nat)} {a0 a1 a2 a3 a4 : Int}

theorem RowAt.q0 (h : RowAt v Z a0 a1 a2 a3 a4) : v.cell? ⟨Z, 0, none⟩ = some (.int .u8 a0) := by unfold RowAt at h; simp [World.cell?, h]
theorem RowAt.q1 (h : RowAt v Z a0 a1 a2 a3 a4) : v.cell? ⟨Z, 1, none⟩ = some (.int .u64 a1) := by unfold RowAt at h; simp [World.cell?, h]
theorem RowAt.q2 (h : RowAt v Z a0 a1 a2 a3 a4) : v.cell? ⟨Z, 2, none⟩ = some (.int .u64 a2) := by unfold RowAt at h; simp [World.cell?, h]
theorem RowAt.q3 (h : RowAt v Z a0 a1 a2 a3 a4) : v.cell? ⟨Z, 3, none⟩ = some (.int .u64 a3) := by unfold RowAt at h; simp [World.cell?, h]
theorem RowAt.q4 (h : RowAt v Z a0 a1 a2 a3 a4) : v.cell? ⟨Z, 4, none⟩ = some (.int .i64 a4) := by unfold RowAt at h; simp [World.cell?, h]
theorem RowAt.keeps (h : RowAt v Z a0 a1 a2 a3 a4) (hk : Keeps v v') : RowAt v' Z a0 a1 a2 a3 a4 := hk Z _ 29 (0, 0) (by decide) (by decide) h
theorem RowAt.new (v : World) : RowAt (v.alloc (.cells #[.int .u8 a0, .int .u64 a1, .int .u64 a2, .int .u64 a3, .int .i64 a4] 29)) v.heap.size a0 a1 a2 a3 a4 := (Go.MapKept.heap_alloc v _).1

/-- A list in a block of its own. -/
def SnapAt (v : World) (Y : Nat) (L : Value) : Prop := v.heap[Y]? = some (.cells #[L] 34 (0, 0))
theorem SnapAt.cell (h : SnapAt v Z L) : v.cell? ⟨Z, 0, none⟩ = some L := by unfold SnapAt at h; simp [World.cell?, h]
theorem SnapAt.keeps (h : SnapAt v Z L) (hk : Keeps v v') : SnapAt v' Z L := hk Z _ 34 (0, 0) (by decide) (by decide) h
theorem SnapAt.new (v : World) : SnapAt (v.alloc (.cells #[L] 34)) v.heap.size L := (Go.MapKept.heap_alloc v _).1

theorem below_alloc (v : World) (o : Obj) : Below v.heap.size v (v.alloc o) := (Below.refl _ v).alloc (Nat.le_refl _) o

theorem BInv.start (h : BagAt v b m (.slice none 0 0) []) (hl : Below B W v) (hb : B ≤ b) (hm : B ≤ m) : BInv W B b m v.heap.size 0 (.slice none 0 0) [] [] [] (v.alloc (.map #[] 0)) := by
  have hB : B ≤ v.heap.size := Nat.le_of_lt (Nat.lt_of_le_of_lt hb h.lt.1)
  refine ⟨h.below (below_alloc v _) h.lt.1 h.lt.2, .inl ⟨rfl, rfl⟩, Nat.le_refl _, ⟨[], 0, (Go.MapKept.heap_alloc v _).1, trivial, List.Pairwise.nil, fun e he => by cases he⟩, ?_, ?_, ?_, hl.trans ((below_alloc v _).mono hB), hb, hm, hB, ?_⟩
  · intro i p hi; simp [aget] at hi
  · intro i j p q hi; simp [aget] at hi
  · intro q hq; cases hq
  · have := h.lt.2; omega

/-- A range goes on: its own block turns, no other. -/
theorem BInv.iter (h : BInv W B b m gm k L ns es gs v) {mi : Option Nat} {x y : Nat} {s : Array Nat} (hz : v.heap[Z]? = some (.mapIter mi x s y)) (hB : B ≤ Z)
    (hos : v'.os = v.os) (ht : v'.tape = v.tape) (ho : v'.output = v.output) (hs : v'.heap.size = v.heap.size) (hk : ∀ j, j ≠ Z → v'.heap[j]? = v.heap[j]?) : BInv W B b m gm k L ns es gs v' := by
  have hu : Upto (· = Z) v v' := ⟨hos, ht, ho, Nat.le_of_eq hs.symm, fun j _ hj => hk j hj⟩
  have nc : ∀ {j : Nat} {cs : Array Value} {t : TypeId} {fr : Nat × Nat}, v.heap[j]? = some (.cells cs t fr) → ¬ j = Z := by
    rintro j cs t fr hj rfl
    rw [hj] at hz; simp at hz
  have nm : ∀ {β : Type} {V : β → Value} {j : Nat} {l : List (Int × β)}, MapIs .u64 V v j l → ¬ j = Z := by
    rintro β V j l ⟨ms, c, hj, _⟩ rfl
    rw [hj] at hz; simp at hz
  have nw : ∀ {c x : Nat}, WordAt v c x → ¬ c = Z := fun hw => nc hw
  refine ⟨h.bag.upto hu (nc h.bag.1) (nm h.bag.2), h.lst.upto hu fun g cs hg => nc hg, h.len, MapSt.upto h.gone hu (nm h.gone.is), ?_, h.inj, ?_, h.low.trans (hu.below h.size fun j hj => by rw [hj]; exact hB), h.hb, h.hm, h.hg, h.mg⟩
  · intro i p hi
    obtain ⟨h1, x, hx, hk⟩ := h.cell i p hi
    exact ⟨h1, x, hx.upto hu (nw hx), hk⟩
  · intro q hq
    obtain ⟨p, hp, hx, h3⟩ := h.rem q hq
    exact ⟨p, hp, hx.upto hu (nw hx), h3⟩

theorem Goes.below {mm since clock : Nat} {seen : List Nat} {ms : List MapEntry} (h : Goes v Z mm since seen ms clock) (hB : Below v.heap.size v v') : Goes v' Z mm since seen ms clock :=
  ⟨(hB.block mm (Array.getElem?_eq_some_iff.1 h.1).1).trans h.1, (hB.block Z (Array.getElem?_eq_some_iff.1 h.2.1).1).trans h.2.1, h.2.2⟩

theorem rd_enter (h : BInv W B b m gm k L ns es gs v) (r : RowAt v Z a0 a1 a2 a3 a4) (id st : Int) (now : Nat) :
    Calls Tryz.prog 6 #[.pointer (some ⟨b, 0, none⟩), .int .u64 id, .int .i64 st, .int .u64 now] v fun e w' => (∃ x, e = .returned (.int .i64 x)) ∧ ∃ es', BInv W B b m gm k L ns es' gs w' ∧ RowAt w' Z a0 a1 a2 a3 a4 :=
  (inv_enter h id st now).mono fun _ _ ⟨he, ⟨es', hi⟩, hk⟩ => ⟨he, es', hi, r.keeps hk⟩

theorem rd_list (h : BInv W B b m gm k L ns es gs v) (r : RowAt v Z a0 a1 a2 a3 a4) :
    Calls Tryz.prog 7 #[.pointer (some ⟨b, 0, none⟩)] v fun e w' => e = .returned (.agg #[L]) ∧ BInv W B b m gm k L ns es gs w' ∧ RowAt w' Z a0 a1 a2 a3 a4 :=
  (list_calls h.bag h.lst).mono fun _ _ ⟨he, hb⟩ => ⟨he, h.grow hb, r.keeps (.below hb)⟩

/-- What is there while a list is looked at. -/
structure Look (W : World) (B b m gm k Z : Nat) (es : List (Int × Pl)) (gs : List (Int × Nat)) (a0 a1 a2 a3 a4 : Int) (Y : Nat) (L A : Value) (ns : List Int) (v : World) : Prop where
  inv : ∃ L' ns', BInv W B b m gm k L' ns' es gs v
  row : RowAt v Z a0 a1 a2 a3 a4
  was : SnapAt v Y L
  one : ListAt v L ns
  two : ListAt v A ns

theorem rd_all (h : BInv W B b m gm k L ns es gs v) (hk : k ≤ 1000) (r : RowAt v Z a0 a1 a2 a3 a4) :
    Calls Tryz.prog 8 #[.agg #[L]] (v.alloc (.cells #[L] 34)) fun e w' => ∃ A, e = .returned A ∧ Look W B b m gm k Z es gs a0 a1 a2 a3 a4 v.heap.size L A ns w' := by
  have b1 := below_alloc v (.cells #[L] 34)
  have h1 := h.grow b1
  have r1 := r.keeps (.below b1)
  refine (all_calls h1.lst (by have := h.len; omega)).mono ?_
  rintro e w' ⟨A, he, hA, hb⟩
  exact ⟨A, he, ⟨L, ns, h1.grow hb⟩, r1.keeps (.below hb), (SnapAt.new v).keeps (.below hb), h1.lst.below hb, hA⟩

theorem Look.keeps {Y k' : Nat} {A : Value} (h : Look W B b m gm k Z es gs a0 a1 a2 a3 a4 Y L A ns v) (hk : Keeps v v') (hi : ∃ L' ns', BInv W B b m gm k' L' ns' es gs v') : Look W B b m gm k' Z es gs a0 a1 a2 a3 a4 Y L A ns v' :=
  ⟨hi, h.row.keeps hk, h.was.keeps hk, hk.list h.one, hk.list h.two⟩

theorem rd_publish {Y : Nat} {A : Value} (h : Look W B b m gm k Z es gs a0 a1 a2 a3 a4 Y L A ns v) (hk : k ≤ 1000) (id : Int) :
    Calls Tryz.prog 9 #[.pointer (some ⟨b, 0, none⟩), .int .u64 id] v fun e w' => (∃ x, e = .returned (.int .i64 x)) ∧ Look W B b m gm (k + 1) Z es gs a0 a1 a2 a3 a4 Y L A ns w' := by
  obtain ⟨L', ns', hi⟩ := h.inv
  exact (inv_publish hi hk id).mono fun _ _ ⟨he, hj, hkp⟩ => ⟨he, h.keeps hkp hj⟩

theorem rd_unlist {Y : Nat} {A : Value} (h : Look W B b m gm k Z es gs a0 a1 a2 a3 a4 Y L A ns v) (hk : k ≤ 1000) (id : Int) :
    Calls Tryz.prog 10 #[.pointer (some ⟨b, 0, none⟩), .int .u64 id] v fun e w' => (∃ x, e = .returned (.int .i64 x)) ∧ Look W B b m gm k Z es gs a0 a1 a2 a3 a4 Y L A ns w' := by
  obtain ⟨L', ns', hi⟩ := h.inv
  exact (inv_unlist hi hk id).mono fun _ _ ⟨he, hj, hkp⟩ => ⟨he, h.keeps hkp hj⟩

theorem rd_all2 {Y : Nat} {A : Value} (h : Look W B b m gm k Z es gs a0 a1 a2 a3 a4 Y L A ns v) (hn : ns.length ≤ 1000) :
    Calls Tryz.prog 8 #[.agg #[L]] v fun e w' => ∃ A', e = .returned A' ∧ ListAt w' A' ns ∧ Look W B b m gm k Z es gs a0 a1 a2 a3 a4 Y L A ns w' := by
  obtain ⟨L', ns', hi⟩ := h.inv
  refine (all_calls h.one (by omega)).mono ?_
  rintro e w' ⟨A', he, hA, hb⟩
  exact ⟨A', he, hA, h.keeps (.below hb) ⟨L', ns', hi.grow hb⟩⟩

theorem rd_equal {Y : Nat} {A A' : Value} (h : Look W B b m gm k Z es gs a0 a1 a2 a3 a4 Y L A ns v) (hA : ListAt v A' ns) :
    Calls Tryz.prog 11 #[A', A] v fun e w' => e = .returned (.bool true) ∧ Look W B b m gm k Z es gs a0 a1 a2 a3 a4 Y L A ns w' := by
  obtain ⟨L', ns', hi⟩ := h.inv
  exact (equal_list hA h.two).mono fun _ _ ⟨he, hb⟩ => ⟨he, h.keeps (.below hb) ⟨L', ns', hi.grow hb⟩⟩

theorem rd_load (h : BInv W B b m gm k L ns es gs v) (r : RowAt v Z a0 a1 a2 a3 a4) {id : Int} {X : Nat} {ok : Bool} (hl : LoadIs es v id X ok) :
    Calls Tryz.prog 12 #[.pointer (some ⟨b, 0, none⟩), .int .u64 id] v fun e w' => e = .returned (.tuple #[.int .u64 X, .bool ok]) ∧ BInv W B b m gm k L ns es gs w' ∧ LoadIs es w' id X ok ∧ RowAt w' Z a0 a1 a2 a3 a4 :=
  (any_load h hl).mono fun _ _ ⟨he, hi, hl', hb⟩ => ⟨he, hi, hl', r.keeps (.below hb)⟩

theorem rd_first (h : BInv W B b m gm k L ns es gs v) (r : RowAt v Z a0 a1 a2 a3 a4) (hk : k ≤ 1000) {id : Int} {X : Nat} {ok : Bool} (hl : LoadIs es v id X ok) (st : Int) (now : Nat) {M : Bool} (hM : mayB ((X % 4 : Nat) : Int) st = M) :
    Calls Tryz.prog 13 #[.pointer (some ⟨b, 0, none⟩), .int .u64 id, .int .u64 X, .int .i64 st, .int .u64 now] v fun e w' => (∃ y : Nat, e = .returned (.tuple #[.int .u64 y, .bool (ok && M)])) ∧ (∃ es', BInv W B b m gm (k + 1) L ns es' gs w' ∧ Second es' w' id X st) ∧ RowAt w' Z a0 a1 a2 a3 a4 :=
  (any_first h hk hl st now).mono fun _ _ ⟨he, hi, hkp⟩ => ⟨by rw [← hM]; exact he, hi, r.keeps hkp⟩

theorem rd_second (h : BInv W B b m gm k L ns es gs v) (r : RowAt v Z a0 a1 a2 a3 a4) {id : Int} {X : Nat} {st : Int} (hs : Second es v id X st) (hX : X < 18446744073709551616) (now : Nat) :
    Calls Tryz.prog 13 #[.pointer (some ⟨b, 0, none⟩), .int .u64 id, .int .u64 X, .int .i64 st, .int .u64 now] v fun e w' => (∃ y : Nat, e = .returned (.tuple #[.int .u64 y, .bool false])) ∧ BInv W B b m gm k L ns es gs w' ∧ RowAt w' Z a0 a1 a2 a3 a4 :=
  (any_second h hs hX now).mono fun _ _ ⟨he, hi, hb⟩ => ⟨he, hi, r.keeps (.below hb)⟩

theorem u64_nat {a : Int} (h : (Lit.int .u64 a).wf = true) : ∃ n : Nat, a = n ∧ n < 18446744073709551616 := by
  simp only [Lit.wf, Bool.and_eq_true, decide_eq_true_eq] at h
  have hmin : IntKind.u64.min = 0 := by decide
  have hmax : IntKind.u64.max = 18446744073709551615 := by decide
  rw [hmin, hmax] at h
  exact ⟨a.toNat, by omega, by omega⟩

end Go.Proofs.YtacbhdoeadpncaaGreatDoor

namespace Go.Proofs.YtacbhdoeadpncaaGreatDoor
open Go.ChangeShapes Go.WideShapes Go.ChangeAt Go.RowKit Go.Eng Go.Deep

theorem word_value (o : Option Nat) : ∃ y : Int, (o.map vN).getD (.int .u64 0) = .int .u64 y := by
  cases o with
  | none => exact ⟨0, rfl⟩
  | some n => exact ⟨n, rfl⟩

theorem look_gone {v : World} {gm : Nat} {gs : List (Int × Nat)} (h : MapSt .u64 vN v gm gs) (id : Int) :
    ∃ y : Int, (Instr.lookup 26 (.map (some gm)) (.int .u64 id) true).run Tryz.prog v = .ok (.tuple #[.int .u64 y, .bool (aget id gs).isSome]) v := by
  have := run_lookup_ents (P := Tryz.prog) Tryz.underlying26 Tryz.underlying27 Tryz.zeroValue39 h.is id true
  obtain ⟨y, hy⟩ := word_value (aget id gs)
  rw [hy] at this
  exact ⟨y, this⟩

set_option maxHeartbeats 4000000 in
set_option maxRecDepth 1000000 in
theorem law_some (W : World) (B : Nat) (hB : B = W.heap.size) (haw : Calls Tryz.prog 4 #[] W fun e w' => e = .returned (.bool true) ∧ Below B W w') (blk off n cap : Nat) (hn : n ≤ 80) (hblk : blk < B)
    (F : ∀ k, k < n → FiveAt W blk (off + k * 5) .u8 .u64 .u64 .u64 .i64) :
    Calls Tryz.prog 3 #[.slice (some ⟨blk, off, none⟩) n cap] W fun e w' => e = .returned (.bool true) ∧ Below B W w' := by
  have hBl : B ≤ W.heap.size := Nat.le_of_eq hB
  have F' : Aside (∀ k, k < n → FiveAt W blk (off + k * 5) .u8 .u64 .u64 .u64 .i64) := F
  have hmm := @run_makeMap Tryz.prog
  clear F hB
  go_enter Tryz.func3, Tryz.ntmps3
  go_wp2_with (first
    | (go_at_call 4; with_reducible refine haw.mono ?_; rintro e w1 ⟨rfl, b1⟩; have s1 := Nat.le_trans hBl b1.size)
    | (go_at_call 5; have h5 := new_calls w1; with_reducible refine h5.mono ?_; clear h5; rintro e w2 ⟨b, m, rfl, k1, k2, hbm, hbag, b2⟩))
  have hstart := BInv.start (B := B) (W := W) hbag (b1.trans (b2.mono s1)) (Nat.le_trans s1 k1) (Nat.le_trans s1 k2)
  clear hbag b2 b1 k1 k2 s1 haw hmm hbm
  generalize w2.alloc (.map #[] 0) = w3 at hstart ⊢
  generalize w2.heap.size = gm at hstart ⊢
  go_loopg [32] n (fun g i wr => ∃ (t : Nat) (L : Value) (ns : List Int) (es : List (Int × Pl)) (gs : List (Int × Nat)), t ≤ n ∧ g = n - t ∧ i = .int .i64 t ∧ BInv W B b m gm (2 * t) L ns es gs wr)
  case atStart => exact ⟨0, _, _, _, _, Nat.zero_le _, rfl, rfl, hstart⟩
  case round =>
    clear hstart
    obtain ⟨t, L, ns, es, gs, ht, rfl, rfl, hv⟩ := hrel
    by_cases hlt : t < n
    · obtain ⟨x0, x1, x2, x3, x4, ⟨c0, c1, c2, c3, c4⟩, w0, w1', w2', w3', w4'⟩ := F'.out t hlt
      have tr : ∀ {j : Nat} {u : Value}, W.cell? ⟨blk, j, none⟩ = some u → wr.cell? ⟨blk, j, none⟩ = some u := fun h => (hv.low.cell (by exact hblk)).trans h
      have d0 := tr c0
      have d1 := tr c1
      have d2 := tr c2
      have d3 := tr c3
      have d4 := tr c4
      clear c0 c1 c2 c3 c4 tr
      obtain ⟨T, rfl, _⟩ := u64_nat w3'
      have R0 := RowAt.new (a0 := x0) (a1 := x1) (a2 := x2) (a3 := (T : Int)) (a4 := x4) wr
      have v0 := hv.grow (below_alloc wr (.cells #[.int .u8 x0, .int .u64 x1, .int .u64 x2, .int .u64 T, .int .i64 x4] 29))
      generalize hZ : wr.heap.size = Z at R0
      have hlti : (t : Int) < (n : Int) := by omega
      have hk0 : 2 * t ≤ 1000 := by omega
      have hk1 : 2 * t + 1 ≤ 1000 := by omega
      have e0 := R0.q0
      go_upto_if 39 with (fail)
      clear d0 d1 d2 d3 d4 e0
      generalize wr.alloc (.cells #[.int .u8 x0, .int .u64 x1, .int .u64 x2, .int .u64 T, .int .i64 x4] 29) = v at R0 v0 ⊢
      go_cut [] (fun wx => ∃ es', BInv W B b m gm (2 * t) L ns es' gs wx ∧ RowAt wx Z x0 x1 x2 T x4)
      case first =>
        have e0 := R0.q0
        have e1 := R0.q1
        have e3 := R0.q3
        have e4 := R0.q4
        by_cases h2 : x0.tmod 8 < 2
        · go_wp2_with (go_at_call 6; have h6 := rd_enter v0 R0 x1 x4 T; with_reducible refine h6.mono ?_; clear h6 e0 e1 e3 e4; rintro e w5 ⟨⟨r, rfl⟩, es', v5, r5⟩)
          go_meet
          exact ⟨es', v5, r5⟩
        · go_wp2
          go_meet
          exact ⟨es, v0, R0⟩
      case rest =>
        obtain ⟨es1, v1, r1⟩ := hcut
        clear v0 R0
        have e0 := r1.q0
        go_upto_if 51 with (fail)
        go_cut [] (fun wx => ∃ L' ns', BInv W B b m gm (2 * t + 1) L' ns' es1 gs wx ∧ RowAt wx Z x0 x1 x2 T x4)
        case first =>
          by_cases h5 : 5 < x0.tmod 8
          · have hnl : ns.length ≤ 1000 := Nat.le_trans v1.len hk0
            obtain ⟨a, nn, c, rfl⟩ := v1.lst.shape
            go_wp2_with (first
              | (go_at_call 7; have h7 := rd_list v1 r1; with_reducible refine h7.mono ?_; clear h7 e0; rintro e w5 ⟨rfl, v5, r5⟩)
              | (go_at_call 8; have h8 := rd_all v5 hk0 r5; with_reducible refine h8.mono ?_; clear h8; rintro e w6 ⟨A, rfl, k6⟩; have f1 := k6.row.q1; have f2 := k6.row.q2)
              | (go_at_call 9; have h9 := rd_publish k6 hk0 x1; with_reducible refine h9.mono ?_; clear h9 f1 f2; rintro e w7 ⟨⟨y7, rfl⟩, k7⟩; have g1 := k7.row.q1; have g2 := k7.row.q2)
              | (go_at_call 10; have h10 := rd_unlist k7 hk1 x2; with_reducible refine h10.mono ?_; clear h10 g1 g2; rintro e w8 ⟨⟨y8, rfl⟩, k8⟩; have p0 := k8.was.cell)
              | (go_at_call 8; have h8 := rd_all2 k8 hnl; with_reducible refine h8.mono ?_; clear h8 p0; rintro e w9 ⟨A', rfl, l9, k9⟩)
              | (go_at_call 11; have h11 := rd_equal k9 l9; with_reducible refine h11.mono ?_; clear h11; rintro e w10 ⟨rfl, k10⟩))
            go_meet
            obtain ⟨L', ns', hi⟩ := k10.inv
            exact ⟨L', ns', hi, k10.row⟩
          · go_wp2
            go_meet
            exact ⟨L, ns, v1.more (Nat.le_succ _), r1⟩
        case rest =>
          obtain ⟨L2, ns2, v2, r2⟩ := hcut
          clear v1 r1 e0
          obtain ⟨X, ok, hl⟩ := v2.loadIs x1
          have hX : X < 18446744073709551616 := by have := LoadIs.small v2 hl; omega
          obtain ⟨M, hM⟩ : ∃ M, mayB ((X % 4 : Nat) : Int) x4 = M := ⟨_, rfl⟩
          have hst := fun w => state_calls X hX w
          have hma : ∀ w, Calls Tryz.prog 14 #[.int .i64 ((X % 4 : Nat) : Int), .int .i64 x4] w fun e w' => e = .returned (.bool M) ∧ w' = w := fun w => by rw [← hM]; exact may_calls _ x4 w
          have hMa : Aside (mayB ((X % 4 : Nat) : Int) x4 = M) := hM
          clear hM
          have e1 := r2.q1
          go_upto_region 22 with (first
            | (go_at_call 12; have h12 := rd_load v2 r2 hl; with_reducible refine h12.mono ?_; clear h12 e1; rintro e w5 ⟨rfl, v5, l5, r5⟩; have f1 := r5.q1; have f3 := r5.q3; have f4 := r5.q4)
            | (go_at_call 13; have h13 := rd_first v5 r5 hk1 l5 x4 T hMa.out; with_reducible refine h13.mono ?_; clear h13 f1 f3 f4; rintro e w6 ⟨⟨y6, rfl⟩, ⟨es6, v6, s6⟩, r6⟩; have g1 := r6.q1; have g3 := r6.q3; have g4 := r6.q4)
            | (go_at_call 13; have h13 := rd_second v6 r6 s6 hX T; with_reducible refine h13.mono ?_; clear h13 g1 g3 g4; rintro e w7 ⟨⟨y7, rfl⟩, v7, r7⟩; have p4 := r7.q4))
          go_cut [112] (fun s wx => s = .bool false ∧ BInv W B b m gm (2 * t + 1 + 1) L2 ns2 es6 gs wx ∧ RowAt wx Z x0 x1 x2 T x4)
          case first =>
            cases ok with
            | true =>
              go_quiet (first | (go_at_call 15; exact Calls.quiet_of_same (hst _)) | (go_at_call 14; exact Calls.quiet_of_same (hma _)))
              go_wp2
              go_meet
              exact ⟨by simp, v7.grow ⟨rfl, rfl, rfl, Nat.le_refl _, fun _ _ => rfl⟩, r7⟩
            | false =>
              go_quiet (first | (go_at_call 15; exact Calls.quiet_of_same (hst _)) | (go_at_call 14; exact Calls.quiet_of_same (hma _)))
              go_wp2
              go_meet
              exact ⟨by simp, v7.grow ⟨rfl, rfl, rfl, Nat.le_refl _, fun _ _ => rfl⟩, r7⟩
          case rest =>
            obtain ⟨rfl, v3, r3⟩ := hcut
            clear hst hma hMa hX p4 v7 r7 v6 r6 s6 v5 r5 l5 hl v2 r2
            obtain ⟨X2, ok2, hl2⟩ := v3.loadIs x1
            have hX2 : X2 < 18446744073709551616 := by have := LoadIs.small v3 hl2; omega
            have hst2 := fun w => state_calls X2 hX2 w
            have e1 := r3.q1
            go_upto_region 25 with (go_at_call 12; have h12 := rd_load v3 r3 hl2; with_reducible refine h12.mono ?_; clear h12 e1; rintro e w8 ⟨rfl, v8, l8, r8⟩)
            go_cut [125] (fun s wx => s = .bool (ok2 && (((X2 % 4 : Nat) : Int) == 3)) ∧ BInv W B b m gm (2 * t + 1 + 1) L2 ns2 es6 gs wx ∧ RowAt wx Z x0 x1 x2 T x4 ∧ LoadIs es6 wx x1 X2 ok2)
            case first =>
              cases ok2 with
              | true =>
                go_wp2_with (go_at_call 15; with_reducible refine (hst2 _).mono ?_; rintro e w' ⟨rfl, rfl⟩)
                go_meet
                exact ⟨by simp, v8, r8, l8⟩
              | false =>
                go_wp2_with (go_at_call 15; with_reducible refine (hst2 _).mono ?_; rintro e w' ⟨rfl, rfl⟩)
                go_meet
                exact ⟨by simp, v8, r8, l8⟩
            case rest =>
              obtain ⟨rfl, v9, r9, l9⟩ := hcut
              clear hst2 hX2 v8 l8 r8 v3 r3 hl2
              go_upto_if 125 with (fail)
              go_cut [] (fun wx => ∃ gs', BInv W B b m gm (2 * t + 1 + 1) L2 ns2 es6 gs' wx)
              case first =>
                cases hc : (ok2 && (((X2 % 4 : Nat) : Int) == 3)) with
                | false =>
                  go_wp2
                  go_meet
                  exact ⟨gs, v9⟩
                | true =>
                  obtain ⟨hok, h3⟩ := Bool.and_eq_true_iff.1 hc
                  have h3' : X2 % 4 = 3 := by have := eq_of_beq h3; omega
                  have H3 : Aside (X2 % 4 = 3) := h3'
                  subst hok
                  have e1 := r9.q1
                  obtain ⟨y, hlk⟩ := look_gone v9.gone x1
                  obtain ⟨ms, c, hmu, hents, hstm⟩ := run_mapUpdate_st (P := Tryz.prog) Tryz.underlying26 Tryz.underlying27 v9.gone x1 X2
                  have v10 := v9.told l9 H3.out hents hstm
                  change Sem.run Tryz.prog (Instr.mapUpdate 26 (.map (some gm)) (.int .u64 x1) (.int .u64 X2)) wc = _ at hmu
                  obtain ⟨w10, hw10⟩ : ∃ w10, w10 = { wc with heap := wc.heap.setIfInBounds gm (.map ms.toArray c) } := ⟨_, rfl⟩
                  rw [← hw10] at hmu v10
                  clear hw10 hents hstm h3 h3'
                  cases hs : (aget x1 gs).isSome with
                  | true =>
                    rw [hs] at hlk
                    clear hs
                    go_wp2
                    go_meet
                    exact ⟨gs, v9⟩
                  | false =>
                    rw [hs] at hlk
                    clear hs
                    go_wp2
                    go_meet
                    exact ⟨_, v10⟩
              case rest =>
                obtain ⟨gs3, v11⟩ := hcut
                clear v9 r9 l9
                obtain ⟨ms, clock, hents, hrange, hgoes⟩ := run_range_st (P := Tryz.prog) Tryz.underlying26 v11.gone
                have v12 := v11.grow (below_alloc wc (.mapIter (some gm) clock #[] clock))
                have HE : Aside (EntsR .u64 vN ms gs3) := hents
                have hZB : B ≤ wc.heap.size := v11.size
                clear hents v11
                obtain ⟨w13, hw13⟩ : ∃ w13, w13 = wc.alloc (.mapIter (some gm) clock #[] clock) := ⟨_, rfl⟩
                rw [← hw13] at hrange v12 hgoes
                clear hw13
                generalize wc.heap.size = Y at hrange hgoes hZB
                go_wp2_with fail
                go_loopg [] (Go.Eng.leftOf ms []) (fun g wx => ∃ seen, g = Go.Eng.leftOf ms seen ∧ Go.Eng.Goes wx Y gm clock seen ms clock ∧ BInv W B b m gm (2 * t + 1 + 1) L2 ns2 es6 gs3 wx)
                case atStart => exact ⟨[], rfl, hgoes, v12⟩
                case round =>
                  clear hgoes v12 hrange
                  obtain ⟨seen, rfl, hg, v13⟩ := hrel
                  rcases run_next_goes (P := Tryz.prog) (ty := 0) hg with ⟨d, hnx⟩ | ⟨ent, he, hne, w14, hnx, hg2, hos, htp, hou, hsz, hbk⟩
                  · go_wp2
                    go_roundg (n - (t + 1))
                    case measure => omega
                    case rel => exact ⟨t + 1, L2, ns2, es6, gs3, by omega, rfl, by go_num, BInv.more (k' := 2 * (t + 1)) (v13.grow ⟨rfl, rfl, rfl, Nat.le_refl _, fun _ _ => rfl⟩) (by omega)⟩
                  · obtain ⟨p, hp, hkey, hval⟩ := ents_mem HE.out he
                    have v15 := v13.iter hg.2.1 hZB hos htp hou hsz hbk
                    have hen := run_entry_goes (P := Tryz.prog) hg2 he
                    rw [hkey, hval] at hnx hen
                    obtain ⟨pl, hpl, hwd, _⟩ := v15.rem p hp
                    have hl15 : LoadIs es6 w14 p.1 p.2 true := .inl ⟨pl, hpl, hwd, rfl⟩
                    have H : Aside (Go.Eng.leftOf ms (seen ++ [ent.born]) < Go.Eng.leftOf ms seen) := leftOf_lt he hne
                    have HG : Aside (Go.Eng.Goes w14 Y gm clock (seen ++ [ent.born]) ms clock) := hg2
                    clear hkey hval hos htp hou hsz hbk hwd hpl he hne hg hg2 v13
                    obtain ⟨id2, x2'⟩ := p
                    change Sem.run Tryz.prog (Instr.next (.pointer (some ⟨Y, 0, none⟩)) false 0) wr = Result.ok (.tuple #[.bool true, .int .u64 id2, .int .u64 x2']) w14 at hnx
                    change Sem.run Tryz.prog (Instr.entry (.pointer (some ⟨Y, 0, none⟩))) w14 = Result.ok (.tuple #[.int .u64 id2, .int .u64 x2']) w14 at hen
                    go_wp2_with (go_at_call 12; have h12 := any_load v15 hl15; with_reducible refine h12.mono ?_; clear h12; rintro e' w16 ⟨rfl, v16, _, b16⟩)
                    go_roundg (Go.Eng.leftOf ms (seen ++ [ent.born]))
                    case measure => exact H.out
                    case rel => exact ⟨seen ++ [ent.born], rfl, Goes.below HG.out b16, v16⟩
    · have hkn : t = n := by omega
      subst hkn
      go_wp2
      go_ret
      exact ⟨rfl, hv.low⟩

end Go.Proofs.YtacbhdoeadpncaaGreatDoor

namespace Go.Proofs.YtacbhdoeadpncaaGreatDoor
open Go.ChangeShapes Go.WideShapes Go.ChangeAt Go.RowKit Go.Eng Go.Deep

theorem law_long (W : World) (B : Nat) (hB : B = W.heap.size) (haw : Calls Tryz.prog 4 #[] W fun e w' => e = .returned (.bool true) ∧ Below B W w') (p : Option Addr) (n cap : Nat) (hn : 80 < n) :
    Calls Tryz.prog 3 #[.slice p n cap] W fun e w' => e = .returned (.bool true) ∧ Below B W w' := by
  have hBl : B ≤ W.heap.size := Nat.le_of_eq hB
  clear hB
  go_enter Tryz.func3, Tryz.ntmps3
  go_wp2_with (go_at_call 4; with_reducible refine haw.mono ?_; rintro e w1 ⟨rfl, b1⟩; have s1 := Nat.le_trans hBl b1.size)
  go_ret
  exact ⟨rfl, b1⟩

theorem law_empty (W : World) (B : Nat) (hB : B = W.heap.size) (haw : Calls Tryz.prog 4 #[] W fun e w' => e = .returned (.bool true) ∧ Below B W w') (p : Option Addr) (cap : Nat) :
    Calls Tryz.prog 3 #[.slice p 0 cap] W fun e w' => e = .returned (.bool true) ∧ Below B W w' := by
  have hBl : B ≤ W.heap.size := Nat.le_of_eq hB
  have hmm := @run_makeMap Tryz.prog
  clear hB
  go_enter Tryz.func3, Tryz.ntmps3
  go_wp2_with (first
    | (go_at_call 4; with_reducible refine haw.mono ?_; rintro e w1 ⟨rfl, b1⟩; have s1 := Nat.le_trans hBl b1.size)
    | (go_at_call 5; have h5 := new_calls w1; with_reducible refine h5.mono ?_; clear h5; rintro e w2 ⟨b, m, rfl, k1, k2, hbm, hbag, b2⟩))
  have hstart := BInv.start (B := B) (W := W) hbag (b1.trans (b2.mono s1)) (Nat.le_trans s1 k1) (Nat.le_trans s1 k2)
  clear hbag b2 b1 k1 k2 s1 haw hmm hbm
  generalize w2.alloc (.map #[] 0) = w3 at hstart ⊢
  generalize w2.heap.size = gm at hstart ⊢
  refine wp_loop_rounds 1 ?_
  rw [rounds_succ]
  go_wp2
  go_ret
  exact ⟨rfl, hstart.low⟩

/-- The law, at whatever slice of acts. -/
theorem law_all (W : World) (haw : Calls Tryz.prog 4 #[] W fun e w' => e = .returned (.bool true) ∧ Below W.heap.size W w') (a0 : Option Addr) (n cap : Nat)
    (F : n = 0 ∨ ∃ b off, a0 = some ⟨b, off, none⟩ ∧ b < W.heap.size ∧ ∀ i, i < n → FiveAt W b (off + i * 5) .u8 .u64 .u64 .u64 .i64) :
    Calls Tryz.prog 3 #[.slice a0 n cap] W fun e w' => e = .returned (.bool true) ∧ Below W.heap.size W w' := by
  by_cases h80 : 80 < n
  · exact law_long W _ rfl haw a0 n cap h80
  · rcases F with rfl | ⟨b, off, rfl, hb, hF⟩
    · exact law_empty W _ rfl haw a0 cap
    · exact law_some W _ rfl haw b off n cap (by omega) hb hF

end Go.Proofs.YtacbhdoeadpncaaGreatDoor
