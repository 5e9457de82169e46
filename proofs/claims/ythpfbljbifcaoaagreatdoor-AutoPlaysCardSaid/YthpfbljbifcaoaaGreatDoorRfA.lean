/- What the document's own functions hand back, part 1. Conditions: how its lists lie in memory. -/
import Derived.Test.YthpfbljbifcaoaaGreatDoorLa0
import Derived.Laws.OwnMore
import Derived.Laws.AppendOwnNone
import Derived.ArgAppend
import Derived.Deep.Onto
namespace Go.Proofs.YthpfbljbifcaoaaGreatDoor
open Go.ChangeShapes Go.WideShapes Go.ChangeAt Go.RowKit Go.Eng Go.Deep

/-! ### the document's lists in memory -/

def prV (p : Int × Int) : List Value := [.int .u64 p.1, .int .i64 p.2]
def flat (ls : List (Int × Int)) : List Value := ls.flatMap prV

/-- The slice L holds these leases. -/
def PairsAt (w : World) (L : Value) (ls : List (Int × Int)) : Prop := w.ownsRow 0 53 2 L ls.length (flat ls)
/-- The slice R holds these numbers. -/
def NumsAt (w : World) (R : Value) (rs : List Int) : Prop := w.ownsRow 0 28 1 R rs.length (rs.map (Value.int .u64))

theorem own_below {w w' : World} {base size n : Nat} {e : TypeId} {v : Value} {xs : List Value} (h : w.ownsRow base e size v n xs) (hb : Below w.heap.size w w') : w'.ownsRow base e size v n xs := by
  refine ⟨h.1, ?_⟩
  rcases h.2 with hn | ⟨g, cap, cur, h1, h2, h3, h4⟩
  · exact .inl hn
  · exact .inr ⟨g, cap, cur, h1, h2, (hb.block g (Array.getElem?_eq_some_iff.1 h3).1).trans h3, h4⟩

theorem own_shape {w : World} {base size n : Nat} {e : TypeId} {v : Value} {xs : List Value} (h : w.ownsRow base e size v n xs) : ∃ a c, v = .slice a n c ∧ (a = none → n = 0 ∧ c = 0) ∧ ∀ b, a = some b → ∃ g, b = ⟨g, 0, none⟩ := by
  rcases h.2 with ⟨rfl, h0⟩ | ⟨g, cap, cur, rfl, _⟩
  · exact ⟨none, 0, by rw [h0], fun _ => ⟨h0, rfl⟩, (fun b hb => by cases hb)⟩
  · exact ⟨some ⟨g, 0, none⟩, cap, rfl, (fun h => by cases h), fun b hb => ⟨g, (Option.some.inj hb).symm⟩⟩

theorem flat_get : ∀ (ls : List (Int × Int)) (k : Nat) (p : Int × Int), ls[k]? = some p → (flat ls)[k * 2]? = some (.int .u64 p.1) ∧ (flat ls)[k * 2 + 1]? = some (.int .i64 p.2)
  | [], k, p, h => by simp at h
  | q :: l, 0, p, h => by
    obtain rfl := Option.some.inj (by simpa using h)
    exact ⟨rfl, rfl⟩
  | q :: l, k + 1, p, h => by
    have h' : l[k]? = some p := by simpa using h
    obtain ⟨h1, h2⟩ := flat_get l k p h'
    have e : flat (q :: l) = .int .u64 q.1 :: .int .i64 q.2 :: flat l := rfl
    rw [e, show (k + 1) * 2 = k * 2 + 1 + 1 by omega]
    exact ⟨by simpa using h1, by simpa using h2⟩

theorem PairsAt.cell {w : World} {g n cap : Nat} {ls : List (Int × Int)} (h : PairsAt w (.slice (some ⟨g, 0, none⟩) n cap) ls) {k : Nat} {p : Int × Int} (hk : ls[k]? = some p) :
    w.cell? ⟨g, k * 2, none⟩ = some (.int .u64 p.1) ∧ w.cell? ⟨g, k * 2 + 1, none⟩ = some (.int .i64 p.2) := by
  have hl : k < ls.length := (List.getElem?_eq_some_iff.1 hk).1
  have hn : n = ls.length := by
    rcases h.2 with ⟨h0, _⟩ | ⟨g', cap', cur, h0, _⟩
    · cases h0
    · simp only [Value.slice.injEq] at h0; exact h0.2.1
  subst hn
  obtain ⟨h1, h2⟩ := flat_get ls k p hk
  exact ⟨(World.ownsRow.cellAt h (k * 2) (by omega)).trans h1, (World.ownsRow.cellAt h (k * 2 + 1) (by omega)).trans h2⟩

theorem NumsAt.cell {w : World} {g n cap : Nat} {rs : List Int} (h : NumsAt w (.slice (some ⟨g, 0, none⟩) n cap) rs) {k : Nat} {x : Int} (hk : rs[k]? = some x) : w.cell? ⟨g, k, none⟩ = some (.int .u64 x) := by
  have hl : k < rs.length := (List.getElem?_eq_some_iff.1 hk).1
  have hn : n = rs.length := by
    rcases h.2 with ⟨h0, _⟩ | ⟨g', cap', cur, h0, _⟩
    · cases h0
    · simp only [Value.slice.injEq] at h0; exact h0.2.1
  subst hn
  rw [World.ownsRow.cellAt h k (by omega), List.getElem?_map, hk]; rfl

/-- The document's state. -/
structure RefAt (w : World) (L R : Value) (s : AS) : Prop where
  l : PairsAt w L s.ls
  r : NumsAt w R s.rs

abbrev rfV (L R : Value) (c : Bool) : Value := .agg #[L, R, .bool c]

theorem RefAt.below {w w' : World} {L R : Value} {s : AS} (h : RefAt w L R s) (hb : Below w.heap.size w w') : RefAt w' L R s := ⟨own_below h.l hb, own_below h.r hb⟩

theorem aget_drop {ls : List (Int × Int)} {k : Nat} {p : Int × Int} {id : Int} (hk : ls[k]? = some p) : aget id (ls.drop k) = if id = p.1 then some p.2 else aget id (ls.drop (k + 1)) := by
  have hl : k < ls.length := (List.getElem?_eq_some_iff.1 hk).1
  have : ls.drop k = p :: ls.drop (k + 1) := by
    rw [List.drop_eq_getElem_cons hl]
    rw [List.getElem?_eq_getElem hl] at hk
    rw [Option.some.inj hk]
  rw [this]; rfl

variable {w : World} {L R : Value} {s : AS}

set_option maxHeartbeats 1000000 in
theorem rholder_some {g n cap : Nat} {ls : List (Int × Int)} {aR : Option Addr} {nR cR : Nat} (h : PairsAt w (.slice (some ⟨g, 0, none⟩) n cap) ls) (hn : n = ls.length) (hm : n ≤ 1000) (c : Bool) (id : Int) :
    Calls Tryz.prog 13 #[rfV (.slice (some ⟨g, 0, none⟩) n cap) (.slice aR nR cR) c, .int .u64 id] w fun e w' => e = .returned (.tuple #[.int .i64 ((aget id ls).getD 0), .bool (aget id ls).isSome]) ∧ Below w.heap.size w w' := by
  obtain ⟨w1, hw1⟩ : ∃ w1, w1 = w.alloc (.cells #[.slice (some ⟨g, 0, none⟩) n cap, .slice aR nR cR, .bool c] 43) := ⟨_, rfl⟩
  have b1 : Below w.heap.size w w1 := by rw [hw1]; exact below_alloc w _
  have C : Aside (∀ {v : World}, Below w.heap.size w v → ∀ {k : Nat} {p : Int × Int}, ls[k]? = some p → v.cell? ⟨g, k * 2, none⟩ = some (.int .u64 p.1) ∧ v.cell? ⟨g, k * 2 + 1, none⟩ = some (.int .i64 p.2)) := fun hb _ _ hk => PairsAt.cell (own_below h hb) hk
  have HN : Aside (n = ls.length) := hn
  have HB : Aside (Below w.heap.size w w1) := b1
  clear h hn b1
  subst hw1
  go_enter Tryz.func13, Tryz.ntmps13
  go_wp2
  go_loopg [11] n (fun gh i wx => ∃ k : Nat, k ≤ n ∧ gh = n - k ∧ i = .int .i64 k ∧ aget id (ls.drop k) = aget id ls ∧ Below w.heap.size w wx)
  case atStart => exact ⟨0, Nat.zero_le _, rfl, rfl, rfl, HB.out⟩
  case round =>
    obtain ⟨k, hk, rfl, rfl, hd, hb⟩ := hrel
    by_cases hlt : k < n
    · obtain ⟨p, hp⟩ : ∃ p, ls[k]? = some p := ⟨_, List.getElem?_eq_getElem (by rw [← HN.out]; exact hlt)⟩
      obtain ⟨c0, c1⟩ := C.out hb hp
      rw [aget_drop hp] at hd
      have HD : Aside ((if id = p.1 then some p.2 else aget id (ls.drop (k + 1))) = aget id ls) := hd
      clear hd hp
      have hki : (k : Int) < (n : Int) := by omega
      have hb2 : ∀ o : Obj, Below w.heap.size w (wr.alloc o) := fun o => hb.alloc hb.size o
      have HB2 : Aside (∀ o : Obj, Below w.heap.size w (wr.alloc o)) := hb2
      clear hb hb2
      by_cases e : id = p.1
      · have e' : (p.1 == id) = true := by simpa using e.symm
        go_wp2
        go_ret2
        have := HD.out
        rw [if_pos e] at this
        exact ⟨by rw [← this]; rfl, HB2.out _⟩
      · have e' : (p.1 == id) = false := by simpa using fun h => e h.symm
        go_wp2
        go_roundg (n - (k + 1))
        case measure => omega
        case rel =>
          have := HD.out
          rw [if_neg e] at this
          exact ⟨k + 1, by omega, rfl, by go_num, this, HB2.out _⟩
    · obtain rfl : k = n := by omega
      have hnone : aget id ls = none := by rw [← hd, HN.out, List.drop_length]; rfl
      clear hd
      go_wp2
      go_ret2
      exact ⟨by rw [hnone]; rfl, hb⟩


theorem rholder_nil {aR : Option Addr} {nR cR : Nat} (w : World) (c : Bool) (id : Int) :
    Calls Tryz.prog 13 #[rfV (.slice none 0 0) (.slice aR nR cR) c, .int .u64 id] w fun e w' => e = .returned (.tuple #[.int .i64 0, .bool false]) ∧ Below w.heap.size w w' := by
  have b1 := below_alloc w (.cells #[.slice none 0 0, .slice aR nR cR, .bool c] 43)
  go_enter Tryz.func13, Tryz.ntmps13
  go_wp2
  refine wp_loop_rounds 1 ?_
  rw [rounds_succ]
  go_wp2
  go_ret2
  exact ⟨rfl, b1⟩

/-- The document's Holder. -/
theorem rholder_calls (h : RefAt w L R s) (hm : s.ls.length ≤ 1000) (c : Bool) (id : Int) :
    Calls Tryz.prog 13 #[rfV L R c, .int .u64 id] w fun e w' => e = .returned (.tuple #[.int .i64 ((aget id s.ls).getD 0), .bool (aget id s.ls).isSome]) ∧ Below w.heap.size w w' := by
  obtain ⟨aR, cR, rfl, _, _⟩ := own_shape h.r
  obtain ⟨aL, cL, rfl, hnone, hsome⟩ := own_shape h.l
  cases aL with
  | none =>
    obtain ⟨h0, rfl⟩ := hnone rfl
    have : s.ls = [] := List.length_eq_zero_iff.1 h0
    rw [this]
    exact rholder_nil w c id
  | some b =>
    obtain ⟨g, rfl⟩ := hsome b rfl
    exact rholder_some h.l rfl hm c id

set_option maxHeartbeats 1000000 in
theorem rretired_some {g n cap : Nat} {rs : List Int} {aL : Option Addr} {nL cL : Nat} (h : NumsAt w (.slice (some ⟨g, 0, none⟩) n cap) rs) (hn : n = rs.length) (hm : n ≤ 1000) (c : Bool) (id : Int) :
    Calls Tryz.prog 14 #[rfV (.slice aL nL cL) (.slice (some ⟨g, 0, none⟩) n cap) c, .int .u64 id] w fun e w' => (∃ r, e = .returned (.bool r) ∧ (r = true ↔ id ∈ rs)) ∧ Below w.heap.size w w' := by
  obtain ⟨w1, hw1⟩ : ∃ w1, w1 = w.alloc (.cells #[.slice aL nL cL, .slice (some ⟨g, 0, none⟩) n cap, .bool c] 43) := ⟨_, rfl⟩
  have b1 : Below w.heap.size w w1 := by rw [hw1]; exact below_alloc w _
  have C : Aside (∀ {k : Nat} {x : Int}, rs[k]? = some x → w1.cell? ⟨g, k, none⟩ = some (.int .u64 x)) := fun hk => NumsAt.cell (own_below h b1) hk
  have HN : Aside (n = rs.length) := hn
  have HB : Aside (Below w.heap.size w w1) := b1
  clear h hn b1
  subst hw1
  go_enter Tryz.func14, Tryz.ntmps14
  go_wp2
  go_loopg [10] n (fun gh i wx => w.alloc (.cells #[.slice aL nL cL, .slice (some ⟨g, 0, none⟩) n cap, .bool c] 43) = wx ∧ ∃ k : Nat, k ≤ n ∧ gh = n - k ∧ i = .int .i64 k ∧ ∀ j, j < k → rs[j]? ≠ some id)
  case atStart => exact ⟨rfl, 0, Nat.zero_le _, rfl, rfl, fun j hj => absurd hj (Nat.not_lt_zero j)⟩
  case round =>
    obtain ⟨rfl, k, hk, rfl, rfl, hd⟩ := hrel
    by_cases hlt : k < n
    · obtain ⟨x, hx⟩ : ∃ x, rs[k]? = some x := ⟨_, List.getElem?_eq_getElem (by rw [← HN.out]; exact hlt)⟩
      have c0 := C.out hx
      have HX : Aside (rs[k]? = some x ∧ ∀ j, j < k → rs[j]? ≠ some id) := ⟨hx, hd⟩
      clear hx hd
      have hki : (k : Int) < (n : Int) := by omega
      by_cases e : x = id
      · have e' : (x == id) = true := by simpa using e
        go_wp2
        go_ret
        exact ⟨⟨true, rfl, by simpa using List.mem_of_getElem? (e ▸ HX.out.1)⟩, HB.out⟩
      · have e' : (x == id) = false := by simpa using e
        go_wp2
        go_roundg (n - (k + 1))
        case measure => omega
        case rel =>
          refine ⟨rfl, k + 1, by omega, rfl, by go_num, fun j hj => ?_⟩
          rcases Nat.lt_or_eq_of_le (Nat.le_of_lt_succ hj) with h | rfl
          · exact HX.out.2 j h
          · rw [HX.out.1]; intro h; exact e (Option.some.inj h)
    · obtain rfl : k = n := by omega
      have HD : Aside (∀ j, j < k → rs[j]? ≠ some id) := hd
      clear hd
      go_wp2
      go_ret
      refine ⟨⟨false, rfl, ?_⟩, HB.out⟩
      simp only [Bool.false_eq_true, false_iff]
      intro hm
      obtain ⟨j, hj⟩ := List.mem_iff_getElem?.1 hm
      exact HD.out j (by rw [HN.out]; exact (List.getElem?_eq_some_iff.1 hj).1) hj

theorem rretired_nil {aL : Option Addr} {nL cL : Nat} (w : World) (c : Bool) (id : Int) :
    Calls Tryz.prog 14 #[rfV (.slice aL nL cL) (.slice none 0 0) c, .int .u64 id] w fun e w' => e = .returned (.bool false) ∧ Below w.heap.size w w' := by
  have b1 := below_alloc w (.cells #[.slice aL nL cL, .slice none 0 0, .bool c] 43)
  go_enter Tryz.func14, Tryz.ntmps14
  go_wp2
  refine wp_loop_rounds 1 ?_
  rw [rounds_succ]
  go_wp2
  go_ret
  exact ⟨rfl, b1⟩

/-- The document's Retired. -/
theorem rretired_calls (h : RefAt w L R s) (hm : s.rs.length ≤ 1000) (c : Bool) (id : Int) :
    Calls Tryz.prog 14 #[rfV L R c, .int .u64 id] w fun e w' => e = .returned (.bool (gone s id)) ∧ Below w.heap.size w w' := by
  obtain ⟨aL, cL, rfl, _, _⟩ := own_shape h.l
  obtain ⟨aR, cR, rfl, hnone, hsome⟩ := own_shape h.r
  cases aR with
  | none =>
    obtain ⟨h0, rfl⟩ := hnone rfl
    have : s.rs = [] := List.length_eq_zero_iff.1 h0
    unfold gone
    rw [this]
    exact rretired_nil w c id
  | some b =>
    obtain ⟨g, rfl⟩ := hsome b rfl
    refine (rretired_some h.r rfl hm c id).mono ?_
    rintro e w' ⟨⟨r, he, hr⟩, hb⟩
    refine ⟨?_, hb⟩
    have : r = gone s id := by
      rw [Bool.eq_iff_iff, hr, gone_iff]
    rw [he, this]

set_option maxHeartbeats 1000000 in
/-- The document's free. -/
theorem rfree_calls (h : RefAt w L R s) (hm : s.ls.length ≤ 1000) (hm2 : s.rs.length ≤ 1000) (c : Bool) (id : Int) :
    Calls Tryz.prog 20 #[rfV L R c, .int .u64 id] w fun e w' => e = .returned (.bool (s.free id)) ∧ Below w.heap.size w w' := by
  have b1 := below_alloc w (.cells #[L, R, .bool c] 43)
  have h1 := h.below b1
  have ch := rholder_calls h1 hm c id
  obtain ⟨row, hrow⟩ : ∃ r, r = (w.alloc (.cells #[L, R, .bool c] 43)).heap[w.heap.size]? := ⟨_, rfl⟩
  have cr : Aside (∀ {v : World}, Below (w.alloc (.cells #[L, R, .bool c] 43)).heap.size (w.alloc (.cells #[L, R, .bool c] 43)) v → Calls Tryz.prog 14 #[rfV L R c, .int .u64 id] v (fun e w' => e = .returned (.bool (gone s id)) ∧ Below v.heap.size v w') ∧ v.heap[w.heap.size]? = some (.cells #[L, R, .bool c] 43 (0, 0)) ∧ Below w.heap.size w v) := fun hb =>
    ⟨rretired_calls (h1.below hb) hm2 c id, (hb.block w.heap.size (by simp)).trans (Go.MapKept.heap_alloc w _).1, b1.trans (hb.mono b1.size)⟩
  unfold AS.free
  have hg : s.rs.contains id = gone s id := rfl
  rw [hg]
  generalize (aget id s.ls).getD 0 = t at ch
  generalize (aget id s.ls).isSome = ok at ch ⊢
  generalize gone s id = G at cr ⊢
  obtain ⟨aL, cL, rfl, _, _⟩ := own_shape h.l
  obtain ⟨aR, cR, rfl, _, _⟩ := own_shape h.r
  generalize s.ls.length = nL at *
  generalize s.rs.length = nR at *
  clear h h1 hrow hg b1
  have cells : ∀ {v : World}, v.heap[w.heap.size]? = some (.cells #[.slice aL nL cL, .slice aR nR cR, .bool c] 43 (0, 0)) → v.cell? ⟨w.heap.size, 0, none⟩ = some (.slice aL nL cL) ∧ v.cell? ⟨w.heap.size, 1, none⟩ = some (.slice aR nR cR) ∧ v.cell? ⟨w.heap.size, 2, none⟩ = some (.bool c) := fun hv => by simp [World.cell?, hv]
  have CC : Aside (∀ {v : World}, v.heap[w.heap.size]? = some (.cells #[.slice aL nL cL, .slice aR nR cR, .bool c] 43 (0, 0)) → v.cell? ⟨w.heap.size, 0, none⟩ = some (.slice aL nL cL) ∧ v.cell? ⟨w.heap.size, 1, none⟩ = some (.slice aR nR cR) ∧ v.cell? ⟨w.heap.size, 2, none⟩ = some (.bool c)) := cells
  clear cells
  by_cases hi : id = 0
  · subst hi
    go_enter Tryz.func20, Tryz.ntmps20
    go_wp2_with (go_at_call 13; with_reducible refine ch.mono ?_; rintro e w2 ⟨he, b2⟩; subst he; obtain ⟨k1, k2, k3⟩ := cr.out b2; obtain ⟨q0, q1, q2⟩ := CC.out k2)
    go_ret
    exact ⟨by simp, k3⟩
  · have hi' : (id == 0) = false := by simpa using hi
    have hi2 : (id != 0) = true := by simpa using hi
    rw [hi']
    cases ok
    · go_enter Tryz.func20, Tryz.ntmps20
      go_wp2_with (first
        | (go_at_call 13; with_reducible refine ch.mono ?_; rintro e w2 ⟨he, b2⟩; subst he; obtain ⟨k1, k2, k3⟩ := cr.out b2; obtain ⟨q0, q1, q2⟩ := CC.out k2)
        | (go_at_call 14; with_reducible refine k1.mono ?_; rintro e w3 ⟨he, b3⟩; subst he))
      go_ret
      exact ⟨by simp, k3.trans (b3.mono k3.size)⟩
    · go_enter Tryz.func20, Tryz.ntmps20
      go_wp2_with (go_at_call 13; with_reducible refine ch.mono ?_; rintro e w2 ⟨he, b2⟩; subst he; obtain ⟨k1, k2, k3⟩ := cr.out b2; obtain ⟨q0, q1, q2⟩ := CC.out k2)
      go_ret
      exact ⟨by simp, k3⟩

end Go.Proofs.YthpfbljbifcaoaaGreatDoor

namespace Go.Proofs.YthpfbljbifcaoaaGreatDoor
open Go.ChangeShapes Go.WideShapes Go.ChangeAt Go.RowKit Go.Eng Go.Deep

theorem info28 : (Tryz.prog.info? 28).map (fun i => (i.zero, i.size, i.bytes)) = some (some (.int .u64 0), 1, 8) := by kernel_rfl
theorem info53 : (Tryz.prog.info? 53).map (fun i => (i.zero, i.size, i.bytes)) = some (some (.agg #[.int .u64 0, .int .i64 0]), 2, 16) := by kernel_rfl

/-- A state of the document lies in block X. -/
def RowF (w : World) (X : Nat) (L R : Value) (c : Bool) : Prop := w.heap[X]? = some (.cells #[L, R, .bool c] 43 (0, 0))

variable {w w' v v' : World} {L R L' R' : Value} {s s' : AS} {c c' : Bool} {X : Nat}
theorem RowF.q0 (h : RowF w X L R c) : w.cell? ⟨X, 0, none⟩ = some L := by unfold RowF at h; simp [World.cell?, h]
theorem RowF.q1 (h : RowF w X L R c) : w.cell? ⟨X, 1, none⟩ = some R := by unfold RowF at h; simp [World.cell?, h]
theorem RowF.q2 (h : RowF w X L R c) : w.cell? ⟨X, 2, none⟩ = some (.bool c) := by unfold RowF at h; simp [World.cell?, h]
theorem RowF.f0 (h : RowF w X L R c) : w.frozen? ⟨X, 0, none⟩ = false := by unfold RowF at h; simp [World.frozen?, h]
theorem RowF.f1 (h : RowF w X L R c) : w.frozen? ⟨X, 1, none⟩ = false := by unfold RowF at h; simp [World.frozen?, h]
theorem RowF.f2 (h : RowF w X L R c) : w.frozen? ⟨X, 2, none⟩ = false := by unfold RowF at h; simp [World.frozen?, h]
theorem RowF.lt (h : RowF w X L R c) : X < w.heap.size := (Array.getElem?_eq_some_iff.1 h).1
theorem RowF.below {B : Nat} (h : RowF w X L R c) (hb : Below B w w') (hX : X < B) : RowF w' X L R c := (hb.block X hX).trans h
theorem RowF.new (w : World) (L R : Value) (c : Bool) : RowF (w.alloc (.cells #[L, R, .bool c] 43)) w.heap.size L R c := (Go.MapKept.heap_alloc w _).1
theorem RowF.set0 (h : RowF w X L R c) (u : Value) : RowF (w.setCell ⟨X, 0, none⟩ u) X u R c := by
  have hl := h.lt
  unfold RowF at h ⊢
  rw [setCell_cells h]; simp [hl]
theorem RowF.set1 (h : RowF w X L R c) (u : Value) : RowF (w.setCell ⟨X, 1, none⟩ u) X L u c := by
  have hl := h.lt
  unfold RowF at h ⊢
  rw [setCell_cells h]; simp [hl]
theorem RowF.set2 (h : RowF w X L R c) (b : Bool) : RowF (w.setCell ⟨X, 2, none⟩ (.bool b)) X L R b := by
  have hl := h.lt
  unfold RowF at h ⊢
  rw [setCell_cells h]; simp [hl]
theorem RowF.off {p : Addr} (h : RowF w X L R c) (hp : X ≠ p.block) (u : Value) : RowF (w.setCell p u) X L R c := by
  unfold RowF at h ⊢
  rw [Below.heap_setCell _ _ _ _ hp]; exact h

theorem own_off {base size n : Nat} {e : TypeId} {x : Value} {xs : List Value} (h : w.ownsRow base e size x n xs) (hx : RowF w X L R c) (he : e ≠ 43) (k : Nat) (u : Value) : (w.setCell ⟨X, k, none⟩ u).ownsRow base e size x n xs := by
  refine ⟨h.1, ?_⟩
  rcases h.2 with hn | ⟨g, cap, cur, h1, h2, h3, h4⟩
  · exact .inl hn
  · refine .inr ⟨g, cap, cur, h1, h2, ?_, h4⟩
    rw [Below.heap_setCell _ _ _ _ ?_]
    · exact h3
    · rintro rfl
      unfold RowF at hx
      rw [hx] at h3; simp at h3
      exact he h3.2.symm

theorem RefAt.off (h : RefAt w L' R' s) (hx : RowF w X L R c) (k : Nat) (u : Value) : RefAt (w.setCell ⟨X, k, none⟩ u) L' R' s :=
  ⟨own_off h.l hx (by decide) k u, own_off h.r hx (by decide) k u⟩

/-- A function's frame: the boxed state in X, the result's place behind it. -/
structure TwoF (w : World) (L R : Value) (c : Bool) (X : Nat) (v : World) : Prop where
  low : Below X w v
  box : RowF v X L R c
  res : RowF v (X + 1) (.slice none 0 0) (.slice none 0 0) false
  gt : X + 1 < v.heap.size

theorem TwoF.start (w : World) (L R : Value) (c : Bool) : TwoF w L R c w.heap.size ((w.alloc (.cells #[L, R, .bool c] 43)).alloc (.cells #[.slice none 0 0, .slice none 0 0, .bool false] 43)) := by
  refine ⟨(below_alloc w _).alloc (by simp) _, (RowF.new w L R c).below (below_alloc _ _) (by simp), ?_, by simp⟩
  have := RowF.new (w.alloc (.cells #[L, R, .bool c] 43)) (.slice none 0 0) (.slice none 0 0) false
  simpa using this

theorem TwoF.below (h : TwoF w L R c X v) (hb : Below v.heap.size v v') : TwoF w L R c X v' :=
  ⟨h.low.trans (hb.mono (by have := h.gt; omega)), h.box.below hb h.box.lt, h.res.below hb h.res.lt, Nat.lt_of_lt_of_le h.gt hb.size⟩

/-- The result is stored. -/
theorem TwoF.out (h : TwoF w L R c X v) (st : RefAt v L' R' s') :
    RefAt (((v.setCell ⟨X + 1, 0, none⟩ L').setCell ⟨X + 1, 1, none⟩ R').setCell ⟨X + 1, 2, none⟩ (.bool c')) L' R' s' ∧
    Below X w (((v.setCell ⟨X + 1, 0, none⟩ L').setCell ⟨X + 1, 1, none⟩ R').setCell ⟨X + 1, 2, none⟩ (.bool c')) ∧
    RowF (((v.setCell ⟨X + 1, 0, none⟩ L').setCell ⟨X + 1, 1, none⟩ R').setCell ⟨X + 1, 2, none⟩ (.bool c')) (X + 1) L' R' c' :=
  ⟨((st.off h.res 0 _).off (h.res.set0 _) 1 _).off ((h.res.set0 _).set1 _) 2 _, ((h.low.setCell (by simp) _).setCell (by simp) _).setCell (by simp) _, ((h.res.set0 _).set1 _).set2 c'⟩

theorem TwoF.put0 (h : TwoF w L R c X v) (u : Value) : TwoF w u R c X (v.setCell ⟨X, 0, none⟩ u) := ⟨h.low.setCell (Nat.le_refl _) _, h.box.set0 u, h.res.off (by simp) _, by simpa using h.gt⟩
theorem TwoF.put1 (h : TwoF w L R c X v) (u : Value) : TwoF w L u c X (v.setCell ⟨X, 1, none⟩ u) := ⟨h.low.setCell (Nat.le_refl _) _, h.box.set1 u, h.res.off (by simp) _, by simpa using h.gt⟩
theorem TwoF.put2 (h : TwoF w L R c X v) (b : Bool) : TwoF w L R b X (v.setCell ⟨X, 2, none⟩ (.bool b)) := ⟨h.low.setCell (Nat.le_refl _) _, h.box.set2 b, h.res.off (by simp) _, by simpa using h.gt⟩

/-- What the document's Point and Retire hand back. -/
def BackF (w : World) (p : AS × Int) (x : Ending) (w' : World) : Prop :=
  ∃ L' R', x = .returned (.tuple #[rfV L' R' p.1.c, .int .i64 p.2]) ∧ RefAt w' L' R' p.1 ∧ Below w.heap.size w w'

end Go.Proofs.YthpfbljbifcaoaaGreatDoor

namespace Go.Proofs.YthpfbljbifcaoaaGreatDoor
open Go.ChangeShapes Go.WideShapes Go.ChangeAt Go.RowKit Go.Eng Go.Deep

variable {w w' : World} {L R : Value} {s : AS}

set_option maxHeartbeats 1000000 in
set_option maxRecDepth 1000000 in
/-- The document's Retire, of an id that is not free. -/
theorem RRetire_no (h : RefAt w L R s) (hm : s.ls.length ≤ 1000) (hm2 : s.rs.length ≤ 1000) (id : Int) (hf : s.free id = false) :
    Calls Tryz.prog 11 #[rfV L R s.c, .int .u64 id] w fun x w' => BackF w (s, 17) x w' := by
  obtain ⟨w1, hw1⟩ : ∃ w1, w1 = (w.alloc (.cells #[L, R, .bool s.c] 43)).alloc (.cells #[.slice none 0 0, .slice none 0 0, .bool false] 43) := ⟨_, rfl⟩
  have T1 : TwoF w L R s.c w.heap.size w1 := by rw [hw1]; exact TwoF.start w L R s.c
  have st1 : RefAt w1 L R s := by rw [hw1]; exact (h.below (below_alloc _ _)).below (below_alloc _ _)
  have Kf : Aside (∀ {v : World}, Below w1.heap.size w1 v → TwoF w L R s.c w.heap.size v ∧ RefAt v L R s) := fun hb => ⟨T1.below hb, st1.below hb⟩
  have hp := rfree_calls st1 hm hm2 s.c id
  obtain ⟨aL, cL, rfl, nL, sL⟩ := own_shape h.l
  obtain ⟨aR, cR, rfl, nR, sR⟩ := own_shape h.r
  clear T1 st1 h
  subst hw1
  rw [hf] at hp
  clear hf hm hm2 nL nR sL sR
  unfold BackF
  simp only
  generalize s.ls.length = zL at *
  generalize s.rs.length = zR at *
  generalize s.c = c at *
  go_enter Tryz.func11, Tryz.ntmps11
  go_wp2_with (go_at_call 20; with_reducible refine hp.mono ?_; rintro x w3 ⟨hx, b3⟩; subst hx; obtain ⟨T3, st3⟩ := Kf.out b3; have q0 := T3.box.q0; have q1 := T3.box.q1; have q2 := T3.box.q2; have g0 := T3.box.f0; have g1 := T3.box.f1; have g2 := T3.box.f2; have h0 := T3.res.q0; have h1 := T3.res.q1; have h2 := T3.res.q2; have f0 := T3.res.f0; have f1 := T3.res.f1; have f2 := T3.res.f2)
  obtain ⟨F1, F2, F3⟩ := T3.out (c' := c) st3
  have y0 := F3.q0
  have y1 := F3.q1
  have y2 := F3.q2
  exact bodyPost_ret (v := .tuple #[.agg #[.slice aL zL cL, .slice aR zR cR, .bool c], .int .i64 17]) (by simp [results, Tryz.results11, go_sem, y0, y1, y2]) rfl ⟨_, _, rfl, ⟨F1.l, F1.r⟩, F2⟩

theorem own_one {w : World} (x : Value) (e : TypeId) : ∀ (j : Nat) (u : Value), [x][j]? = some u → (w.alloc (.cells #[x] e)).cell? ((⟨w.heap.size, 0, none⟩ : Addr).add j) = some u := by
  intro j u hj
  cases j with
  | zero => simp at hj; subst hj; simp [Addr.add]
  | succ j => simp at hj

theorem nums_more {w : World} {base n : Nat} {v : Value} {rs : List Int} {id : Int} (h : w.ownsRow base 28 1 v n (rs.map (Value.int .u64) ++ [.int .u64 id])) (hn : n = rs.length + 1) : NumsAt w v (rs ++ [id]) := by
  have := World.ownsRow.mono h (Nat.zero_le _)
  unfold NumsAt
  rw [List.map_append, List.length_append]
  subst hn
  exact this

theorem flat_one (ls : List (Int × Int)) (p : Int × Int) : flat (ls ++ [p]) = flat ls ++ prV p := by unfold flat; simp
theorem flat_length (ls : List (Int × Int)) : (flat ls).length = ls.length * 2 := by
  induction ls with
  | nil => rfl
  | cons p l ih =>
    have : flat (p :: l) = prV p ++ flat l := rfl
    rw [this, List.length_append, ih, List.length_cons]
    show 2 + _ = _
    omega

theorem pairs_more {w : World} {base n : Nat} {v : Value} {ls : List (Int × Int)} {p : Int × Int} (h : w.ownsRow base 53 2 v n (flat ls ++ prV p)) (hn : n = ls.length + 1) : PairsAt w v (ls ++ [p]) := by
  have := World.ownsRow.mono h (Nat.zero_le _)
  unfold PairsAt
  rw [flat_one, List.length_append]
  subst hn
  exact this

theorem grown_own {w w' : World} {base n size : Nat} {e : TypeId} {v : Value} {xs : List Value} (hb : base ≤ w.heap.size) (h : w.ownsRow base e size v n xs) (hg : w.grownBy w' v.ownBlock) : Below base w w' :=
  (Below.refl base w).grown hg hb fun k hk => (World.ownsRow.lt h k hk).1

theorem cells_add {w : World} {g : Nat} {xs : List Value} (h : ∀ j u, xs[j]? = some u → w.cell? ⟨g, j, none⟩ = some u) : ∀ (j : Nat) (u : Value), xs[j]? = some u → w.cell? ((⟨g, 0, none⟩ : Addr).add j) = some u := by
  intro j u hj
  rw [Eng.add_plain, Nat.zero_add]
  exact h j u hj

theorem nums_src {w : World} {g n cap : Nat} {rs : List Int} (h : NumsAt w (.slice (some ⟨g, 0, none⟩) n cap) rs) :
    ∀ (j : Nat) (u : Value), (rs.map (Value.int .u64))[j]? = some u → w.cell? ((⟨g, 0, none⟩ : Addr).add j) = some u :=
  cells_add fun j u hj => by
    rw [List.getElem?_map] at hj
    obtain ⟨x, hx, rfl⟩ := Option.map_eq_some_iff.1 hj
    exact NumsAt.cell h hx
theorem pairs_src {w : World} {g n cap : Nat} {ls : List (Int × Int)} (h : PairsAt w (.slice (some ⟨g, 0, none⟩) n cap) ls) (hn : n = ls.length) :
    ∀ (j : Nat) (u : Value), (flat ls)[j]? = some u → w.cell? ((⟨g, 0, none⟩ : Addr).add j) = some u :=
  cells_add fun j u hj => by
    subst hn
    have hl := (List.getElem?_eq_some_iff.1 hj).1
    rw [flat_length] at hl
    rw [World.ownsRow.cellAt h j hl, hj]
theorem flat_cells (ls : List (Int × Int)) : ∀ u ∈ flat ls, u.oneCell' = true := by
  intro u hu
  unfold flat at hu
  obtain ⟨p, _, hp⟩ := List.mem_flatMap.1 hu
  unfold prV at hp
  simp only [List.mem_cons, List.not_mem_nil, or_false] at hp
  rcases hp with rfl | rfl <;> rfl

set_option maxHeartbeats 1000000 in
set_option maxRecDepth 1000000 in
theorem RRetire_yes_some {g n cR : Nat} {rs : List Int} (h : RefAt w L (.slice (some ⟨g, 0, none⟩) n cR) s) (hrs : s.rs = rs) (hn : n = rs.length) (hm : s.ls.length ≤ 1000) (hm2 : n ≤ 1000) (id : Int) (hf : s.free id = true) :
    Calls Tryz.prog 11 #[rfV L (.slice (some ⟨g, 0, none⟩) n cR) s.c, .int .u64 id] w fun x w' => BackF w ({ s with rs := rs ++ [id] }, 0) x w' := by
  obtain ⟨i0, hi, hz0, hz1, hz2⟩ := info_parts info28
  obtain ⟨w1, hw1⟩ : ∃ w1, w1 = (w.alloc (.cells #[L, .slice (some ⟨g, 0, none⟩) n cR, .bool s.c] 43)).alloc (.cells #[.slice none 0 0, .slice none 0 0, .bool false] 43) := ⟨_, rfl⟩
  have T1 : TwoF w L (.slice (some ⟨g, 0, none⟩) n cR) s.c w.heap.size w1 := by rw [hw1]; exact TwoF.start w _ _ s.c
  have st1 : RefAt w1 L (.slice (some ⟨g, 0, none⟩) n cR) s := by rw [hw1]; exact (h.below (below_alloc _ _)).below (below_alloc _ _)
  have Kf : Aside (∀ {v : World}, Below w1.heap.size w1 v → TwoF w L (.slice (some ⟨g, 0, none⟩) n cR) s.c w.heap.size v ∧ RefAt v L (.slice (some ⟨g, 0, none⟩) n cR) s) := fun hb => ⟨T1.below hb, st1.below hb⟩
  have HN : Aside (∀ {v : World}, Below w1.heap.size w1 v → ∀ (j : Nat) (u : Value), (rs.map (Value.int .u64))[j]? = some u → v.cell? ((⟨g, 0, none⟩ : Addr).add j) = some u) := fun hb => nums_src (by have := (st1.below hb).r; rw [hrs] at this; exact this)
  have hp := rfree_calls st1 hm (by rw [hrs]; omega) s.c id
  rw [hf] at hp
  have HL : Aside ((rs.map (Value.int .u64)).length = n * 1 ∧ (∀ u ∈ rs.map (Value.int .u64), u.oneCell' = true) ∧ n = rs.length) := ⟨by rw [List.length_map, hn, Nat.mul_one], fun u hu => by obtain ⟨x, _, rfl⟩ := List.mem_map.1 hu; rfl, hn⟩
  obtain ⟨aL, cL, hLs, _, _⟩ := own_shape h.l
  generalize s.ls.length = zL at hLs
  subst hLs
  clear hf hm T1 st1 h hn hrs
  subst hw1
  unfold BackF
  simp only
  generalize s.c = c at *
  go_enter Tryz.func11, Tryz.ntmps11
  go_wp2_with (first
    | (go_at_call 20; with_reducible refine hp.mono ?_; rintro x w3 ⟨hx, b3⟩; subst hx; obtain ⟨T3, st3⟩ := Kf.out b3; have q0 := T3.box.q0; have q1 := T3.box.q1; have q2 := T3.box.q2; have g0 := T3.box.f0; have g1 := T3.box.f1; have g2 := T3.box.f2; have h0 := T3.res.q0; have h1 := T3.res.q1; have h2 := T3.res.q2; have f0 := T3.res.f0; have f1 := T3.res.f1; have f2 := T3.res.f2)
    | (at_builtin; refine wpList_append_own w3 rfl (.tmp 12) (.tmp 14) 41 rfl w3.heap.size 28 i0 (.int .u64 0) 1 8 Tryz.underlying41 hi hz0 hz1 hz2 rfl (by decide) (.slice none 0 0) 0 [] rfl (World.ownsRow_nil w3 _ 28 1) ⟨g, 0, none⟩ n cR (rs.map (Value.int .u64)) rfl HL.out.1 (HN.out b3) HL.out.2.1 (by unfold maxLen; omega) (by omega) (Nat.le_refl _) ?_; intro v4 w4 own4 gr4 _; rw [List.nil_append, Nat.zero_add] at own4; obtain ⟨a4, c4, rfl, _, _⟩ := own_shape own4; have b4 : Below w3.heap.size w3 w4 := grown_own (Nat.le_refl _) (World.ownsRow_nil w3 w3.heap.size 28 1) gr4; have bb4 : Below w4.heap.size w4 (w4.alloc (.cells #[.int .u64 id] 28)) := below_alloc _ _; have T4 := (T3.below b4).below bb4; have own5 := World.ownsRow.alloc own4 (.cells #[.int .u64 id] 28); clear q0 q1 q2 g0 g1 g2 h0 h1 h2 f0 f1 f2; have q0 := T4.box.q0; have q1 := T4.box.q1; have q2 := T4.box.q2; have g0 := T4.box.f0; have g1 := T4.box.f1; have g2 := T4.box.f2; have h0 := T4.res.q0; have h1 := T4.res.q1; have h2 := T4.res.q2; have f0 := T4.res.f0; have f1 := T4.res.f1; have f2 := T4.res.f2)
    | (at_builtin; refine wpList_append_own _ rfl (.tmp 16) (.tmp 18) 41 rfl w3.heap.size 28 i0 (.int .u64 0) 1 8 Tryz.underlying41 hi hz0 hz1 hz2 rfl (by decide) (.slice a4 n c4) n (rs.map (Value.int .u64)) rfl own5 ⟨w4.heap.size, 0, none⟩ 1 1 [.int .u64 id] rfl rfl (own_one _ _) (by simp [Value.oneCell']) (by unfold maxLen; omega) (by omega) (by have := b4.size; have := bb4.size; omega) ?_; intro v6 w6 own6 gr6 _; obtain ⟨a6, c6, rfl, _, _⟩ := own_shape own6; have b6 : Below w3.heap.size w3 w6 := (b4.trans (bb4.mono b4.size)).trans (grown_own (by have := b4.size; have := bb4.size; omega) own5 gr6); have T6 := T3.below b6; clear q0 q1 q2 g0 g1 g2 h0 h1 h2 f0 f1 f2; have q0 := T6.box.q0; have q1 := T6.box.q1; have q2 := T6.box.q2; have g0 := T6.box.f0; have g1 := T6.box.f1; have g2 := T6.box.f2; have h0 := T6.res.q0; have h1 := T6.res.q1; have h2 := T6.res.q2; have f0 := T6.res.f0; have f1 := T6.res.f1; have f2 := T6.res.f2))
  have T7 := T6.put1 (.slice a6 (n + 1) c6)
  have st6 : RefAt w6 (.slice aL zL cL) (.slice a6 (n + 1) c6) { s with rs := rs ++ [id] } := ⟨(st3.below b6).l, nums_more own6 (by rw [HL.out.2.2])⟩
  have st7 := st6.off T6.box 1 (.slice a6 (n + 1) c6)
  obtain ⟨F1, F2, F3⟩ := T7.out (c' := c) st7
  have y0 := F3.q0
  have y1 := F3.q1
  have y2 := F3.q2
  exact bodyPost_ret (v := .tuple #[.agg #[.slice aL zL cL, .slice a6 (n + 1) c6, .bool c], .int .i64 0]) (by simp [results, Tryz.results11, go_sem, y0, y1, y2]) rfl ⟨_, _, rfl, ⟨F1.l, F1.r⟩, F2⟩

set_option maxHeartbeats 1000000 in
set_option maxRecDepth 1000000 in
theorem RRetire_yes_nil (h : RefAt w L (.slice none 0 0) s) (hrs : s.rs = []) (hm : s.ls.length ≤ 1000) (id : Int) (hf : s.free id = true) :
    Calls Tryz.prog 11 #[rfV L (.slice none 0 0) s.c, .int .u64 id] w fun x w' => BackF w ({ s with rs := [id] }, 0) x w' := by
  obtain ⟨i0, hi, hz0, hz1, hz2⟩ := info_parts info28
  obtain ⟨w1, hw1⟩ : ∃ w1, w1 = (w.alloc (.cells #[L, .slice none 0 0, .bool s.c] 43)).alloc (.cells #[.slice none 0 0, .slice none 0 0, .bool false] 43) := ⟨_, rfl⟩
  have T1 : TwoF w L (.slice none 0 0) s.c w.heap.size w1 := by rw [hw1]; exact TwoF.start w _ _ s.c
  have st1 : RefAt w1 L (.slice none 0 0) s := by rw [hw1]; exact (h.below (below_alloc _ _)).below (below_alloc _ _)
  have Kf : Aside (∀ {v : World}, Below w1.heap.size w1 v → TwoF w L (.slice none 0 0) s.c w.heap.size v ∧ RefAt v L (.slice none 0 0) s) := fun hb => ⟨T1.below hb, st1.below hb⟩
  have hp := rfree_calls st1 hm (by rw [hrs]; simp) s.c id
  rw [hf] at hp
  obtain ⟨aL, cL, hLs, _, _⟩ := own_shape h.l
  generalize s.ls.length = zL at hLs
  subst hLs
  clear hf hm T1 st1 h hrs
  subst hw1
  unfold BackF
  simp only
  generalize s.c = c at *
  go_enter Tryz.func11, Tryz.ntmps11
  go_wp2_with (first
    | (go_at_call 20; with_reducible refine hp.mono ?_; rintro x w3 ⟨hx, b3⟩; subst hx; obtain ⟨T3, st3⟩ := Kf.out b3; have q0 := T3.box.q0; have q1 := T3.box.q1; have q2 := T3.box.q2; have g0 := T3.box.f0; have g1 := T3.box.f1; have g2 := T3.box.f2; have h0 := T3.res.q0; have h1 := T3.res.q1; have h2 := T3.res.q2; have f0 := T3.res.f0; have f1 := T3.res.f1; have f2 := T3.res.f2)
    | (at_builtin; refine wpList_append_own_none rfl (.tmp 12) (.tmp 14) 41 rfl w3.heap.size 28 i0 1 Tryz.underlying41 hi (.slice none 0 0) 0 [] rfl (World.ownsRow_nil w3 _ 28 1) rfl ?_; have bb4 : Below w3.heap.size w3 (w3.alloc (.cells #[.int .u64 id] 28)) := below_alloc _ _; have T4 := T3.below bb4; clear q0 q1 q2 g0 g1 g2 h0 h1 h2 f0 f1 f2; have q0 := T4.box.q0; have q1 := T4.box.q1; have q2 := T4.box.q2; have g0 := T4.box.f0; have g1 := T4.box.f1; have g2 := T4.box.f2; have h0 := T4.res.q0; have h1 := T4.res.q1; have h2 := T4.res.q2; have f0 := T4.res.f0; have f1 := T4.res.f1; have f2 := T4.res.f2)
    | (at_builtin; refine wpList_append_own _ rfl (.tmp 16) (.tmp 18) 41 rfl w3.heap.size 28 i0 (.int .u64 0) 1 8 Tryz.underlying41 hi hz0 hz1 hz2 rfl (by decide) (.slice none 0 0) 0 [] rfl (World.ownsRow_nil _ _ 28 1) ⟨w3.heap.size, 0, none⟩ 1 1 [.int .u64 id] rfl rfl (own_one _ _) (by simp [Value.oneCell']) (by unfold maxLen; omega) (by omega) (by simp) ?_; intro v6 w6 own6 gr6 _; obtain ⟨a6, c6, rfl, _, _⟩ := own_shape own6; have b6 : Below w3.heap.size w3 w6 := bb4.trans (grown_own (by simp) (World.ownsRow_nil _ _ 28 1) gr6); have T6 := T3.below b6; clear q0 q1 q2 g0 g1 g2 h0 h1 h2 f0 f1 f2; have q0 := T6.box.q0; have q1 := T6.box.q1; have q2 := T6.box.q2; have g0 := T6.box.f0; have g1 := T6.box.f1; have g2 := T6.box.f2; have h0 := T6.res.q0; have h1 := T6.res.q1; have h2 := T6.res.q2; have f0 := T6.res.f0; have f1 := T6.res.f1; have f2 := T6.res.f2))
  have T7 := T6.put1 (.slice a6 (0 + 1) c6)
  have st6 : RefAt w6 (.slice aL zL cL) (.slice a6 (0 + 1) c6) { s with rs := [] ++ [id] } := ⟨(st3.below b6).l, nums_more own6 rfl⟩
  have st7 := st6.off T6.box 1 (.slice a6 (0 + 1) c6)
  obtain ⟨F1, F2, F3⟩ := T7.out (c' := c) st7
  have y0 := F3.q0
  have y1 := F3.q1
  have y2 := F3.q2
  exact bodyPost_ret (v := .tuple #[.agg #[.slice aL zL cL, .slice a6 (0 + 1) c6, .bool c], .int .i64 0]) (by simp [results, Tryz.results11, go_sem, y0, y1, y2]) rfl ⟨_, _, rfl, ⟨F1.l, F1.r⟩, F2⟩

/-- The document's Retire. -/
theorem RRetire_calls (h : RefAt w L R s) (hm : s.ls.length ≤ 1000) (hm2 : s.rs.length ≤ 1000) (id : Int) :
    Calls Tryz.prog 11 #[rfV L R s.c, .int .u64 id] w fun x w' => BackF w (s.Retire id) x w' := by
  unfold AS.Retire
  cases hf : s.free id with
  | false => rw [if_neg (by simp)]; exact RRetire_no h hm hm2 id hf
  | true =>
    rw [if_pos rfl]
    obtain ⟨aR, cR, hR, hnone, hsome⟩ := own_shape h.r
    cases aR with
    | none =>
      obtain ⟨h0, hc0⟩ := hnone rfl
      have e : s.rs = [] := List.length_eq_zero_iff.1 h0
      rw [h0, hc0] at hR
      subst hR
      rw [e]
      exact RRetire_yes_nil h e hm id hf
    | some b =>
      obtain ⟨g, rfl⟩ := hsome b rfl
      subst hR
      exact RRetire_yes_some h rfl rfl hm hm2 id hf

end Go.Proofs.YthpfbljbifcaoaaGreatDoor
