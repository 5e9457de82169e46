/- What a bag's List and Unlist hand back; what holds of a bag ahead of each act. Conditions: how the bag lies in memory. -/
import Derived.Test.YtacbhdoeadpncaaGreatDoorSliceP
import Derived.Test.YtacbhdoeadpncaaGreatDoorBgB
import Derived.Ground.SlgnProg
import Derived.Shelf.SlicesE.Clone
import Derived.Test.YtacbhdoeadpncaaGreatDoorMo
import Derived.Shelf.SlicesE.Delete
namespace Go.Proofs.YtacbhdoeadpncaaGreatDoor
open Go.ChangeShapes Go.WideShapes Go.ChangeAt Go.RowKit Go.Eng

theorem size24 : ∀ w, (Go.sizeOf 27).run Tryz.prog w = .ok 1 w := Tryz.sizeOf27

/-- slices.Clone over a list: one of the same numbers, in blocks of its own. -/
theorem clone_list {w : World} {L : Value} {ns : List Int} (h : ListAt w L ns) (hl : ns.length ≤ 100000) :
    Calls Tryz.prog 20 #[L] w fun e w' => ∃ L', e = .returned L' ∧ ListAt w' L' ns ∧ Below w.heap.size w w' ∧ ((L = .slice none 0 0 ∧ L' = .slice none 0 0) ∨ ∃ g cap, L' = .slice (some ⟨g, 0, none⟩) ns.length cap ∧ w.heap.size ≤ g) := by
  obtain ⟨i0, hi, hz0, hz1, hz2⟩ := info_parts info24
  have h0 := h
  rcases h with ⟨rfl, rfl⟩ | ⟨g, cap, cs, rfl, _⟩
  · exact (AnyE.slices_Clone_nil Tryz.cloneL 0 0 w).mono fun e w' ⟨he, hw⟩ => ⟨_, he, .inl ⟨rfl, rfl⟩, by rw [hw]; exact Below.refl _ w, .inl ⟨rfl, rfl⟩⟩
  · obtain ⟨hn, hnc, hcm, hcell⟩ := h0.cell
    have k := AnyE.slices_Clone Tryz.cloneL i0 (.int .u64 0) 1 8 hi hz0 hz1 hz2 rfl (by decide) size24 g 0 ns.length cap (ns.map (Value.int .u64)) w (by simp) (by unfold maxLen; omega) (by omega)
      (fun j u hu => by
        rw [List.getElem?_map] at hu
        obtain ⟨x, hx, rfl⟩ := Option.map_eq_some_iff.1 hu
        rw [Nat.zero_add]
        exact hcell j x hx)
      (fun u hu => by obtain ⟨x, _, rfl⟩ := List.mem_map.1 hu; rfl)
    refine k.mono ?_
    rintro e w' ⟨v, rfl, hown, hne, hb⟩
    refine ⟨v, rfl, ListAt.of_own hown, hb, ?_⟩
    rcases hown.2 with ⟨rfl, h0⟩ | ⟨g', cap', cur, rfl, hg, _⟩
    · exact absurd rfl hne
    · exact .inr ⟨g', cap', rfl, hg⟩

theorem all_calls {w : World} {L : Value} {ns : List Int} (h : ListAt w L ns) (hl : ns.length ≤ 100000) :
    Calls Tryz.prog 8 #[.agg #[L]] w fun e w' => ∃ L', e = .returned L' ∧ ListAt w' L' ns ∧ Below w.heap.size w w' := by
  have b1 : Below w.heap.size w (w.alloc (.cells #[L] 34)) := (Below.refl _ w).alloc (Nat.le_refl _) _
  have hi := clone_list (h.below b1) hl
  obtain ⟨a, n, c, rfl⟩ := h.shape
  clear h hl
  go_enter Tryz.func8, Tryz.ntmps8
  go_wp2_with (go_at_call 20; with_reducible refine hi.mono ?_; rintro e w1 ⟨L', rfl, l1, b2, _⟩)
  obtain ⟨a', n', c', rfl⟩ := l1.shape
  go_ret
  exact ⟨_, rfl, l1, b1.trans (b2.mono b1.size)⟩

set_option maxHeartbeats 1000000 in
theorem equal_some {g n cap g' cap' : Nat} {ns : List Int} {w : World} (h : ListAt w (.slice (some ⟨g, 0, none⟩) n cap) ns) (h' : ListAt w (.slice (some ⟨g', 0, none⟩) n cap') ns) :
    Calls Tryz.prog 11 #[.slice (some ⟨g, 0, none⟩) n cap, .slice (some ⟨g', 0, none⟩) n cap'] w fun e w' => e = .returned (.bool true) ∧ Below w.heap.size w w' := by
  have hC : Aside (∀ {v : World}, Below w.heap.size w v → (∀ (j : Nat) (x : Int), ns[j]? = some x → v.cell? ⟨g, j, none⟩ = some (.int .u64 x)) ∧ (∀ (j : Nat) (x : Int), ns[j]? = some x → v.cell? ⟨g', j, none⟩ = some (.int .u64 x))) :=
    fun hb => ⟨(h.below hb).cell.2.2.2, (h'.below hb).cell.2.2.2⟩
  obtain ⟨hl, hn, hn2, _⟩ := h.cell
  have hb0 := Below.refl w.heap.size w
  clear h h'
  unfold maxLen at hn2
  go_enter Tryz.func11, Tryz.ntmps11
  go_wp2
  go_loopw [13] (fun i wr => ∃ k : Nat, k ≤ n ∧ i = .int .i64 k ∧ Below w.heap.size w wr) (fun i _ => n - (intOf i).toNat)
  case atStart => exact ⟨0, Nat.zero_le _, rfl, hb0⟩
  case round =>
    obtain ⟨k, hk, rfl, hb⟩ := hrel
    by_cases hlt : k < n
    · have hx : ns[k]? = some ns[k] := List.getElem?_eq_getElem (by omega)
      have ha := (hC.out hb).1 k _ hx
      have ha' := (hC.out hb).2 k _ hx
      generalize ns[k] = x at ha ha'
      have hki : (k : Int) < (n : Int) := by omega
      have hk0 : (0 : Int) ≤ (k : Int) := by omega
      go_wp2_with fail
      go_quiet (fail)
      go_wp2
      go_roundw
      case rel => exact ⟨k + 1, by omega, by go_num, hb.trans ⟨rfl, rfl, rfl, Nat.le_refl _, fun _ _ => rfl⟩⟩
      case measure => simp [intOf]; omega
    · go_wp2
      go_ret
      exact ⟨rfl, hb⟩

theorem equal_none (w : World) : Calls Tryz.prog 11 #[.slice none 0 0, .slice none 0 0] w fun e w' => e = .returned (.bool true) ∧ w' = w := by
  go_enter Tryz.func11, Tryz.ntmps11
  go_wp2
  refine wp_loop_rounds 1 ?_
  rw [rounds_succ]
  go_wp2
  go_ret
  exact ⟨rfl, rfl⟩

theorem equal_nil_left (g cap : Nat) (w : World) : Calls Tryz.prog 11 #[.slice none 0 0, .slice (some ⟨g, 0, none⟩) 0 cap] w fun e w' => e = .returned (.bool true) ∧ w' = w := by
  go_enter Tryz.func11, Tryz.ntmps11
  go_wp2
  refine wp_loop_rounds 1 ?_
  rw [rounds_succ]
  go_wp2
  go_ret
  exact ⟨rfl, rfl⟩

theorem equal_nil_right (g cap : Nat) (w : World) : Calls Tryz.prog 11 #[.slice (some ⟨g, 0, none⟩) 0 cap, .slice none 0 0] w fun e w' => e = .returned (.bool true) ∧ w' = w := by
  go_enter Tryz.func11, Tryz.ntmps11
  go_wp2
  refine wp_loop_rounds 1 ?_
  rw [rounds_succ]
  go_wp2
  go_ret
  exact ⟨rfl, rfl⟩

/-- Two lists of the same numbers are equal. -/
theorem equal_list {w : World} {L L' : Value} {ns : List Int} (h : ListAt w L ns) (h' : ListAt w L' ns) :
    Calls Tryz.prog 11 #[L, L'] w fun e w' => e = .returned (.bool true) ∧ Below w.heap.size w w' := by
  have h0 := h
  have h0' := h'
  rcases h with ⟨rfl, rfl⟩ | ⟨g, cap, cs, rfl, k2, k3, k4, k5⟩
  · rcases h' with ⟨rfl, _⟩ | ⟨g', cap', cs', rfl, _⟩
    · exact (equal_none w).mono fun _ _ ⟨he, hw⟩ => ⟨he, by rw [hw]; exact Below.refl _ w⟩
    · exact (equal_nil_left g' cap' w).mono fun _ _ ⟨he, hw⟩ => ⟨he, by rw [hw]; exact Below.refl _ w⟩
  · obtain ⟨e1, e2, e3, e4⟩ := h0.cell
    rcases h' with ⟨rfl, rfl⟩ | ⟨g', cap', cs', rfl, _⟩
    · exact (equal_nil_right g cap w).mono fun _ _ ⟨he, hw⟩ => ⟨he, by rw [hw]; exact Below.refl _ w⟩
    · exact equal_some h0 h0'

end Go.Proofs.YtacbhdoeadpncaaGreatDoor

namespace Go.Proofs.YtacbhdoeadpncaaGreatDoor
open Go.ChangeShapes Go.WideShapes Go.ChangeAt Go.RowKit Go.Eng

theorem aget_aput {β : Type} (i id : Int) (v : β) : ∀ es : List (Int × β), aget i (aput id v es) = if i = id then some v else aget i es := by
  intro es
  induction es with
  | nil => simp [aput, aget]
  | cons p l ih =>
    unfold aput
    by_cases h : id = p.1
    · rw [if_pos h]
      unfold aget
      by_cases e : i = id
      · rw [if_pos e, if_pos e]
      · rw [if_neg e, if_neg e, if_neg (by rw [← h]; exact e)]
    · rw [if_neg h]
      unfold aget
      rw [ih]
      by_cases e : i = id
      · subst e; rw [if_neg h, if_pos rfl, if_pos rfl]
      · rw [if_neg e]; simp [e]

theorem mem_aput {β : Type} {q : Int × β} {id : Int} {v : β} : ∀ {es : List (Int × β)}, q ∈ aput id v es → q = (id, v) ∨ q ∈ es
  | [], h => by simp only [aput, List.mem_singleton] at h; exact .inl h
  | p :: l, h => by
    unfold aput at h
    split at h
    · rcases List.mem_cons.1 h with h | h
      · exact .inl h
      · exact .inr (List.mem_cons_of_mem _ h)
    · rcases List.mem_cons.1 h with h | h
      · exact .inr (by rw [h]; exact List.mem_cons_self ..)
      · rcases mem_aput h with h | h
        · exact .inl h
        · exact .inr (List.mem_cons_of_mem _ h)

/-- A word as a map's value. -/
def vN (n : Nat) : Value := .int .u64 n

/-- What holds of a bag, and of the words that are Removed, ahead of each act. -/
structure BInv (W : World) (B b m gm k : Nat) (L : Value) (ns : List Int) (es : List (Int × Pl)) (gs : List (Int × Nat)) (w : World) : Prop where
  bag : BagAt w b m L es
  lst : ListAt w L ns
  len : ns.length ≤ k
  gone : MapSt .u64 vN w gm gs
  cell : ∀ i p, aget i es = some p → B ≤ p.c ∧ ∃ x, WordAt w p.c x ∧ x / 4 ≤ k
  inj : ∀ i j p q, aget i es = some p → aget j es = some q → p.c = q.c → i = j
  rem : ∀ q ∈ gs, ∃ p, aget q.1 es = some p ∧ WordAt w p.c q.2 ∧ q.2 % 4 = 3
  low : Below B W w
  hb : B ≤ b
  hm : B ≤ m
  hg : B ≤ gm
  mg : m ≠ gm

variable {W w : World} {B b m gm k : Nat} {L : Value} {ns : List Int} {es : List (Int × Pl)} {gs : List (Int × Nat)}

theorem BInv.bm (h : BInv W B b m gm k L ns es gs w) : b ≠ m := by
  rintro rfl
  obtain ⟨ms, c, h1, _⟩ := h.bag.2
  have := h.bag.1
  rw [h1] at this; simp at this
theorem BInv.bg (h : BInv W B b m gm k L ns es gs w) : b ≠ gm := by
  rintro rfl
  obtain ⟨ms, c, h1, _⟩ := h.gone
  have := h.bag.1
  rw [h1] at this; simp at this
theorem word_bag {w : World} {c x b m : Nat} {L : Value} {es : List (Int × Pl)} (hw : WordAt w c x) (hb : BagAt w b m L es) : b ≠ c ∧ m ≠ c := by
  unfold WordAt at hw
  constructor
  · rintro rfl
    have := hb.1
    rw [hw] at this; simp at this
  · rintro rfl
    obtain ⟨ms, c, h1, _⟩ := hb.2
    rw [hw] at h1; simp at h1
theorem BInv.gc (h : BInv W B b m gm k L ns es gs w) {c x : Nat} (hw : WordAt w c x) : gm ≠ c := by
  unfold WordAt at hw
  rintro rfl
  obtain ⟨ms, c, h1, _⟩ := h.gone
  rw [hw] at h1; simp at h1

theorem BInv.size (h : BInv W B b m gm k L ns es gs w) : B ≤ w.heap.size := Nat.le_of_lt (Nat.lt_of_le_of_lt h.hb h.bag.lt.1)

theorem BInv.grow {w' : World} (h : BInv W B b m gm k L ns es gs w) (hB : Below w.heap.size w w') : BInv W B b m gm k L ns es gs w' :=
  ⟨h.bag.below hB h.bag.lt.1 h.bag.lt.2, h.lst.below hB, h.len, h.gone.below hB h.gone.lt,
   fun i p hi => by obtain ⟨h1, x, hx, hk⟩ := h.cell i p hi; exact ⟨h1, x, hx.below hB hx.lt, hk⟩, h.inj,
   fun q hq => by obtain ⟨p, hp, hx, h3⟩ := h.rem q hq; exact ⟨p, hp, hx.below hB hx.lt, h3⟩,
   h.low.trans (hB.mono h.size), h.hb, h.hm, h.hg, h.mg⟩

theorem BInv.more {k' : Nat} (h : BInv W B b m gm k L ns es gs w) (hk : k ≤ k') : BInv W B b m gm k' L ns es gs w :=
  ⟨h.bag, h.lst, Nat.le_trans h.len hk, h.gone, fun i p hi => by obtain ⟨h1, x, hx, hk'⟩ := h.cell i p hi; exact ⟨h1, x, hx, by omega⟩, h.inj, h.rem, h.low, h.hb, h.hm, h.hg, h.mg⟩

theorem MapSt.upto {β : Type} {V : β → Value} {S : Nat → Prop} {w w' : World} {m : Nat} {es : List (Int × β)} (h : MapSt .u64 V w m es) (u : Upto S w w') (h1 : ¬ S m) : MapSt .u64 V w' m es := h.same (u.block m h.lt h1)

theorem ListAt.upto {S : Nat → Prop} {w w' : World} {L : Value} {ns : List Int} (h : ListAt w L ns) (u : Upto S w w') (hS : ∀ g cs, w.heap[g]? = some (.cells cs 27 (0, 0)) → ¬ S g) : ListAt w' L ns :=
  h.kept fun g cs hg => (u.block g (Array.getElem?_eq_some_iff.1 hg).1 (hS g cs hg)).trans hg

theorem not_list_word {w : World} {c x : Nat} (hw : WordAt w c x) {g : Nat} {cs : Array Value} (hg : w.heap[g]? = some (.cells cs 27 (0, 0))) : g ≠ c := by
  unfold WordAt at hw
  rintro rfl
  rw [hw] at hg; simp at hg
theorem not_list_bag {w : World} {b m : Nat} {L : Value} {es : List (Int × Pl)} (h : BagAt w b m L es) {g : Nat} {cs : Array Value} (hg : w.heap[g]? = some (.cells cs 27 (0, 0))) : g ≠ b ∧ g ≠ m := by
  constructor
  · rintro rfl
    have := h.1
    rw [hg] at this; simp at this
  · rintro rfl
    obtain ⟨ms, c, h1, _⟩ := h.2
    rw [hg] at h1; simp at h1

/-- All blocks of cells but a bag's and the words' stay as they were. -/
def Keeps (w w' : World) : Prop := ∀ (j : Nat) (cs : Array Value) (t : TypeId) (fr : Nat × Nat), t ≠ 48 → t ≠ 66 → w.heap[j]? = some (.cells cs t fr) → w'.heap[j]? = some (.cells cs t fr)

theorem Keeps.below {w w' : World} (h : Below w.heap.size w w') : Keeps w w' := fun j _ _ _ _ _ hj => (h.block j (Array.getElem?_eq_some_iff.1 hj).1).trans hj
theorem Keeps.trans {a b c : World} (h : Keeps a b) (k : Keeps b c) : Keeps a c := fun j cs t fr h1 h2 hj => k j cs t fr h1 h2 (h j cs t fr h1 h2 hj)
theorem Keeps.list {w w' : World} (h : Keeps w w') {L : Value} {ns : List Int} (hl : ListAt w L ns) : ListAt w' L ns := hl.kept fun g cs hg => h g cs 27 (0, 0) (by decide) (by decide) hg
theorem Keeps.upto {S : Nat → Prop} {w w' : World} (u : Upto S w w') (hS : ∀ j cs t fr, S j → w.heap[j]? = some (.cells cs t fr) → t = 48 ∨ t = 66) : Keeps w w' := fun j cs t fr h1 h2 hj =>
  (u.block j (Array.getElem?_eq_some_iff.1 hj).1 (fun s => by rcases hS j cs t fr s hj with e | e; exact h1 e; exact h2 e)).trans hj
theorem map_cells {β : Type} {V : β → Value} {w : World} {m : Nat} {es : List (Int × β)} (h : MapIs .u64 V w m es) {cs : Array Value} {t : TypeId} {fr : Nat × Nat} (hj : w.heap[m]? = some (.cells cs t fr)) : False := by
  obtain ⟨ms, c, h1, _⟩ := h
  rw [hj] at h1; simp at h1
theorem bag_cells {w : World} {b m : Nat} {L : Value} {es : List (Int × Pl)} (h : BagAt w b m L es) {cs : Array Value} {t : TypeId} {fr : Nat × Nat} (hj : w.heap[b]? = some (.cells cs t fr)) : t = 48 := by
  have := h.1
  rw [hj] at this; simp at this; exact this.2.1
theorem word_cells {w : World} {c x : Nat} (h : WordAt w c x) {cs : Array Value} {t : TypeId} {fr : Nat × Nat} (hj : w.heap[c]? = some (.cells cs t fr)) : t = 66 := by
  unfold WordAt at h
  rw [hj] at h; simp at h; exact h.2.1

/-- Enter, whatever its arguments. -/
theorem inv_enter (h : BInv W B b m gm k L ns es gs w) (id st : Int) (now : Nat) :
    Calls Tryz.prog 6 #[.pointer (some ⟨b, 0, none⟩), .int .u64 id, .int .i64 st, .int .u64 now] w fun e w' => (∃ r, e = .returned (.int .i64 r)) ∧ (∃ es', BInv W B b m gm k L ns es' gs w') ∧ Keeps w w' := by
  refine (enter_any h.bag h.bm id st now).mono ?_
  rintro e w' ⟨he, hb | ⟨hn, c, s, hc, hcm, hcb, hs, hu, hw, hbag⟩⟩
  · exact ⟨he, ⟨es, h.grow hb⟩, .below hb⟩
  · refine ⟨he, ⟨aput id ⟨c, now, now, now⟩ es, hbag, ?_, h.len, MapSt.upto h.gone hu (fun e => h.mg e.symm), ?_, ?_, ?_, ?_, h.hb, h.hm, h.hg, h.mg⟩, .upto hu fun j cs t fr hj hc => by rw [hj] at hc; exact (map_cells h.bag.2 hc).elim⟩
    · exact h.lst.upto hu fun g cs hg => (not_list_bag h.bag hg).2
    · intro i p hi
      rw [aget_aput] at hi
      split at hi
      · obtain rfl := Option.some.inj hi
        exact ⟨Nat.le_trans h.size hc, s, hw, by omega⟩
      · obtain ⟨h1, x, hx, hk⟩ := h.cell i p hi
        exact ⟨h1, x, hx.upto hu (fun e => (word_bag hx h.bag).2 e.symm), hk⟩
    · intro i j p q hi hj hpq
      rw [aget_aput] at hi hj
      split at hi
      · split at hj
        · simp [*]
        · obtain rfl := Option.some.inj hi
          obtain ⟨_, x, hx, _⟩ := h.cell j q hj
          have := hx.lt
          simp only at hpq
          omega
      · split at hj
        · obtain rfl := Option.some.inj hj
          obtain ⟨_, x, hx, _⟩ := h.cell i p hi
          have := hx.lt
          simp only at hpq
          omega
        · exact h.inj i j p q hi hj hpq
    · intro q hq
      obtain ⟨p, hp, hx, h3⟩ := h.rem q hq
      refine ⟨p, ?_, hx.upto hu (fun e => (word_bag hx h.bag).2 e.symm), h3⟩
      rw [aget_aput, if_neg]
      · exact hp
      · rintro e
        rw [e, hn] at hp; cases hp
    · exact h.low.trans (hu.below h.size (fun j hj => by rw [hj]; exact h.hm))

/-- Publish. The lists that were taken stay. -/
theorem inv_publish (h : BInv W B b m gm k L ns es gs w) (hk : k ≤ 1000) (id : Int) :
    Calls Tryz.prog 9 #[.pointer (some ⟨b, 0, none⟩), .int .u64 id] w fun e w' => (∃ r, e = .returned (.int .i64 r)) ∧ (∃ L' ns', BInv W B b m gm (k + 1) L' ns' es gs w') ∧ Keeps w w' := by
  refine (publish_calls h.bag h.bm h.lst (by have := h.len; omega) id).mono ?_
  rintro e w' ⟨he, L', ns', hu, hbag, hl, hn⟩
  refine ⟨he, ⟨L', ns', ⟨hbag, hl, by have := h.len; omega, MapSt.upto h.gone hu (fun e => h.bg e.symm), ?_, h.inj, ?_, ?_, h.hb, h.hm, h.hg, h.mg⟩⟩, .upto hu fun j cs t fr hj hc => by rw [hj] at hc; exact .inl (bag_cells h.bag hc)⟩
  · intro i p hi
    obtain ⟨h1, x, hx, hk⟩ := h.cell i p hi
    exact ⟨h1, x, hx.upto hu (fun e => (word_bag hx h.bag).1 e.symm), by omega⟩
  · intro q hq
    obtain ⟨p, hp, hx, h3⟩ := h.rem q hq
    exact ⟨p, hp, hx.upto hu (fun e => (word_bag hx h.bag).1 e.symm), h3⟩
  · exact h.low.trans (hu.below h.size (fun j hj => by rw [hj]; exact h.hb))

theorem toN_next {x : Nat} {st : Int} (hx : x / 4 ≤ 1000) (hm : mayB ((x % 4 : Nat) : Int) st = true) : toN x st / 4 = x / 4 + 1 := by
  have := may_range hm
  unfold toN ofN
  omega

/-- What a swap that goes on leaves. -/
theorem inv_on (h : BInv W B b m gm k L ns es gs w) (hk : k ≤ 1000) (id : Int) {p : Pl} {x : Nat} (hid : aget id es = some p) (hx : WordAt w p.c x) {st : Int} (hm : mayB ((x % 4 : Nat) : Int) st = true) (now : Nat) :
    Calls Tryz.prog 13 #[.pointer (some ⟨b, 0, none⟩), .int .u64 id, .int .u64 x, .int .i64 st, .int .u64 now] w fun e w' => e = .returned (.tuple #[.int .u64 (toN x st : Nat), .bool true]) ∧ (∃ es' p', BInv W B b m gm (k + 1) L ns es' gs w' ∧ aget id es' = some p' ∧ WordAt w' p'.c (toN x st)) ∧ Keeps w w' := by
  have hxk : x / 4 ≤ k := by
    obtain ⟨_, y, hy, hyk⟩ := h.cell id p hid
    have : y = x := by unfold WordAt at hx hy; rw [hx] at hy; simp at hy; omega
    omega
  have hN : swapN x x st = some (toN x st) := by unfold swapN; rw [if_pos ⟨hm, rfl⟩]
  have hr := toN_next (by omega) hm
  have h3 : x % 4 ≠ 3 := by
    intro e
    rw [e] at hm
    unfold mayB at hm
    simp at hm
  have wb := word_bag hx h.bag
  have fin : ∀ {w' : World} {es' : List (Int × Pl)} {p' : Pl}, Upto (fun j => j = p.c ∨ j = m) w w' → WordAt w' p.c (toN x st) → BagAt w' b m L es' → p'.c = p.c → (∀ i, aget i es' = if i = id then some p' else aget i es) →
      BInv W B b m gm (k + 1) L ns es' gs w' ∧ aget id es' = some p' ∧ WordAt w' p'.c (toN x st) := by
    intro w' es' p' hu hw hbag hpc hag
    have hcl := (h.cell id p hid).1
    refine ⟨⟨hbag, ?_, by have := h.len; omega, MapSt.upto h.gone hu ?_, ?_, ?_, ?_, ?_, h.hb, h.hm, h.hg, h.mg⟩, by rw [hag, if_pos rfl], by rw [hpc]; exact hw⟩
    · refine h.lst.upto hu fun g cs hg => ?_
      rintro (e | e)
      · exact not_list_word hx hg e
      · exact (not_list_bag h.bag hg).2 e
    · rintro (e | e)
      · exact h.gc hx e
      · exact h.mg e.symm
    · intro i q hi
      rw [hag] at hi
      split at hi
      · obtain rfl := Option.some.inj hi
        rw [hpc]
        exact ⟨hcl, _, hw, by omega⟩
      · rename_i hne
        obtain ⟨h1, y, hy, hyk⟩ := h.cell i q hi
        refine ⟨h1, y, hy.upto hu ?_, by omega⟩
        rintro (e | e)
        · exact hne (h.inj i id q p hi hid e)
        · exact (word_bag hy h.bag).2 e.symm
    · intro i j q r hi hj hqr
      rw [hag] at hi hj
      split at hi
      · split at hj
        · simp [*]
        · obtain rfl := Option.some.inj hi
          rw [hpc] at hqr
          have := h.inj j id r p hj hid hqr.symm
          simp [*]
      · split at hj
        · obtain rfl := Option.some.inj hj
          rw [hpc] at hqr
          have := h.inj i id q p hi hid hqr
          simp [*]
        · exact h.inj i j q r hi hj hqr
    · intro q hq
      obtain ⟨r, hr', hy, h3'⟩ := h.rem q hq
      have hne : ¬ q.1 = id := by
        intro e
        rw [e, hid] at hr'
        obtain rfl := Option.some.inj hr'
        have : q.2 = x := by unfold WordAt at hx hy; rw [hx] at hy; simp at hy; omega
        omega
      refine ⟨r, by rw [hag, if_neg hne]; exact hr', hy.upto hu ?_, h3'⟩
      rintro (e | e)
      · exact hne (h.inj q.1 id r p hr' hid e)
      · exact (word_bag hy h.bag).2 e.symm
    · refine h.low.trans (hu.below h.size ?_)
      rintro j (e | e)
      · rw [e]; exact hcl
      · rw [e]; exact h.hm
  have kp : ∀ {w' : World}, Upto (fun j => j = p.c ∨ j = m) w w' → Keeps w w' := fun hu => .upto hu fun j cs t fr hj hc => by
    rcases hj with hj | hj
    · rw [hj] at hc; exact .inr (word_cells hx hc)
    · rw [hj] at hc; exact (map_cells h.bag.2 hc).elim
  by_cases h0 : st = 0
  · subst h0
    refine (bag_swap_free h.bag id hid hx wb.1 wb.2 h.bm x (by omega) now hN).mono ?_
    rintro e w' ⟨he, hu, hw, hbag⟩
    exact ⟨he, ⟨_, { p with since := now }, fin hu hw hbag rfl (fun i => aget_aput i id _ es)⟩, kp hu⟩
  · refine (bag_swap_on h.bag id hid hx x (by omega) st now hN (by simpa using h0)).mono ?_
    rintro e w' ⟨he, hu, hw⟩
    refine ⟨he, ⟨es, p, fin (hu.mono fun j hj => .inl hj) hw (h.bag.upto hu wb.1 wb.2) rfl (fun i => ?_)⟩, kp (hu.mono fun j hj => .inl hj)⟩
    split
    · rename_i e; rw [e]; exact hid
    · rfl

/-- A swap that does not go on. -/
theorem inv_no (h : BInv W B b m gm k L ns es gs w) (id : Int) {p : Pl} {x : Nat} (hid : aget id es = some p) (hx : WordAt w p.c x) {n : Nat} (hn : n < 18446744073709551616) {st : Int} (hN : swapN x n st = none) (now : Nat) :
    Calls Tryz.prog 13 #[.pointer (some ⟨b, 0, none⟩), .int .u64 id, .int .u64 n, .int .i64 st, .int .u64 now] w fun e w' => e = .returned (.tuple #[.int .u64 x, .bool false]) ∧ BInv W B b m gm k L ns es gs w' ∧ WordAt w' p.c x :=
  (bag_swap_no h.bag id hid hx n hn st now hN).mono fun _ _ ⟨he, hb⟩ => ⟨he, h.grow hb, hx.below hb hx.lt⟩

theorem inv_none (h : BInv W B b m gm k L ns es gs w) (id : Int) (hid : aget id es = none) (n : Nat) (hn : n < 18446744073709551616) (st : Int) (now : Nat) :
    Calls Tryz.prog 13 #[.pointer (some ⟨b, 0, none⟩), .int .u64 id, .int .u64 n, .int .i64 st, .int .u64 now] w fun e w' => e = .returned (.tuple #[.int .u64 0, .bool false]) ∧ BInv W B b m gm k L ns es gs w' :=
  (bag_swap_none h.bag id hid n hn st now).mono fun _ _ ⟨he, hb⟩ => ⟨he, h.grow hb⟩

theorem inv_load (h : BInv W B b m gm k L ns es gs w) (id : Int) {p : Pl} {x : Nat} (hid : aget id es = some p) (hx : WordAt w p.c x) :
    Calls Tryz.prog 12 #[.pointer (some ⟨b, 0, none⟩), .int .u64 id] w fun e w' => e = .returned (.tuple #[.int .u64 x, .bool true]) ∧ BInv W B b m gm k L ns es gs w' ∧ WordAt w' p.c x :=
  (load_some h.bag id hid hx).mono fun _ _ ⟨he, hb⟩ => ⟨he, h.grow hb, hx.below hb hx.lt⟩

theorem inv_load_none (h : BInv W B b m gm k L ns es gs w) (id : Int) (hid : aget id es = none) :
    Calls Tryz.prog 12 #[.pointer (some ⟨b, 0, none⟩), .int .u64 id] w fun e w' => e = .returned (.tuple #[.int .u64 0, .bool false]) ∧ BInv W B b m gm k L ns es gs w' :=
  (load_none h.bag id hid).mono fun _ _ ⟨he, hb⟩ => ⟨he, h.grow hb⟩

end Go.Proofs.YtacbhdoeadpncaaGreatDoor

namespace Go.Proofs.YtacbhdoeadpncaaGreatDoor
open Go.ChangeShapes Go.WideShapes Go.ChangeAt Go.RowKit Go.Eng

def encI (x : Int) : Value := .int .u64 x

theorem heap_putRow {w : World} {g : Nat} {cs : Array Value} {t : TypeId} {f : Nat × Nat} {d : Array Int} {q : Nat} (hg : w.heap[g]? = some (.cells cs t f)) :
    ∃ cs', (Go.Sort.putRow encI (Go.Sort.ahead w q) g 0 d).heap[g]? = some (.cells cs' t f) := by
  unfold Go.Sort.putRow Go.Sort.mapBlock Go.Sort.ahead
  simp only [Array.getElem?_modify, if_true, hg]
  exact ⟨_, rfl⟩

theorem heap_putRow_other {w : World} {g k : Nat} {d : Array Int} {q : Nat} (hk : k ≠ g) : (Go.Sort.putRow encI (Go.Sort.ahead w q) g 0 d).heap[k]? = w.heap[k]? := by
  unfold Go.Sort.putRow Go.Sort.mapBlock Go.Sort.ahead
  simp only [Array.getElem?_modify]
  rw [if_neg (fun e => hk e.symm)]

theorem upto_putRow {w : World} {g : Nat} {d : Array Int} {q : Nat} : Upto (· = g) w (Go.Sort.putRow encI (Go.Sort.ahead w q) g 0 d) :=
  ⟨rfl, rfl, rfl, by unfold Go.Sort.putRow Go.Sort.mapBlock Go.Sort.ahead; simp, fun k _ hk => heap_putRow_other hk⟩

/-- slices.Delete of one place of a list. -/
theorem delete_list {w : World} {g cap : Nat} {ns : List Int} (h : ListAt w (.slice (some ⟨g, 0, none⟩) ns.length cap) ns) (i : Nat) (hi : i < ns.length) :
    Calls Tryz.prog 30 #[.slice (some ⟨g, 0, none⟩) ns.length cap, .int .i64 i, .int .i64 (i + 1 : Nat)] w fun e w' => ∃ ns', e = .returned (.slice (some ⟨g, 0, none⟩) (ns.length - 1) cap) ∧ ns'.length = ns.length - 1 ∧ ListAt w' (.slice (some ⟨g, 0, none⟩) (ns.length - 1) cap) ns' ∧ Upto (· = g) w w' := by
  obtain ⟨i0, hi0, hz0, hz1, hz2⟩ := info_parts info24
  obtain ⟨_, hn, hcm, hcell⟩ := h.cell
  have hblk : ∃ cs, w.heap[g]? = some (.cells cs 27 (0, 0)) := by
    rcases h with ⟨h, _⟩ | ⟨g', cap', cs, h1, h2, _⟩
    · cases h
    · simp only [Value.slice.injEq, Option.some.injEq, Addr.mk.injEq, and_true] at h1
      rw [h1.1]; exact ⟨cs, h2⟩
  obtain ⟨cs, hcs⟩ := hblk
  have hH : Go.Sort.Holds encI w g 0 ns.toArray := by
    intro j hj
    have hj' : j < ns.length := by simpa using hj
    have := hcell j _ (List.getElem?_eq_getElem hj')
    rw [Nat.zero_add]
    refine ⟨?_, by simp [World.frozen?, hcs]⟩
    rw [this, getElem!_pos ns.toArray j hj, List.getElem_toArray]; rfl
  have k := AnyE.slices_Delete Tryz.delL encI (fun _ => rfl) 0 Tryz.zeroValue27 i0 hi0 hz1 g 0 cap i (i + 1) ns.toArray w hH (by simpa using hn) (by unfold maxLen at hcm; omega) (by omega) (by simp; omega)
  have e1 : ns.toArray.size = ns.length := by simp
  have e2 : i + 1 - i = 1 := by omega
  rw [e1, e2] at k
  refine k.mono ?_
  rintro e w' ⟨rfl, q, rfl⟩
  have hlen : (List.take i ns ++ List.drop (i + 1) ns).length = ns.length - 1 := by simp; omega
  refine ⟨List.take i ns ++ List.drop (i + 1) ns, rfl, hlen, ?_, upto_putRow⟩
  have hHa : Go.Sort.Holds encI (Go.Sort.ahead w q) g 0 ns.toArray := fun j hj => hH j hj
  have hsz : (ns.toArray.toList.take i ++ ns.toArray.toList.drop (i + 1) ++ List.replicate 1 (0 : Int)).toArray.size = ns.toArray.size := by simp; omega
  have hP := Go.Sort.holds_putRow encI (Go.Sort.ahead w q) g 0 ns.toArray (ns.toArray.toList.take i ++ ns.toArray.toList.drop (i + 1) ++ List.replicate 1 (0 : Int)).toArray hHa hsz
  obtain ⟨cs', hcs'⟩ := heap_putRow (d := (ns.toArray.toList.take i ++ ns.toArray.toList.drop (i + 1) ++ List.replicate 1 (0 : Int)).toArray) (q := q) hcs
  refine .inr ⟨g, cap, cs', by rw [hlen], hcs', by omega, hcm, fun j x hj => ?_⟩
  have hjl : j < ns.length - 1 := by rw [← hlen]; exact (List.getElem?_eq_some_iff.1 hj).1
  have := (hP j (by rw [hsz, e1]; omega)).1
  rw [Nat.zero_add] at this
  simp only [World.cell?, hcs'] at this
  change cs'[j]? = _ at this
  rw [this, getElem!_pos _ j (by rw [hsz, e1]; omega)]
  have hx : ((ns.toArray.toList.take i ++ ns.toArray.toList.drop (i + 1) ++ List.replicate 1 (0 : Int)))[j]? = some x := by
    rw [List.getElem?_append_left (by simp only; rw [hlen]; exact hjl)]
    exact hj
  rw [List.getElem_toArray]
  rw [List.getElem?_eq_getElem (by simp; omega)] at hx
  rw [Option.some.inj hx]; rfl

end Go.Proofs.YtacbhdoeadpncaaGreatDoor

namespace Go.Proofs.YtacbhdoeadpncaaGreatDoor
open Go.ChangeShapes Go.WideShapes Go.ChangeAt Go.RowKit Go.Eng

set_option maxHeartbeats 1000000 in
theorem list_calls {w : World} {b m : Nat} {L : Value} {es : List (Int × Pl)} {ns : List Int} (h : BagAt w b m L es) (hl : ListAt w L ns) :
    Calls Tryz.prog 7 #[.pointer (some ⟨b, 0, none⟩)] w fun e w' => e = .returned (.agg #[L]) ∧ Below w.heap.size w w' := by
  have b1 : Below w.heap.size w (w.alloc (.cells #[.slice none 0 0] 34)) := (Below.refl _ w).alloc (Nat.le_refl _) _
  have c1 := (h.below b1 h.lt.1 h.lt.2).cell1
  obtain ⟨a, n, c, rfl⟩ := hl.shape
  clear h hl
  go_enter Tryz.func7, Tryz.ntmps7
  go_wp2
  refine bodyPost_ret (v := .agg #[.slice a n c]) (by simp [results, Tryz.results7, go_sem]) rfl ⟨rfl, ?_⟩
  exact (Below.refl _ w).alloc (Nat.le_refl _) _

set_option maxHeartbeats 2000000 in
set_option maxRecDepth 1000000 in
theorem without_some {w : World} {g n cap : Nat} {ns : List Int} (h : ListAt w (.slice (some ⟨g, 0, none⟩) n cap) ns) (y : Int) (hl : ns.length ≤ 100000) :
    Calls Tryz.prog 23 #[.agg #[.slice (some ⟨g, 0, none⟩) n cap], .int .u64 y] w fun e w' => ∃ L' ns', e = .returned (.agg #[L']) ∧ ListAt w' L' ns' ∧ ns'.length ≤ ns.length ∧ Below w.heap.size w w' := by
  obtain ⟨hn, hnc, hcm, hcell⟩ := h.cell
  obtain ⟨w1, hw1⟩ : ∃ w1, w1 = (w.alloc (.cells #[.slice (some ⟨g, 0, none⟩) n cap] 34)).alloc (.cells #[.slice none 0 0] 34) := ⟨_, rfl⟩
  have b1 : Below w.heap.size w w1 := by rw [hw1]; exact ((Below.refl _ w).alloc (Nat.le_refl _) _).alloc (by simp) _
  have h1 := h.below b1
  have hix := snap_index h1 y
  rw [hw1] at hix
  have lw1 : w1.heap.size = w.heap.size + 2 := by rw [hw1]; simp
  have r0 : w1.heap[w.heap.size]? = some (.cells #[.slice (some ⟨g, 0, none⟩) n cap] 34 (0, 0)) := by
    rw [hw1, Below.heap_alloc _ _ _ (by simp)]; exact (Go.MapKept.heap_alloc w _).1
  have r1 : w1.heap[w.heap.size + 1]? = some (.cells #[.slice none 0 0] 34 (0, 0)) := by
    have e := (Go.MapKept.heap_alloc (w.alloc (.cells #[.slice (some ⟨g, 0, none⟩) n cap] 34)) (.cells #[.slice none 0 0] 34)).1
    have hs : (w.alloc (.cells #[.slice (some ⟨g, 0, none⟩) n cap] 34)).heap.size = w.heap.size + 1 := by simp
    rw [hs, ← hw1] at e
    exact e
  have K : Aside (∀ {v : World}, Below w1.heap.size w1 v → v.cell? ⟨w.heap.size, 0, none⟩ = some (.slice (some ⟨g, 0, none⟩) n cap) ∧ v.cell? ⟨w.heap.size + 1, 0, none⟩ = some (.slice none 0 0) ∧ v.frozen? ⟨w.heap.size + 1, 0, none⟩ = false ∧ Aside (v.heap[w.heap.size + 1]? = some (.cells #[.slice none 0 0] 34 (0, 0)) ∧ ListAt v (.slice (some ⟨g, 0, none⟩) n cap) ns ∧ Below w.heap.size w v)) := by
    intro v hv
    have e0 := (hv.block w.heap.size (by omega)).trans r0
    have e1 := (hv.block (w.heap.size + 1) (by omega)).trans r1
    exact ⟨by simp [World.cell?, e0], by simp [World.cell?, e1], by simp [World.frozen?, e1], e1, h1.below hv, b1.trans (hv.mono b1.size)⟩
  have cl : Aside (∀ {v : World}, ListAt v (.slice (some ⟨g, 0, none⟩) n cap) ns → Calls Tryz.prog 20 #[.slice (some ⟨g, 0, none⟩) n cap] v fun e w' => ∃ g' cap', e = .returned (.slice (some ⟨g', 0, none⟩) n cap') ∧ ListAt w' (.slice (some ⟨g', 0, none⟩) n cap') ns ∧ Below v.heap.size v w' ∧ v.heap.size ≤ g' ∧ g' < w'.heap.size) := by
    intro v hv
    refine (clone_list hv hl).mono ?_
    rintro e w' ⟨L', rfl, l', hb, ⟨hv, _⟩ | ⟨g', cap', rfl, hg⟩⟩
    · cases hv
    · refine ⟨g', cap', by rw [hn], by rw [hn]; exact l', hb, hg, ?_⟩
      rcases l' with ⟨l', _⟩ | ⟨g2, cap2, cs2, l1, l2, _⟩
      · cases l'
      · simp only [Value.slice.injEq, Option.some.injEq, Addr.mk.injEq, and_true] at l1
        rw [l1.1]; exact (Array.getElem?_eq_some_iff.1 l2).1
  have hnA : Aside (n = ns.length) := hn
  clear h h1 hcell r0 r1 b1 hn
  rw [hw1] at K lw1
  clear hw1
  go_enter Tryz.func23, Tryz.ntmps23
  go_wp2_with (go_at_call 28; with_reducible refine hix.mono ?_; rintro e w2 ⟨⟨i, rfl, hi2⟩, b2⟩; obtain ⟨q0, q1, q2, q3⟩ := K.out b2)
  · obtain ⟨q4, q5, q6⟩ := q3.out
    refine bodyPost_ret (v := .agg #[.slice (some ⟨g, 0, none⟩) n cap]) (by simp [results, Tryz.results23, go_sem, World.cell?_setCell_same _ _ _ q1]) rfl ⟨_, ns, rfl, ?_, Nat.le_refl _, ?_⟩
    · refine q5.kept fun k cs hk => ?_
      rw [Below.heap_setCell _ _ _ _ (by rintro rfl; rw [q4] at hk; simp at hk)]
      exact hk
    · exact q6.setCell (by simp) _
  · obtain ⟨s, rfl⟩ : ∃ s : Nat, i = s := ⟨i.toNat, by omega⟩
    have hs : s < ns.length := by omega
    have del := fun {w : World} {g' cap' : Nat} (h : ListAt w (.slice (some ⟨g', 0, none⟩) n cap') ns) => delete_list (w := w) (g := g') (cap := cap') (ns := ns) (by rw [← hnA.out]; exact h) s hs
    rw [← hnA.out] at del
    have delA : Aside (∀ {w : World} {g' cap' : Nat}, ListAt w (.slice (some ⟨g', 0, none⟩) n cap') ns → Calls Tryz.prog 30 #[.slice (some ⟨g', 0, none⟩) n cap', .int .i64 s, .int .i64 ((s : Int) + 1)] w fun e w' => ∃ ns', e = .returned (.slice (some ⟨g', 0, none⟩) (n - 1) cap') ∧ ns'.length = n - 1 ∧ ListAt w' (.slice (some ⟨g', 0, none⟩) (n - 1) cap') ns' ∧ Upto (· = g') w w') := del
    clear del
    go_wp2_with (first
      | (go_at_call 20; have h5 := cl.out q3.out.2.1; with_reducible refine h5.mono ?_; clear h5; rintro e w3 ⟨g3, cap3, rfl, l3, b3, hg3, hl3⟩)
      | (go_at_call 30; have h6 := delA.out l3; with_reducible refine h6.mono ?_; clear h6; rintro e w5 ⟨ns5, rfl, hn5, l5, u5⟩; have b5 := b2.trans ((b3.trans (u5.below b3.size (fun k hk => by rw [hk]; exact hg3))).mono b2.size); obtain ⟨t0, t1, t2, t3⟩ := K.out b5))
    obtain ⟨t4, t5, t6⟩ := t3.out
    refine bodyPost_ret (v := .agg #[.slice (some ⟨g3, 0, none⟩) (n - 1) cap3]) (by simp [results, Tryz.results23, go_sem, World.cell?_setCell_same _ _ _ t1]) rfl ⟨_, ns5, rfl, ?_, by rw [hn5, hnA.out]; exact Nat.sub_le _ _, ?_⟩
    · refine l5.kept fun k cs hk => ?_
      rw [Below.heap_setCell _ _ _ _ (by rintro rfl; rw [t4] at hk; simp at hk)]
      exact hk
    · exact t6.setCell (by simp) _

set_option maxHeartbeats 2000000 in
set_option maxRecDepth 1000000 in
theorem without_none {w : World} (y : Int) :
    Calls Tryz.prog 23 #[.agg #[.slice none 0 0], .int .u64 y] w fun e w' => ∃ L' ns', e = .returned (.agg #[L']) ∧ ListAt w' L' ns' ∧ ns'.length ≤ 0 ∧ Below w.heap.size w w' := by
  have h : ListAt w (.slice none 0 0) [] := .inl ⟨rfl, rfl⟩
  obtain ⟨w1, hw1⟩ : ∃ w1, w1 = (w.alloc (.cells #[.slice none 0 0] 34)).alloc (.cells #[.slice none 0 0] 34) := ⟨_, rfl⟩
  have b1 : Below w.heap.size w w1 := by rw [hw1]; exact ((Below.refl _ w).alloc (Nat.le_refl _) _).alloc (by simp) _
  have hix := snap_index (h.below b1) y
  rw [hw1] at hix
  have lw1 : w1.heap.size = w.heap.size + 2 := by rw [hw1]; simp
  have r0 : w1.heap[w.heap.size]? = some (.cells #[.slice none 0 0] 34 (0, 0)) := by
    rw [hw1, Below.heap_alloc _ _ _ (by simp)]; exact (Go.MapKept.heap_alloc w _).1
  have r1 : w1.heap[w.heap.size + 1]? = some (.cells #[.slice none 0 0] 34 (0, 0)) := by
    have e := (Go.MapKept.heap_alloc (w.alloc (.cells #[.slice none 0 0] 34)) (.cells #[.slice none 0 0] 34)).1
    have hs : (w.alloc (.cells #[.slice none 0 0] 34)).heap.size = w.heap.size + 1 := by simp
    rw [hs, ← hw1] at e
    exact e
  have K : Aside (∀ {v : World}, Below w1.heap.size w1 v → v.cell? ⟨w.heap.size, 0, none⟩ = some (.slice none 0 0) ∧ v.cell? ⟨w.heap.size + 1, 0, none⟩ = some (.slice none 0 0) ∧ v.frozen? ⟨w.heap.size + 1, 0, none⟩ = false ∧ Aside (Below w.heap.size w v)) := by
    intro v hv
    have e0 := (hv.block w.heap.size (by omega)).trans r0
    have e1 := (hv.block (w.heap.size + 1) (by omega)).trans r1
    exact ⟨by simp [World.cell?, e0], by simp [World.cell?, e1], by simp [World.frozen?, e1], b1.trans (hv.mono b1.size)⟩
  clear h r0 r1 b1
  rw [hw1] at K lw1
  clear hw1
  go_enter Tryz.func23, Tryz.ntmps23
  go_wp2_with (go_at_call 28; with_reducible refine hix.mono ?_; rintro e w2 ⟨⟨i, rfl, hi2⟩, b2⟩; obtain ⟨q0, q1, q2, q3⟩ := K.out b2)
  · refine bodyPost_ret (v := .agg #[.slice none 0 0]) (by simp [results, Tryz.results23, go_sem, World.cell?_setCell_same _ _ _ q1]) rfl ⟨_, [], rfl, .inl ⟨rfl, rfl⟩, Nat.le_refl _, ?_⟩
    exact q3.out.setCell (by simp) _
  · exfalso
    simp only [List.length_nil] at hi2
    omega

/-- snap.Without, over a list. -/
theorem snap_without {w : World} {L : Value} {ns : List Int} (h : ListAt w L ns) (y : Int) (hl : ns.length ≤ 100000) :
    Calls Tryz.prog 23 #[.agg #[L], .int .u64 y] w fun e w' => ∃ L' ns', e = .returned (.agg #[L']) ∧ ListAt w' L' ns' ∧ ns'.length ≤ ns.length ∧ Below w.heap.size w w' := by
  have h0 := h
  rcases h with ⟨rfl, rfl⟩ | ⟨g, cap, cs, rfl, _⟩
  · exact without_none y
  · exact without_some h0 y hl

set_option maxHeartbeats 1000000 in
theorem unlist_calls {w : World} {b m : Nat} {L : Value} {es : List (Int × Pl)} {ns : List Int} (h : BagAt w b m L es) (hbm : b ≠ m) (hl : ListAt w L ns) (hn : ns.length ≤ 100000) (id : Int) :
    Calls Tryz.prog 10 #[.pointer (some ⟨b, 0, none⟩), .int .u64 id] w fun e w' => (∃ r, e = .returned (.int .i64 r)) ∧ Listed w b m es ns.length w' := by
  have hk := known_calls h id
  have W1 : Aside (∀ {v : World}, Below w.heap.size w v → BagAt v b m L es ∧ ListAt v L ns) := fun hv => ⟨h.below hv h.lt.1 h.lt.2, hl.below hv⟩
  cases hs : (aget id es).isSome with
  | false =>
    rw [hs] at hk
    clear h hs
    go_enter Tryz.func10, Tryz.ntmps10
    go_wp2_with (go_at_call 21; with_reducible refine hk.mono ?_; rintro e w1 ⟨rfl, b1⟩)
    go_ret
    obtain ⟨k1, k2⟩ := W1.out b1
    exact ⟨⟨_, rfl⟩, L, ns, .of_below b1, k1, k2, by omega⟩
  | true =>
    rw [hs] at hk
    obtain ⟨a, n, c, rfl⟩ := hl.shape
    have hw : Aside (∀ {v : World}, ListAt v (.slice a n c) ns → Calls Tryz.prog 23 #[.agg #[.slice a n c], .int .u64 id] v fun e w' => ∃ L' ns', e = .returned (.agg #[L']) ∧ ListAt w' L' ns' ∧ ns'.length ≤ ns.length ∧ Below v.heap.size v w') := fun hv => snap_without hv id hn
    clear h hs hl
    go_enter Tryz.func10, Tryz.ntmps10
    go_wp2_with (first
      | (go_at_call 21; with_reducible refine hk.mono ?_; rintro e w1 ⟨rfl, b1⟩; obtain ⟨k1, k2⟩ := W1.out b1; have c1 := k1.cell1)
      | (go_at_call 23; have h5 := hw.out k2; with_reducible refine h5.mono ?_; clear h5 c1; rintro e w2 ⟨L', ns', rfl, l2, ln, b2⟩; have k3 := k1.below b2 k1.lt.1 k1.lt.2; have c2 := k3.cell1; have f2 := k3.free1; obtain ⟨a', n', c', rfl⟩ := l2.shape))
    go_ret
    exact ⟨⟨_, rfl⟩, _, ns', (Upto.of_below (S := (· = b)) (b1.trans (b2.mono b1.size))).setCell (p := ⟨b, 1, none⟩) (.inl rfl) _, k3.setList hbm, l2.setBag k3, ln⟩

/-- Unlist. The lists that were taken stay. -/
theorem inv_unlist {W w : World} {B b m gm k : Nat} {L : Value} {ns : List Int} {es : List (Int × Pl)} {gs : List (Int × Nat)} (h : BInv W B b m gm k L ns es gs w) (hk : k ≤ 1000) (id : Int) :
    Calls Tryz.prog 10 #[.pointer (some ⟨b, 0, none⟩), .int .u64 id] w fun e w' => (∃ r, e = .returned (.int .i64 r)) ∧ (∃ L' ns', BInv W B b m gm k L' ns' es gs w') ∧ Keeps w w' := by
  refine (unlist_calls h.bag h.bm h.lst (by have := h.len; omega) id).mono ?_
  rintro e w' ⟨he, L', ns', hu, hbag, hl, hn⟩
  refine ⟨he, ⟨L', ns', ⟨hbag, hl, by have := h.len; omega, MapSt.upto h.gone hu (fun e => h.bg e.symm), ?_, h.inj, ?_, ?_, h.hb, h.hm, h.hg, h.mg⟩⟩, .upto hu fun j cs t fr hj hc => by rw [hj] at hc; exact .inl (bag_cells h.bag hc)⟩
  · intro i p hi
    obtain ⟨h1, x, hx, hk⟩ := h.cell i p hi
    exact ⟨h1, x, hx.upto hu (fun e => (word_bag hx h.bag).1 e.symm), by omega⟩
  · intro q hq
    obtain ⟨p, hp, hx, h3⟩ := h.rem q hq
    exact ⟨p, hp, hx.upto hu (fun e => (word_bag hx h.bag).1 e.symm), h3⟩
  · exact h.low.trans (hu.below h.size (fun j hj => by rw [hj]; exact h.hb))

end Go.Proofs.YtacbhdoeadpncaaGreatDoor

namespace Go.Proofs.YtacbhdoeadpncaaGreatDoor
open Go.ChangeShapes Go.WideShapes Go.ChangeAt Go.RowKit Go.Eng

variable {W w : World} {B b m gm k : Nat} {L : Value} {ns : List Int} {es : List (Int × Pl)} {gs : List (Int × Nat)}

/-- What Load tells of an id. -/
def LoadIs (es : List (Int × Pl)) (w : World) (id : Int) (X : Nat) (ok : Bool) : Prop :=
  (∃ p, aget id es = some p ∧ WordAt w p.c X ∧ ok = true) ∨ (aget id es = none ∧ X = 0 ∧ ok = false)

theorem BInv.loadIs (h : BInv W B b m gm k L ns es gs w) (id : Int) : ∃ X ok, LoadIs es w id X ok := by
  cases hid : aget id es with
  | none => exact ⟨0, false, .inr ⟨hid, rfl, rfl⟩⟩
  | some p =>
    obtain ⟨_, x, hx, _⟩ := h.cell id p hid
    exact ⟨x, true, .inl ⟨p, hid, hx, rfl⟩⟩

theorem WordAt.one {w : World} {c x y : Nat} (h : WordAt w c x) (h' : WordAt w c y) : x = y := by
  unfold WordAt at h h'
  rw [h] at h'; simp at h'; omega

theorem LoadIs.small {id : Int} {X : Nat} {ok : Bool} (h : BInv W B b m gm k L ns es gs w) (hl : LoadIs es w id X ok) : X / 4 ≤ k := by
  rcases hl with ⟨p, h1, h2, _⟩ | ⟨_, rfl, _⟩
  · obtain ⟨_, x, hx, hk⟩ := h.cell id p h1
    rw [h2.one hx]; exact hk
  · omega

theorem LoadIs.below {w' : World} {id : Int} {X : Nat} {ok : Bool} (hl : LoadIs es w id X ok) (hB : Below w.heap.size w w') : LoadIs es w' id X ok := by
  rcases hl with ⟨p, h1, h2, h3⟩ | h
  · exact .inl ⟨p, h1, h2.below hB h2.lt, h3⟩
  · exact .inr h

theorem any_load (h : BInv W B b m gm k L ns es gs w) {id : Int} {X : Nat} {ok : Bool} (hl : LoadIs es w id X ok) :
    Calls Tryz.prog 12 #[.pointer (some ⟨b, 0, none⟩), .int .u64 id] w fun e w' => e = .returned (.tuple #[.int .u64 X, .bool ok]) ∧ BInv W B b m gm k L ns es gs w' ∧ LoadIs es w' id X ok ∧ Below w.heap.size w w' := by
  rcases hl with ⟨p, h1, h2, rfl⟩ | ⟨h1, rfl, rfl⟩
  · exact (load_some h.bag id h1 h2).mono fun _ _ ⟨he, hb⟩ => ⟨he, h.grow hb, .inl ⟨p, h1, h2.below hb h2.lt, rfl⟩, hb⟩
  · exact (load_none h.bag id h1).mono fun _ _ ⟨he, hb⟩ => ⟨he, h.grow hb, .inr ⟨h1, rfl, rfl⟩, hb⟩

/-- A swap with that old word goes on no more. -/
def Second (es : List (Int × Pl)) (w : World) (id : Int) (X : Nat) (st : Int) : Prop :=
  aget id es = none ∨ ∃ p x, aget id es = some p ∧ WordAt w p.c x ∧ swapN x X st = none

theorem any_first (h : BInv W B b m gm k L ns es gs w) (hk : k ≤ 1000) {id : Int} {X : Nat} {ok : Bool} (hl : LoadIs es w id X ok) (st : Int) (now : Nat) :
    Calls Tryz.prog 13 #[.pointer (some ⟨b, 0, none⟩), .int .u64 id, .int .u64 X, .int .i64 st, .int .u64 now] w fun e w' => (∃ y : Nat, e = .returned (.tuple #[.int .u64 y, .bool (ok && mayB ((X % 4 : Nat) : Int) st)])) ∧ (∃ es', BInv W B b m gm (k + 1) L ns es' gs w' ∧ Second es' w' id X st) ∧ Keeps w w' := by
  have hX := LoadIs.small h hl
  have hX64 : X < 18446744073709551616 := by omega
  rcases hl with ⟨p, h1, h2, rfl⟩ | ⟨h1, rfl, rfl⟩
  · cases hm : mayB ((X % 4 : Nat) : Int) st with
    | true =>
      refine (inv_on h hk id h1 h2 hm now).mono ?_
      rintro e w' ⟨rfl, ⟨es', p', hi, hp, hw⟩, hkp⟩
      refine ⟨⟨_, rfl⟩, ⟨es', hi, .inr ⟨p', _, hp, hw, ?_⟩⟩, hkp⟩
      have := toN_next (by omega) hm
      unfold swapN
      rw [if_neg]
      rintro ⟨_, e⟩
      rw [e] at this
      omega
    | false =>
      have hN : swapN X X st = none := by unfold swapN; rw [if_neg (by rw [hm]; simp)]
      refine (bag_swap_no h.bag id h1 h2 X hX64 st now hN).mono ?_
      rintro e w' ⟨rfl, hb⟩
      exact ⟨⟨_, rfl⟩, ⟨es, (h.grow hb).more (Nat.le_succ _), .inr ⟨p, X, h1, h2.below hb h2.lt, hN⟩⟩, .below hb⟩
  · refine (bag_swap_none h.bag id h1 0 (by omega) st now).mono ?_
    rintro e w' ⟨rfl, hb⟩
    exact ⟨⟨0, rfl⟩, ⟨es, (h.grow hb).more (Nat.le_succ _), .inl h1⟩, .below hb⟩

theorem any_second (h : BInv W B b m gm k L ns es gs w) {id : Int} {X : Nat} {st : Int} (hs : Second es w id X st) (hX : X < 18446744073709551616) (now : Nat) :
    Calls Tryz.prog 13 #[.pointer (some ⟨b, 0, none⟩), .int .u64 id, .int .u64 X, .int .i64 st, .int .u64 now] w fun e w' => (∃ y : Nat, e = .returned (.tuple #[.int .u64 y, .bool false])) ∧ BInv W B b m gm k L ns es gs w' ∧ Below w.heap.size w w' := by
  rcases hs with h1 | ⟨p, x, h1, h2, hN⟩
  · exact (bag_swap_none h.bag id h1 X hX st now).mono fun _ _ ⟨he, hb⟩ => ⟨⟨0, he⟩, h.grow hb, hb⟩
  · exact (bag_swap_no h.bag id h1 h2 X hX st now hN).mono fun _ _ ⟨he, hb⟩ => ⟨⟨x, he⟩, h.grow hb, hb⟩

theorem upto_told {ms : List MapEntry} {c : Nat} : Upto (· = gm) w { w with heap := w.heap.setIfInBounds gm (.map ms.toArray c) } :=
  (Upto.of_below (S := (· = gm)) (Below.refl _ w)).put rfl _

/-- A Removed word is told. -/
theorem BInv.told (h : BInv W B b m gm k L ns es gs w) {id : Int} {X : Nat} (hl : LoadIs es w id X true) (h3 : X % 4 = 3) {ms : List MapEntry} {c : Nat} (he : EntsR .u64 vN ms (aput id X gs)) (hs : Stamped ms c) :
    BInv W B b m gm k L ns es (aput id X gs) { w with heap := w.heap.setIfInBounds gm (.map ms.toArray c) } := by
  have hu : Upto (· = gm) w { w with heap := w.heap.setIfInBounds gm (.map ms.toArray c) } := upto_told
  have hg : ∀ {cs : Array Value} {t : TypeId} {fr : Nat × Nat}, w.heap[gm]? = some (.cells cs t fr) → False := fun hc => map_cells h.gone.is hc
  refine ⟨h.bag.upto hu h.bg h.mg, ?_, h.len, MapSt.put h.gone.lt he hs, ?_, h.inj, ?_, h.low.trans (hu.below h.size (fun j hj => by rw [hj]; exact h.hg)), h.hb, h.hm, h.hg, h.mg⟩
  · exact h.lst.upto hu fun g cs hc e => by rw [e] at hc; exact hg hc
  · intro i p hi
    obtain ⟨h1, x, hx, hk⟩ := h.cell i p hi
    exact ⟨h1, x, hx.upto hu (fun e => h.gc hx e.symm), hk⟩
  · intro q hq
    rcases mem_aput hq with rfl | hq
    · rcases hl with ⟨p, h1, h2, _⟩ | ⟨_, _, h⟩
      · exact ⟨p, h1, h2.upto hu (fun e => h.gc h2 e.symm), h3⟩
      · cases h
    · obtain ⟨p, h1, hx, h3⟩ := h.rem q hq
      exact ⟨p, h1, hx.upto hu (fun e => h.gc hx e.symm), h3⟩

theorem BInv.keeps_told (h : BInv W B b m gm k L ns es gs w) {ms : List MapEntry} {c : Nat} : Keeps w { w with heap := w.heap.setIfInBounds gm (.map ms.toArray c) } :=
  .upto upto_told fun j cs t fr hj hc => by rw [hj] at hc; exact (map_cells h.gone.is hc).elim

end Go.Proofs.YtacbhdoeadpncaaGreatDoor
