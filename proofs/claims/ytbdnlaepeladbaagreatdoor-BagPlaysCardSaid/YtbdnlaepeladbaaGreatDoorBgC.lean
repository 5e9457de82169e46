/- The document's bag, part 1: Find, with, Proved, Swap. Conditions: how its lists lie in memory. -/
import Derived.Test.YtbdnlaepeladbaaGreatDoorBgB
import Derived.Deep.Cut
set_option linter.unusedSimpArgs false
set_option linter.unusedVariables false
namespace Go.Proofs.YtbdnlaepeladbaaGreatDoor
open Go.ChangeShapes Go.WideShapes Go.ChangeAt Go.RowKit Go.Eng

/-! ### lists of rows in memory, that are read -/

def LstAt (cols : List TK) (w : World) (v : Value) (l : List (List Int)) : Prop := ListR cols false v [.rows l] w (fun _ => False) (fun _ => True)

theorem LstAt.of {cols : List TK} {w : World} {v : Value} {l : List (List Int)} {D R : Nat → Prop} (h : ListR cols false v [.rows l] w D R) : LstAt cols w v l := by
  obtain ⟨l', h0, h⟩ := h
  refine ⟨l', h0, h.imp id ?_⟩
  rintro ⟨b, off, cap, cs, e, h1, h2, h3, h4, h5, h6, h7⟩
  exact ⟨b, off, cap, cs, e, h1, h2, h3, h4, h5, .inr ⟨rfl, trivial⟩, h7⟩

theorem LstAt.below {cols : List TK} {w w' : World} {v : Value} {l : List (List Int)} (h : LstAt cols w v l) (hb : Below w.heap.size w w') : LstAt cols w' v l := by
  obtain ⟨l', h0, h⟩ := h
  refine ⟨l', h0, h.imp id ?_⟩
  rintro ⟨b, off, cap, cs, e, h1, h2, h3, h4, h5, h6, h7⟩
  exact ⟨b, off, cap, cs, e, h1, h2, h3, (hb.block b (Array.getElem?_eq_some_iff.1 h4).1).trans h4, h5, h6, h7⟩

theorem LstAt.shape {cols : List TK} {w : World} {v : Value} {l : List (List Int)} (h : LstAt cols w v l) : (v = .slice none 0 0 ∧ l = []) ∨ ∃ b off cap, v = .slice (some ⟨b, off, none⟩) l.length cap ∧ l.length ≤ cap ∧ cap ≤ maxLen ∧ b < w.heap.size := by
  obtain ⟨l', h0, h⟩ := h
  simp only [List.cons.injEq, U.rows.injEq, and_true] at h0
  subst h0
  refine h.imp id ?_
  rintro ⟨b, off, cap, cs, e, h1, h2, h3, h4, h5, h6, h7⟩
  exact ⟨b, off, cap, h1, h2, by unfold maxLen; omega, (Array.getElem?_eq_some_iff.1 h4).1⟩

theorem LstAt.row {cols : List TK} {w : World} {b off n cap : Nat} {l : List (List Int)} (h : LstAt cols w (.slice (some ⟨b, off, none⟩) n cap) l) {k : Nat} {row : List Int} (hk : l[k]? = some row) :
    colWfs cols row = true ∧ ∀ c, c < cols.length → w.cell? ⟨b, off + k * cols.length + c, none⟩ = (colVs cols row)[c]? := by
  obtain ⟨l', h0, h⟩ := h
  simp only [List.cons.injEq, U.rows.injEq, and_true] at h0
  subst h0
  rcases h with ⟨h, _⟩ | ⟨b', off', cap', cs, e, h1, h2, h3, h4, h5, h6, h7⟩
  · cases h
  · simp only [Value.slice.injEq, Option.some.injEq, Addr.mk.injEq, and_true] at h1
    obtain ⟨⟨rfl, rfl⟩, _⟩ := h1
    obtain ⟨g1, g2⟩ := h7 k row hk
    exact ⟨g1, fun c hc => by simp only [World.cell?, h4]; exact g2 c hc⟩

theorem five_row {row : List Int} (h : colWfs fiveK row = true) : ∃ a b c d e : Int, row = [a, b, c, d, e] ∧ (Lit.int .u64 a).wf = true ∧ (Lit.int .u64 b).wf = true ∧ (Lit.int .u64 c).wf = true ∧ (Lit.int .u64 d).wf = true ∧ (Lit.int .u64 e).wf = true := by
  match row, h with
  | [a, b, c, d, e], h =>
    simp only [fiveK, colWfs, colWf, Bool.and_eq_true] at h
    exact ⟨a, b, c, d, e, rfl, h.1, h.2.1, h.2.2.1, h.2.2.2.1, h.2.2.2.2.1⟩
  | [], h => simp [fiveK, colWfs] at h
  | [a], h => simp [fiveK, colWfs] at h
  | [a, b], h => simp [fiveK, colWfs] at h
  | [a, b, c], h => simp [fiveK, colWfs] at h
  | [a, b, c, d], h => simp [fiveK, colWfs] at h
  | a :: b :: c :: d :: e :: f :: l, h => simp [fiveK, colWfs] at h

theorem LstAt.five {w : World} {b off n cap : Nat} {l : List (List Int)} (h : LstAt fiveK w (.slice (some ⟨b, off, none⟩) n cap) l) {k : Nat} {a0 a1 a2 a3 a4 : Int} (hk : l[k]? = some [a0, a1, a2, a3, a4]) :
    w.cell? ⟨b, off + k * 5, none⟩ = some (.int .u64 a0) ∧ w.cell? ⟨b, off + k * 5 + 1, none⟩ = some (.int .u64 a1) ∧ w.cell? ⟨b, off + k * 5 + 2, none⟩ = some (.int .u64 a2) ∧ w.cell? ⟨b, off + k * 5 + 3, none⟩ = some (.int .u64 a3) ∧ w.cell? ⟨b, off + k * 5 + 4, none⟩ = some (.int .u64 a4) := by
  obtain ⟨_, g⟩ := h.row hk
  exact ⟨g 0 (by decide), g 1 (by decide), g 2 (by decide), g 3 (by decide), g 4 (by decide)⟩

/-- The first place of a key; -1. -/
def IsAt (l : List (List Int)) (id i : Int) : Prop := (i = -1 ∧ rfind id l = none) ∨ ∃ (k : Nat) (row : List Int), i = k ∧ l[k]? = some row ∧ row.headD 0 = id ∧ rfind id l = some row.tail ∧ (∀ zs, rset id zs l = l.set k (id :: zs)) ∧ ∀ j row, j < k → l[j]? = some row → row.headD 0 ≠ id

theorem isAt_drop {id : Int} : ∀ {l : List (List Int)} {k : Nat}, (∀ j row, j < k → l[j]? = some row → row.headD 0 ≠ id) → rfind id l = rfind id (l.drop k)
  | [], k, _ => by simp
  | r :: l, 0, _ => rfl
  | r :: l, k + 1, h => by
    have h0 := h 0 r (by omega) rfl
    rw [rfind, if_neg (fun e => h0 e.symm)]
    exact isAt_drop fun j row hj hr => h (j + 1) row (by omega) (by simpa using hr)
theorem rset_at {id : Int} {zs : List Int} : ∀ {l : List (List Int)} {k : Nat} {row : List Int}, (∀ j row, j < k → l[j]? = some row → row.headD 0 ≠ id) → l[k]? = some row → row.headD 0 = id → rset id zs l = l.set k (id :: zs)
  | [], k, row, _, h, _ => by simp at h
  | r :: l, 0, row, _, h, h2 => by
    simp only [List.getElem?_cons_zero, Option.some.injEq] at h
    subst h
    rw [rset, if_pos h2.symm, List.set_cons_zero]
  | r :: l, k + 1, row, hb, h, h2 => by
    have h0 := hb 0 r (by omega) rfl
    have ih := rset_at (zs := zs) (l := l) (k := k) (row := row) (fun j row hj hr => hb (j + 1) row (by omega) (by simpa using hr)) (by simpa using h) h2
    rw [rset, if_neg (fun e => h0 e.symm), List.set_cons_succ, ih]

theorem isAt_some {l : List (List Int)} {id : Int} {k : Nat} {row : List Int} (hb : ∀ j row, j < k → l[j]? = some row → row.headD 0 ≠ id) (hk : l[k]? = some row) (hr : row.headD 0 = id) : IsAt l id k := by
  refine .inr ⟨k, row, rfl, hk, hr, ?_, fun zs => rset_at hb hk hr, hb⟩
  rw [isAt_drop hb]
  have hlt := (List.getElem?_eq_some_iff.1 hk).1
  rw [List.drop_eq_getElem_cons hlt, rfind]
  have : l[k] = row := by rw [List.getElem?_eq_getElem hlt] at hk; exact Option.some.inj hk
  rw [this, if_pos hr.symm]
theorem isAt_none {l : List (List Int)} {id : Int} (hb : ∀ j row, j < l.length → l[j]? = some row → row.headD 0 ≠ id) : IsAt l id (-1) := by
  refine .inl ⟨rfl, ?_⟩
  rw [isAt_drop hb, List.drop_length]; rfl

theorem isAt_ex (id : Int) : ∀ l : List (List Int), (∀ row ∈ l, row.headD 0 ≠ id) ∨ ∃ (k : Nat) (row : List Int), l[k]? = some row ∧ row.headD 0 = id ∧ ∀ j row, j < k → l[j]? = some row → row.headD 0 ≠ id
  | [] => .inl (by simp)
  | r :: l => by
    by_cases h : r.headD 0 = id
    · exact .inr ⟨0, r, rfl, h, fun j _ hj => by omega⟩
    · rcases isAt_ex id l with h1 | ⟨k, row, h1, h2, h3⟩
      · refine .inl fun row hr => ?_
        rcases List.mem_cons.1 hr with rfl | hr
        · exact h
        · exact h1 row hr
      · refine .inr ⟨k + 1, row, by simpa using h1, h2, fun j row' hj hr => ?_⟩
        cases j with
        | zero => simp only [List.getElem?_cons_zero, Option.some.injEq] at hr; rw [← hr]; exact h
        | succ j => exact h3 j row' (by omega) (by simpa using hr)

/-- The place is there to be named ahead. -/
theorem isAt_one (l : List (List Int)) (id : Int) : (IsAt l id (-1) ∧ rfind id l = none ∧ ∀ i, IsAt l id i → i = -1) ∨ ∃ (k : Nat) (row : List Int), l[k]? = some row ∧ row.headD 0 = id ∧ rfind id l = some row.tail ∧ (∀ zs, rset id zs l = l.set k (id :: zs)) ∧ ∀ i, IsAt l id i → i = k := by
  rcases isAt_ex id l with h | ⟨k, row, h1, h2, h3⟩
  · have hi : IsAt l id (-1) := isAt_none fun j row _ hr => h row (List.mem_of_getElem? hr)
    have hr : rfind id l = none := by
      rcases hi with ⟨_, h⟩ | ⟨k, _, h, _⟩
      · exact h
      · omega
    refine .inl ⟨hi, hr, fun i h' => ?_⟩
    rcases h' with ⟨e, _⟩ | ⟨k, row, _, hk, hrr, _⟩
    · exact e
    · exact absurd hrr (h row (List.mem_of_getElem? hk))
  · obtain hi := isAt_some h3 h1 h2
    rcases hi with ⟨e, _⟩ | ⟨k', row', e, g1, g2, g3, g4, g5⟩
    · omega
    have hkk : k' = k := by omega
    subst hkk
    rw [h1] at g1
    obtain rfl := Option.some.inj g1
    refine .inr ⟨k', row, h1, h2, g3, g4, fun i h' => ?_⟩
    rcases h' with ⟨_, e⟩ | ⟨q, r, e, q1, q2, q3, q4, q5⟩
    · rw [g3] at e; cases e
    · rcases Nat.lt_trichotomy q k' with g | g | g
      · exact absurd q2 (h3 q r g q1)
      · omega
      · exact absurd h2 (q5 k' row g h1)

set_option maxHeartbeats 2000000 in
theorem find_some {w : World} {b off cap : Nat} {l : List (List Int)} (h : LstAt fiveK w (.slice (some ⟨b, off, none⟩) l.length cap) l) (hm : l.length ≤ 1000000) (a2 : Option Addr) (n2 c2 : Nat) (id : Int) :
    Calls Tryz.prog 99 #[.agg #[.slice (some ⟨b, off, none⟩) l.length cap, .slice a2 n2 c2], .int .u64 id] w fun e w' => (∃ i : Int, e = .returned (.int .i64 i) ∧ IsAt l id i) ∧ Below w.heap.size w w' := by
  obtain ⟨w1, hw1⟩ : ∃ w1, w1 = w.alloc (.cells #[.slice (some ⟨b, off, none⟩) l.length cap, .slice a2 n2 c2] 61) := ⟨_, rfl⟩
  have b1 : Below w.heap.size w w1 := by rw [hw1]; exact (Below.refl _ w).alloc (Nat.le_refl _) _
  have C : Aside (∀ {v : World}, Below w.heap.size w v → LstAt fiveK v (.slice (some ⟨b, off, none⟩) l.length cap) l) := fun hb => h.below hb
  have HB : Aside (Below w.heap.size w w1) := b1
  have W5 : Aside (∀ {k : Nat} {row : List Int}, l[k]? = some row → colWfs fiveK row = true) := fun hk => (h.row hk).1
  obtain ⟨n, hn⟩ : ∃ n, n = l.length := ⟨_, rfl⟩
  have HN : Aside (n = l.length) := hn
  rw [← hn] at hm hw1 ⊢
  clear h b1 hn
  subst hw1
  go_enter Tryz.func99, Tryz.ntmps99
  go_wp2
  go_loopg [10] n (fun gh i wx => ∃ k : Nat, k ≤ n ∧ gh = n - k ∧ i = .int .i64 k ∧ Aside (∀ j row, j < k → l[j]? = some row → row.headD 0 ≠ id) ∧ Below w.heap.size w wx)
  case atStart => exact ⟨0, Nat.zero_le _, rfl, rfl, fun j row hj => by omega, HB.out⟩
  case round =>
    obtain ⟨k, hk, rfl, rfl, hd, hb⟩ := hrel
    by_cases hlt : k < n
    · obtain ⟨row, hp⟩ : ∃ row, l[k]? = some row := ⟨_, List.getElem?_eq_getElem (by rw [← HN.out]; exact hlt)⟩
      obtain ⟨x0, x1, x2, x3, x4, rfl, _⟩ := five_row (W5.out hp)
      obtain ⟨c0, c1, c2', c3, c4⟩ := (C.out hb).five hp
      have HP : Aside (l[k]? = some [x0, x1, x2, x3, x4]) := hp
      have HB2 : Aside (∀ o : Obj, Below w.heap.size w (wr.alloc o)) := fun o => hb.alloc hb.size o
      clear hp hb
      have hki : (k : Int) < (n : Int) := by omega
      by_cases e : x0 = id
      · have e' : (x0 == id) = true := by simpa using e
        go_wp2
        go_ret
        exact ⟨⟨k, rfl, isAt_some hd.out HP.out e⟩, HB2.out _⟩
      · have e' : (x0 == id) = false := by simpa using e
        go_wp2
        go_roundg (n - (k + 1))
        case measure => omega
        case rel =>
          refine ⟨k + 1, by omega, rfl, by go_num, fun j row hj hr => ?_, HB2.out _⟩
          rcases Nat.lt_or_ge j k with g | g
          · exact hd.out j row g hr
          · have : j = k := by omega
            rw [this, HP.out] at hr
            obtain rfl := Option.some.inj hr
            exact e
    · obtain rfl : k = n := by omega
      go_wp2
      go_ret
      exact ⟨⟨-1, rfl, isAt_none (by rw [← HN.out]; exact hd.out)⟩, hb⟩

theorem find_nil {w : World} (a2 : Option Addr) (n2 c2 : Nat) (id : Int) :
    Calls Tryz.prog 99 #[.agg #[.slice none 0 0, .slice a2 n2 c2], .int .u64 id] w fun e w' => (∃ i : Int, e = .returned (.int .i64 i) ∧ IsAt [] id i) ∧ Below w.heap.size w w' := by
  have b1 : Below w.heap.size w (w.alloc (.cells #[.slice none 0 0, .slice a2 n2 c2] 61)) := (Below.refl _ w).alloc (Nat.le_refl _) _
  go_enter Tryz.func99, Tryz.ntmps99
  go_wp2
  refine wp_loop_rounds 1 ?_
  rw [rounds_succ]
  go_wp2
  go_ret
  exact ⟨⟨-1, rfl, .inl ⟨rfl, rfl⟩⟩, b1⟩

/-- r15.Find. -/
theorem find_calls {w : World} {v : Value} {l : List (List Int)} (h : LstAt fiveK w v l) (hm : l.length ≤ 1000000) (a2 : Option Addr) (n2 c2 : Nat) (id : Int) :
    Calls Tryz.prog 99 #[.agg #[v, .slice a2 n2 c2], .int .u64 id] w fun e w' => (∃ i : Int, e = .returned (.int .i64 i) ∧ IsAt l id i) ∧ Below w.heap.size w w' := by
  rcases h.shape with ⟨rfl, rfl⟩ | ⟨b, off, cap, rfl, _⟩
  · exact find_nil a2 n2 c2 id
  · exact find_some h hm a2 n2 c2 id

end Go.Proofs.YtbdnlaepeladbaaGreatDoor

namespace Go.Proofs.YtbdnlaepeladbaaGreatDoor
open Go.ChangeShapes Go.WideShapes Go.ChangeAt Go.RowKit Go.Eng

def flatV (cols : List TK) (l : List (List Int)) : List Value := l.flatMap (colVs cols)

theorem info92 : (Tryz.prog.info? 175).map (fun i => (i.zero, i.size, i.bytes)) = some (some (.agg #[.int .u64 0, .int .u64 0, .int .u64 0, .int .u64 0, .int .u64 0]), 5, 40) := by kernel_rfl

theorem flatV_len {cols : List TK} : ∀ {l : List (List Int)}, (∀ row ∈ l, colWfs cols row = true) → (flatV cols l).length = l.length * cols.length
  | [], _ => by simp [flatV]
  | r :: l, h => by
    have ih := flatV_len (cols := cols) (l := l) fun row hr => h row (List.mem_cons_of_mem _ hr)
    have := (colWfs_length (h r (List.mem_cons_self ..))).2
    unfold flatV at ih ⊢
    rw [List.flatMap_cons, List.length_append, ih, this, List.length_cons, Nat.succ_mul]; omega

theorem flatV_get {cols : List TK} : ∀ {l : List (List Int)} {i : Nat} {row : List Int}, (∀ row ∈ l, colWfs cols row = true) → l[i]? = some row → ∀ c, c < cols.length → (flatV cols l)[i * cols.length + c]? = (colVs cols row)[c]?
  | [], i, row, _, h, c, hc => by simp at h
  | r :: l, i, row, hw, h, c, hc => by
    have hl := (colWfs_length (hw r (List.mem_cons_self ..))).2
    unfold flatV
    rw [List.flatMap_cons]
    cases i with
    | zero =>
      simp at h; subst h
      rw [List.getElem?_append_left (by omega)]; simp
    | succ i =>
      simp at h
      have ih := flatV_get (cols := cols) (l := l) (i := i) (fun row hr => hw row (List.mem_cons_of_mem _ hr)) h c hc
      rw [List.getElem?_append_right (by rw [hl, Nat.succ_mul]; omega), hl]
      have : (i + 1) * cols.length + c - cols.length = i * cols.length + c := by rw [Nat.succ_mul]; omega
      rw [this]; exact ih

theorem own_lst {cols : List TK} {w : World} {base n : Nat} {e : TypeId} {v : Value} {l : List (List Int)} (hc : 0 < cols.length) (hw : ∀ row ∈ l, colWfs cols row = true) (h : w.ownsRow base e cols.length v n (flatV cols l)) (hn : n = l.length) : LstAt cols w v l := by
  subst hn
  refine ⟨l, rfl, ?_⟩
  rcases h.2 with ⟨rfl, h0⟩ | ⟨g, cap, cur, rfl, _, hg, hcs, hm, hs, ht⟩
  · exact .inl ⟨rfl, List.length_eq_zero_iff.1 h0⟩
  · refine .inr ⟨g, 0, cap, cur, e, rfl, hcs, by unfold maxLen at hm; omega, hg, by omega, .inr ⟨rfl, trivial⟩, fun i row hi => ⟨hw row (List.mem_of_getElem? hi), fun c hcc => ?_⟩⟩
    have hil := (List.getElem?_eq_some_iff.1 hi).1
    have hlt : i * cols.length + c < l.length * cols.length := by
      have := Nat.mul_le_mul_right cols.length (show i + 1 ≤ l.length by omega)
      rw [Nat.succ_mul] at this; omega
    rw [Nat.zero_add, ← flatV_get hw hi c hcc, ← ht, List.getElem?_take, if_pos hlt, Array.getElem?_toList]

/-- A list in a block of its own. -/
def NewV (w : World) (v : Value) : Prop := ∀ g o n c, v = .slice (some ⟨g, o, none⟩) n c → w.heap.size ≤ g
theorem own_new {w w1 : World} {base e size n : Nat} {v : Value} {xs : List Value} (h : w1.ownsRow base e size v n xs) (hb : w.heap.size ≤ base) : NewV w v := by
  intro g o m c he
  rcases h.2 with ⟨h, _⟩ | ⟨g', cap, cur, h, hg, _⟩
  · rw [h] at he; cases he
  · rw [h] at he
    simp only [Value.slice.injEq, Option.some.injEq, Addr.mk.injEq, and_true] at he
    omega

/-- A list's cells, as what is appended. -/
theorem LstAt.src {cols : List TK} {w : World} {b off n cap : Nat} {l : List (List Int)} (h : LstAt cols w (.slice (some ⟨b, off, none⟩) n cap) l) (hc : 0 < cols.length) : ∀ (j : Nat) (u : Value), (flatV cols l)[j]? = some u → w.cell? ((⟨b, off, none⟩ : Addr).add j) = some u := by
  intro j u hj
  have hw : ∀ row ∈ l, colWfs cols row = true := fun row hr => by
    obtain ⟨k, hk⟩ := List.getElem?_of_mem hr
    exact (h.row hk).1
  have hlt := (List.getElem?_eq_some_iff.1 hj).1
  rw [flatV_len hw] at hlt
  have hkl : j / cols.length < l.length := (Nat.div_lt_iff_lt_mul hc).2 hlt
  have hm : j % cols.length < cols.length := Nat.mod_lt _ hc
  have e1 : j / cols.length * cols.length + j % cols.length = j := by rw [Nat.mul_comm]; exact Nat.div_add_mod j cols.length
  have g1 := flatV_get hw (List.getElem?_eq_getElem hkl) _ hm
  have g2 := (h.row (List.getElem?_eq_getElem hkl)).2 _ hm
  rw [e1, hj] at g1
  rw [Eng.add_plain, ← g1] at *
  rw [Nat.add_assoc, e1] at g2
  exact g2

theorem LstAt.wfs {cols : List TK} {w : World} {v : Value} {l : List (List Int)} (h : LstAt cols w v l) : ∀ row ∈ l, colWfs cols row = true := by
  intro row hr
  obtain ⟨k, hk⟩ := List.getElem?_of_mem hr
  rcases h.shape with ⟨_, rfl⟩ | ⟨b, off, cap, rfl, _⟩
  · simp at hk
  · exact (h.row hk).1

theorem flatV_one {cols : List TK} {l : List (List Int)} (h : ∀ row ∈ l, colWfs cols row = true) : ∀ u ∈ flatV cols l, u.oneCell' = true := by
  intro u hu
  unfold flatV at hu
  obtain ⟨row, hr, hu2⟩ := List.mem_flatMap.1 hu
  have hw := h row hr
  clear hr h hu
  have hu := hu2
  clear hu2
  induction cols generalizing row with
  | nil => cases row <;> simp [colVs] at hu
  | cons q qs ih =>
    cases row with
    | nil => simp [colVs] at hu
    | cons z zs =>
      simp only [colWfs, Bool.and_eq_true] at hw
      simp only [colVs, List.mem_cons] at hu
      rcases hu with rfl | hu
      · cases q <;> simp only [colWf, Bool.false_eq_true, false_and] at hw <;> rfl
      · exact ih zs hw.2 hu

theorem LstAt.block {cols : List TK} {w : World} {b off n cap : Nat} {l : List (List Int)} (h : LstAt cols w (.slice (some ⟨b, off, none⟩) n cap) l) : ∃ cs e, w.heap[b]? = some (.cells cs e (0, 0)) := by
  obtain ⟨l', h0, h⟩ := h
  rcases h with ⟨h, _⟩ | ⟨b', off', cap', cs, e, h1, h2, h3, h4, _⟩
  · cases h
  · simp only [Value.slice.injEq, Option.some.injEq, Addr.mk.injEq, and_true] at h1
    obtain ⟨⟨rfl, rfl⟩, _⟩ := h1
    exact ⟨cs, e, h4⟩

theorem LstAt.off {cols : List TK} {w : World} {b o n cap : Nat} {l : List (List Int)} (h : LstAt cols w (.slice (some ⟨b, o, none⟩) n cap) l) {p : Addr} (hp : p.block ≠ b) (u : Value) : LstAt cols (w.setCell p u) (.slice (some ⟨b, o, none⟩) n cap) l := by
  obtain ⟨l', h0, h⟩ := h
  refine ⟨l', h0, h.imp id ?_⟩
  rintro ⟨b', off', cap', cs, e, h1, h2, h3, h4, h5⟩
  have hb : b' = b := by
    simp only [Value.slice.injEq, Option.some.injEq, Addr.mk.injEq, and_true] at h1
    exact h1.1.1.symm
  exact ⟨b', off', cap', cs, e, h1, h2, h3, by rw [Below.heap_setCell _ _ _ _ (by rw [hb]; exact hp.symm)]; exact h4, h5⟩

theorem five_at {v : World} {g n cap i : Nat} {l : List (List Int)} (h : LstAt fiveK v (.slice (some ⟨g, 0, none⟩) n cap) l) (hi : i < l.length) : ∃ y0 y1 y2 y3 y4 : Int,
    v.cell? ⟨g, i * 5, none⟩ = some (.int .u64 y0) ∧ v.cell? ⟨g, i * 5 + 1, none⟩ = some (.int .u64 y1) ∧ v.cell? ⟨g, i * 5 + 2, none⟩ = some (.int .u64 y2) ∧ v.cell? ⟨g, i * 5 + 3, none⟩ = some (.int .u64 y3) ∧ v.cell? ⟨g, i * 5 + 4, none⟩ = some (.int .u64 y4) ∧ ∀ o, v.frozen? ⟨g, o, none⟩ = false := by
  have hk := List.getElem?_eq_getElem hi
  obtain ⟨y0, y1, y2, y3, y4, e, _⟩ := five_row (h.row hk).1
  rw [e] at hk
  obtain ⟨c0, c1, c2, c3, c4⟩ := h.five hk
  rw [Nat.zero_add] at c0 c1 c2 c3 c4
  obtain ⟨cs, e, hb⟩ := h.block
  exact ⟨y0, y1, y2, y3, y4, c0, c1, c2, c3, c4, fun o => by simp [World.frozen?, hb]⟩

/-- Five cells that are stored. -/
def store5 (v : World) (g o : Nat) (x0 x1 x2 x3 x4 : Int) : World := ((((v.setCell ⟨g, o, none⟩ (.int .u64 x0)).setCell ⟨g, o + 1, none⟩ (.int .u64 x1)).setCell ⟨g, o + 2, none⟩ (.int .u64 x2)).setCell ⟨g, o + 3, none⟩ (.int .u64 x3)).setCell ⟨g, o + 4, none⟩ (.int .u64 x4)

theorem setCell_heap {v : World} {g o : Nat} {cs : Array Value} {e : TypeId} {fz : Nat × Nat} {x : Value} (h : v.heap[g]? = some (.cells cs e fz)) : (v.setCell ⟨g, o, none⟩ x).heap[g]? = some (.cells (cs.setIfInBounds o x) e fz) := by
  rw [setCell_cells h]
  simp [(Array.getElem?_eq_some_iff.1 h).1]

theorem store5_other {v : World} {g o : Nat} {x0 x1 x2 x3 x4 : Int} {c : Nat} (h : c ≠ g) : (store5 v g o x0 x1 x2 x3 x4).heap[c]? = v.heap[c]? := by
  unfold store5
  rw [Below.heap_setCell _ _ _ _ h, Below.heap_setCell _ _ _ _ h, Below.heap_setCell _ _ _ _ h, Below.heap_setCell _ _ _ _ h, Below.heap_setCell _ _ _ _ h]

theorem store5_lst {v : World} {g n cap i : Nat} {l : List (List Int)} (h : LstAt fiveK v (.slice (some ⟨g, 0, none⟩) n cap) l) (hi : i < l.length) {x0 x1 x2 x3 x4 : Int} (hx : colWfs fiveK [x0, x1, x2, x3, x4] = true) :
    LstAt fiveK (store5 v g (i * 5) x0 x1 x2 x3 x4) (.slice (some ⟨g, 0, none⟩) n cap) (l.set i [x0, x1, x2, x3, x4]) := by
  obtain ⟨l', h0, h⟩ := h
  simp only [List.cons.injEq, U.rows.injEq, and_true] at h0
  subst h0
  rcases h with ⟨h, _⟩ | ⟨b', off', cap', cs, e, h1, h2, h3, h4, h5, h6, h7⟩
  · cases h
  · simp only [Value.slice.injEq, Option.some.injEq, Addr.mk.injEq, and_true] at h1
    obtain ⟨⟨rfl, rfl⟩, rfl, rfl⟩ := h1
    refine ⟨_, rfl, .inr ⟨g, 0, cap, ((((cs.setIfInBounds (i * 5) (.int .u64 x0)).setIfInBounds (i * 5 + 1) (.int .u64 x1)).setIfInBounds (i * 5 + 2) (.int .u64 x2)).setIfInBounds (i * 5 + 3) (.int .u64 x3)).setIfInBounds (i * 5 + 4) (.int .u64 x4), e, by rw [List.length_set], by rw [List.length_set]; exact h2, h3, ?_, by simpa using h5, h6, fun k row hk => ?_⟩⟩
    · have hb := (Array.getElem?_eq_some_iff.1 h4).1
      unfold store5
      have s0 := setCell_heap h4 (o := i * 5) (x := .int .u64 x0)
      have s1 := setCell_heap s0 (o := i * 5 + 1) (x := .int .u64 x1)
      have s2 := setCell_heap s1 (o := i * 5 + 2) (x := .int .u64 x2)
      have s3 := setCell_heap s2 (o := i * 5 + 3) (x := .int .u64 x3)
      exact setCell_heap s3 (o := i * 5 + 4) (x := .int .u64 x4)
    · rw [List.getElem?_set] at hk
      have hlen : cap * 5 ≤ cs.size := by simpa [fiveK] using h5
      split at hk
      · rename_i hik
        subst hik
        obtain rfl : [x0, x1, x2, x3, x4] = row := by simpa [hi] using hk
        refine ⟨hx, fun c hc => ?_⟩
        have hc5 : c < 5 := hc
        have e5 : fiveK.length = 5 := rfl
        have hbig : i * 5 + 4 < cs.size := by omega
        simp only [e5, Nat.zero_add]
        have hcc : c = 0 ∨ c = 1 ∨ c = 2 ∨ c = 3 ∨ c = 4 := by omega
        rcases hcc with rfl | rfl | rfl | rfl | rfl
        · rw [Array.getElem?_setIfInBounds_ne (by omega), Array.getElem?_setIfInBounds_ne (by omega), Array.getElem?_setIfInBounds_ne (by omega), Array.getElem?_setIfInBounds_ne (by omega), Array.getElem?_setIfInBounds, if_pos (by omega), if_pos (by omega)]; rfl
        · rw [Array.getElem?_setIfInBounds_ne (by omega), Array.getElem?_setIfInBounds_ne (by omega), Array.getElem?_setIfInBounds_ne (by omega), Array.getElem?_setIfInBounds, if_pos rfl, if_pos (by simp; omega)]; rfl
        · rw [Array.getElem?_setIfInBounds_ne (by omega), Array.getElem?_setIfInBounds_ne (by omega), Array.getElem?_setIfInBounds, if_pos rfl, if_pos (by simp; omega)]; rfl
        · rw [Array.getElem?_setIfInBounds_ne (by omega), Array.getElem?_setIfInBounds, if_pos rfl, if_pos (by simp; omega)]; rfl
        · rw [Array.getElem?_setIfInBounds, if_pos rfl, if_pos (by simp; omega)]; rfl
      · rename_i hik
        obtain ⟨g1, g2⟩ := h7 k row hk
        refine ⟨g1, fun c hc => ?_⟩
        rw [← g2 c hc]
        have hc5 : c < 5 := hc
        have e5 : fiveK.length = 5 := rfl
        simp only [e5, Nat.zero_add]
        rw [Array.getElem?_setIfInBounds_ne (by omega), Array.getElem?_setIfInBounds_ne (by omega), Array.getElem?_setIfInBounds_ne (by omega), Array.getElem?_setIfInBounds_ne (by omega), Array.getElem?_setIfInBounds_ne (by omega)]

set_option maxHeartbeats 2000000 in
set_option maxRecDepth 1000000 in
theorem with15_some {w : World} {b off cap : Nat} {l : List (List Int)} (h : LstAt fiveK w (.slice (some ⟨b, off, none⟩) l.length cap) l) (hm : l.length ≤ 100000) (a2 : Option Addr) (n2 c2 : Nat) (i : Nat) (hi : i < l.length) (x0 x1 x2 x3 x4 : Int) (hx : colWfs fiveK [x0, x1, x2, x3, x4] = true) :
    Calls Tryz.prog 101 #[.agg #[.slice (some ⟨b, off, none⟩) l.length cap, .slice a2 n2 c2], .int .i64 i, .agg #[.int .u64 x0, .int .u64 x1, .int .u64 x2, .int .u64 x3, .int .u64 x4]] w fun e w' => ∃ v', e = .returned (.agg #[v', .slice a2 n2 c2]) ∧ LstAt fiveK w' v' (l.set i [x0, x1, x2, x3, x4]) ∧ NewV w v' ∧ Below w.heap.size w w' := by
  obtain ⟨i0, hi0, hz0, hz1, hz2⟩ := info_parts info92
  have C : Aside (∀ {v : World}, Below w.heap.size w v → LstAt fiveK v (.slice (some ⟨b, off, none⟩) l.length cap) l) := fun hb => h.below hb
  have W5 := aside_of h.wfs
  have hlen := flatV_len h.wfs
  have hone := aside_of (flatV_one h.wfs)
  obtain ⟨n, hn⟩ : ∃ n, n = l.length := ⟨_, rfl⟩
  have HN : Aside (n = l.length ∧ (flatV fiveK l).length = n * 5) := ⟨hn, by rw [hlen, hn]; rfl⟩
  rw [← hn] at hm hi ⊢
  clear h hn hlen
  obtain ⟨w3, hw3⟩ : ∃ w3, w3 = ((w.alloc (.cells #[.slice (some ⟨b, off, none⟩) n cap, .slice a2 n2 c2] 61)).alloc (.cells #[.int .u64 x0, .int .u64 x1, .int .u64 x2, .int .u64 x3, .int .u64 x4] 175)).alloc (.cells #[.slice none 0 0, .slice none 0 0] 61) := ⟨_, rfl⟩
  have b3 : Below w.heap.size w w3 := by rw [hw3]; exact (((Below.refl _ w).alloc (Nat.le_refl _) _).alloc (by simp) _).alloc (by simp; omega) _
  have s3 : w3.heap.size = w.heap.size + 3 := by rw [hw3]; simp
  have r0 : w3.heap[w.heap.size]? = some (.cells #[.slice (some ⟨b, off, none⟩) n cap, .slice a2 n2 c2] 61 (0, 0)) := by
    rw [hw3, Below.heap_alloc _ _ _ (by simp; omega), Below.heap_alloc _ _ _ (by simp)]; exact (Go.MapKept.heap_alloc w _).1
  have r1 : w3.heap[w.heap.size + 1]? = some (.cells #[.int .u64 x0, .int .u64 x1, .int .u64 x2, .int .u64 x3, .int .u64 x4] 175 (0, 0)) := by
    have e := (Go.MapKept.heap_alloc (w.alloc (.cells #[.slice (some ⟨b, off, none⟩) n cap, .slice a2 n2 c2] 61)) (.cells #[.int .u64 x0, .int .u64 x1, .int .u64 x2, .int .u64 x3, .int .u64 x4] 175)).1
    have hs : (w.alloc (.cells #[.slice (some ⟨b, off, none⟩) n cap, .slice a2 n2 c2] 61)).heap.size = w.heap.size + 1 := by simp
    rw [hs] at e
    rw [hw3, Below.heap_alloc _ _ _ (by simp)]; exact e
  have r2 : w3.heap[w.heap.size + 2]? = some (.cells #[.slice none 0 0, .slice none 0 0] 61 (0, 0)) := by
    have e := (Go.MapKept.heap_alloc ((w.alloc (.cells #[.slice (some ⟨b, off, none⟩) n cap, .slice a2 n2 c2] 61)).alloc (.cells #[.int .u64 x0, .int .u64 x1, .int .u64 x2, .int .u64 x3, .int .u64 x4] 175)) (.cells #[.slice none 0 0, .slice none 0 0] 61)).1
    have hs : ((w.alloc (.cells #[.slice (some ⟨b, off, none⟩) n cap, .slice a2 n2 c2] 61)).alloc (.cells #[.int .u64 x0, .int .u64 x1, .int .u64 x2, .int .u64 x3, .int .u64 x4] 175)).heap.size = w.heap.size + 2 := by simp
    rw [hs] at e
    rw [hw3]; exact e
  have hsrc := (C.out b3).src (by decide)
  have hil : Aside (i < l.length) := by rw [← HN.out.1]; exact hi
  have K : Aside (∀ {v : World} {v' : Value}, v.ownsRow w3.heap.size 175 5 v' (0 + n) ([] ++ flatV fiveK l) → w3.grownBy v none → ∃ g4 cap4, v' = .slice (some ⟨g4, 0, none⟩) n cap4 ∧ w3.heap.size ≤ g4 ∧ Below w3.heap.size w3 v ∧ Aside (LstAt fiveK v (.slice (some ⟨g4, 0, none⟩) n cap4) l) ∧ Aside (v.heap[w.heap.size]? = some (.cells #[.slice (some ⟨b, off, none⟩) n cap, .slice a2 n2 c2] 61 (0, 0)) ∧ v.heap[w.heap.size + 1]? = some (.cells #[.int .u64 x0, .int .u64 x1, .int .u64 x2, .int .u64 x3, .int .u64 x4] 175 (0, 0)) ∧ v.heap[w.heap.size + 2]? = some (.cells #[.slice none 0 0, .slice none 0 0] 61 (0, 0)))) := by
    intro v v' hown hgrow
    rw [Nat.zero_add, List.nil_append] at hown
    obtain ⟨g4, cap4, rfl⟩ := own_shape hown (by omega)
    have hl4 := own_lst (cols := fiveK) (by decide) W5.out hown HN.out.1
    refine ⟨g4, cap4, rfl, own_new (w := w3) hown (Nat.le_refl _) _ _ _ _ rfl, (Below.refl _ w3).grown hgrow (Nat.le_refl _) (by intro k hk; cases hk), hl4, ?_⟩
    have b5 := (Below.refl _ w3).grown hgrow (Nat.le_refl _) (by intro k hk; cases hk)
    exact ⟨(b5.block _ (by omega)).trans r0, (b5.block _ (by omega)).trans r1, (b5.block _ (by omega)).trans r2⟩
  have HF := HN.out.2
  have HO := hone.out
  clear hone
  rw [hw3] at hsrc K
  have H3 : Aside (w3.heap[w.heap.size]? = some (.cells #[.slice (some ⟨b, off, none⟩) n cap, .slice a2 n2 c2] 61 (0, 0)) ∧ w3.heap[w.heap.size + 1]? = some (.cells #[.int .u64 x0, .int .u64 x1, .int .u64 x2, .int .u64 x3, .int .u64 x4] 175 (0, 0)) ∧ w3.heap[w.heap.size + 2]? = some (.cells #[.slice none 0 0, .slice none 0 0] 61 (0, 0)) ∧ Below w.heap.size w w3) := ⟨r0, r1, r2, b3⟩
  clear r0 r1 r2 b3
  rw [hw3] at s3 H3
  clear hw3
  go_enter Tryz.func101, Tryz.ntmps101
  go_upto_region 4 with (at_builtin; refine wpList_append_grows _ rfl (.tmp 8) (.tmp 10) 59 rfl 175 i0 (.agg #[.int .u64 0, .int .u64 0, .int .u64 0, .int .u64 0, .int .u64 0]) 5 40 Tryz.underlying59 hi0 hz0 hz1 hz2 rfl (by decide) none 0 0 [] rfl (fun _ => ⟨rfl, rfl⟩) rfl (by intro _ h; cases h) ⟨b, off, none⟩ n cap (flatV fiveK l) rfl HF hsrc HO (by omega) (by unfold maxLen; omega) (by omega) ?_; intro v' w4 hown hgrow; obtain ⟨g4, cap4, rfl, hg4, b4, l4, q4⟩ := K.out hown hgrow; clear hown hgrow; obtain ⟨m0, m1, m2, m3, m4, f0, f1, f2, f3, f4⟩ := five_cells q4.out.2.1; obtain ⟨y0, y1, y2, y3, y4, k0, k1, k2, k3, k4, kf⟩ := five_at l4.out hil.out; have kf0 := kf (i * 5); have kf1 := kf (i * 5 + 1); have kf2 := kf (i * 5 + 2); have kf3 := kf (i * 5 + 3); have kf4 := kf (i * 5 + 4))
  obtain ⟨w5, hw5⟩ : ∃ w5, w5 = store5 w4 g4 (i * 5) x0 x1 x2 x3 x4 := ⟨_, rfl⟩
  change Code.wp _ _ _ _ (store5 w4 g4 (i * 5) x0 x1 x2 x3 x4)
  have l5 : LstAt fiveK w5 (.slice (some ⟨g4, 0, none⟩) n cap4) (l.set i [x0, x1, x2, x3, x4]) := by rw [hw5]; exact store5_lst l4.out hil.out hx
  have hs3 := s3
  have hsz : w.heap.size + 3 ≤ g4 := by omega
  have r5 : w5.heap[w.heap.size]? = some (.cells #[.slice (some ⟨b, off, none⟩) n cap, .slice a2 n2 c2] 61 (0, 0)) := by rw [hw5, store5_other (by omega)]; exact q4.out.1
  have r6 : w5.heap[w.heap.size + 2]? = some (.cells #[.slice none 0 0, .slice none 0 0] 61 (0, 0)) := by rw [hw5, store5_other (by omega)]; exact q4.out.2.2
  have b5 : Below w.heap.size w w5 := by
    rw [hw5]
    have := H3.out.2.2.2.trans (b4.mono H3.out.2.2.2.size)
    unfold store5
    exact ((((this.setCell (by show w.heap.size ≤ g4; omega) _).setCell (by show w.heap.size ≤ g4; omega) _).setCell (by show w.heap.size ≤ g4; omega) _).setCell (by show w.heap.size ≤ g4; omega) _).setCell (by show w.heap.size ≤ g4; omega) _
  rw [← hw5]
  clear hw5 k0 k1 k2 k3 k4 kf kf0 kf1 kf2 kf3 kf4 m0 m1 m2 m3 m4 f0 f1 f2 f3 f4 q4 l4 b4 H3 K hsrc s3 hs3 HO HF hil
  have d0 : w5.cell? ⟨w.heap.size, 0, none⟩ = some (.slice (some ⟨b, off, none⟩) n cap) := by simp [World.cell?, r5]
  have d1 : w5.cell? ⟨w.heap.size, 1, none⟩ = some (.slice a2 n2 c2) := by simp [World.cell?, r5]
  have z0 : w5.frozen? ⟨w.heap.size, 0, none⟩ = false := by simp [World.frozen?, r5]
  have d2 : w5.cell? ⟨w.heap.size + 1 + 1, 0, none⟩ = some (.slice none 0 0) := by simp [World.cell?, r6]
  have d3 : w5.cell? ⟨w.heap.size + 1 + 1, 1, none⟩ = some (.slice none 0 0) := by simp [World.cell?, r6]
  have z2 : w5.frozen? ⟨w.heap.size + 1 + 1, 0, none⟩ = false := by simp [World.frozen?, r6]
  have z3 : w5.frozen? ⟨w.heap.size + 1 + 1, 1, none⟩ = false := by simp [World.frozen?, r6]
  have L5 := aside_of l5
  clear l5 r5 r6
  go_wp2
  refine bodyPost_ret (v := .agg #[.slice (some ⟨g4, 0, none⟩) n cap4, .slice a2 n2 c2]) (by simp [results, Tryz.results101, go_sem, d0, d1, d2, d3, z0, z2, z3]) rfl ⟨_, rfl, ?_, fun g o m c e => ?_, ?_⟩
  · exact ((L5.out.off (by show w.heap.size ≠ g4; omega) _).off (by show w.heap.size + 1 + 1 ≠ g4; omega) _).off (by show w.heap.size + 1 + 1 ≠ g4; omega) _
  · simp only [Value.slice.injEq, Option.some.injEq, Addr.mk.injEq, and_true] at e
    omega
  · exact ((b5.setCell (Nat.le_refl _) _).setCell (by show w.heap.size ≤ w.heap.size + 1 + 1; omega) _).setCell (by show w.heap.size ≤ w.heap.size + 1 + 1; omega) _

end Go.Proofs.YtbdnlaepeladbaaGreatDoor

namespace Go.Proofs.YtbdnlaepeladbaaGreatDoor
open Go.ChangeShapes Go.WideShapes Go.ChangeAt Go.RowKit Go.Eng

theorem rof_calls (s v : Nat) (hs : s < 4) (w : World) : Calls Tryz.prog 107 #[.int .i64 s, .int .u64 v] w fun e w' => e = .returned (.int .u64 (ofN s v : Nat)) ∧ w' = w := by
  have h0 : ¬ ((s : Int) % 4 < 0) := by omega
  have h1 : ((s : Int).tmod 4) = s := Int.tmod_eq_of_lt (by omega) (by omega)
  have h2 : IntKind.u64.wrap (s : Int) = (s : Int) := by simp [IntKind.wrap, IntKind.bits, IntKind.signed]; omega
  have h3 : ofN s v = 4 * (v % 4611686018427387904) + s := by unfold ofN; omega
  rw [h3]
  go_enter Tryz.func107, Tryz.ntmps107
  go_wp2
  go_ret
  refine ⟨?_, rfl⟩
  congr 2

theorem rmay_calls (f t : Int) (w : World) : Calls Tryz.prog 209 #[.int .i64 f, .int .i64 t] w fun e w' => e = .returned (.bool (mayB f t)) ∧ w' = w := by
  have hf : f = 0 ∨ f = 1 ∨ f = 2 ∨ ((f == 0) = false ∧ (f == 1) = false ∧ (f == 2) = false) := by
    simp only [beq_eq_false_iff_ne]; omega
  have ht : t = 0 ∨ t = 1 ∨ t = 2 ∨ t = 3 ∨ ((t == 0) = false ∧ (t == 1) = false ∧ (t == 2) = false ∧ (t == 3) = false) := by
    simp only [beq_eq_false_iff_ne]; omega
  rcases hf with rfl | rfl | rfl | ⟨f0, f1, f2⟩ <;> rcases ht with rfl | rfl | rfl | rfl | ⟨t0, t1, t2, t3⟩
  all_goals
    go_enter Tryz.func209, Tryz.ntmps209
    go_wp2
    go_ret
    exact ⟨by simp [mayB, *], rfl⟩

theorem rto_calls (n : Nat) (hn : n < 18446744073709551616) (st : Int) (w : World) :
    Calls Tryz.prog 171 #[.int .u64 n, .int .i64 st] w fun e w' => e = .returned (.tuple #[.int .u64 ((if mayB ((n : Int) % 4) st then toN n st else n : Nat) : Int), .bool (mayB ((n : Int) % 4) st)]) ∧ w' = w := by
  have c2 := fun w => rmay_calls ((n : Int) % 4) st w
  have hu : IntKind.u64.wrap ((n : Int) / 4 + 1) = (n : Int) / 4 + 1 := by simp [IntKind.wrap, IntKind.bits, IntKind.signed]; omega
  have h4 : ¬ ((n : Int) % 4 < 0) := by omega
  cases hm : mayB ((n : Int) % 4) st with
  | false =>
    rw [hm] at c2
    simp only [Bool.false_eq_true, if_false]
    go_enter Tryz.func171, Tryz.ntmps171
    go_wp2_with (go_at_call 209; with_reducible refine (c2 _).mono ?_; rintro e w' ⟨rfl, rfl⟩)
    go_ret2
    exact ⟨rfl, rfl⟩
  | true =>
    rw [hm] at c2
    obtain ⟨h0, h4'⟩ := may_range hm
    obtain ⟨s, rfl⟩ : ∃ s : Nat, st = s := ⟨st.toNat, by omega⟩
    have c3 := fun w => rof_calls s (n / 4 + 1) (by omega) w
    rw [show (((n / 4 + 1 : Nat)) : Int) = (n : Int) / 4 + 1 by omega] at c3
    have ht : toN n s = ofN s (n / 4 + 1) := by unfold toN; rw [Int.toNat_natCast]
    simp only [if_true, ht]
    go_enter Tryz.func171, Tryz.ntmps171
    go_wp2_with (first | (go_at_call 209; with_reducible refine (c2 _).mono ?_; rintro e w' ⟨rfl, rfl⟩) | (go_at_call 107; with_reducible refine (c3 _).mono ?_; rintro e w' ⟨rfl, rfl⟩))
    go_ret2
    exact ⟨rfl, rfl⟩

/-- r2.Swap. -/
theorem rswap_calls (x n : Nat) (hn : n < 18446744073709551616) (st : Int) (w : World) :
    Calls Tryz.prog 100 #[.int .u64 x, .int .u64 n, .int .i64 st] w fun e w' => e = .returned (.tuple #[.int .u64 ((if mayB ((n : Int) % 4) st && decide (x = n) then toN n st else x : Nat) : Int), .bool (mayB ((n : Int) % 4) st && decide (x = n))]) ∧ w' = w := by
  have c2 := fun w => rto_calls n hn st w
  cases hm : mayB ((n : Int) % 4) st with
  | false =>
    rw [hm] at c2
    simp only [Bool.false_and, Bool.false_eq_true, if_false] at c2 ⊢
    by_cases e : x = n
    · subst e
      go_enter Tryz.func100, Tryz.ntmps100
      go_wp2_with (go_at_call 171; with_reducible refine (c2 _).mono ?_; rintro e w' ⟨rfl, rfl⟩)
      go_ret2
      exact ⟨rfl, rfl⟩
    · have e' : ((x : Int) == (n : Int)) = false := by simpa using fun h : (x : Int) = n => e (by omega)
      go_enter Tryz.func100, Tryz.ntmps100
      go_wp2_with (go_at_call 171; with_reducible refine (c2 _).mono ?_; rintro e w' ⟨rfl, rfl⟩)
      go_ret2
      exact ⟨rfl, rfl⟩
  | true =>
    rw [hm] at c2
    simp only [Bool.true_and, if_true] at c2 ⊢
    by_cases e : x = n
    · subst e
      simp only [decide_true, if_true]
      go_enter Tryz.func100, Tryz.ntmps100
      go_wp2_with (go_at_call 171; with_reducible refine (c2 _).mono ?_; rintro e w' ⟨rfl, rfl⟩)
      go_ret2
      exact ⟨rfl, rfl⟩
    · have e' : ((x : Int) == (n : Int)) = false := by simpa using fun h : (x : Int) = n => e (by omega)
      simp only [e, decide_false, Bool.false_eq_true, if_false]
      go_enter Tryz.func100, Tryz.ntmps100
      go_wp2_with (go_at_call 171; with_reducible refine (c2 _).mono ?_; rintro e w' ⟨rfl, rfl⟩)
      go_ret2
      exact ⟨rfl, rfl⟩

end Go.Proofs.YtbdnlaepeladbaaGreatDoor

namespace Go.Proofs.YtbdnlaepeladbaaGreatDoor
open Go.ChangeShapes Go.WideShapes Go.ChangeAt Go.RowKit Go.Eng

theorem bag2 {v : World} {Z : Nat} {a0 a1 : Value} {t : TypeId} (r : v.heap[Z]? = some (.cells #[a0, a1] t (0, 0))) :
    v.cell? ⟨Z, 0, none⟩ = some a0 ∧ v.cell? ⟨Z, 1, none⟩ = some a1 ∧ v.frozen? ⟨Z, 0, none⟩ = false ∧ v.frozen? ⟨Z, 1, none⟩ = false := by
  simp [World.cell?, World.frozen?, r]

/-- Two blocks ahead of a call: the argument's, and the result's. -/
theorem two_bags (w : World) (A B : Value) (Z0 Z1 : Value) : ∀ v : World, Below ((w.alloc (.cells #[A, B] 61)).alloc (.cells #[Z0, Z1] 61)).heap.size ((w.alloc (.cells #[A, B] 61)).alloc (.cells #[Z0, Z1] 61)) v → v.heap[w.heap.size]? = some (.cells #[A, B] 61 (0, 0)) ∧ v.heap[w.heap.size + 1]? = some (.cells #[Z0, Z1] 61 (0, 0)) ∧ Below w.heap.size w v := by
  intro v hv
  have b1 : Below w.heap.size w ((w.alloc (.cells #[A, B] 61)).alloc (.cells #[Z0, Z1] 61)) := ((Below.refl _ w).alloc (Nat.le_refl _) _).alloc (by simp) _
  have e0 : ((w.alloc (.cells #[A, B] 61)).alloc (.cells #[Z0, Z1] 61)).heap[w.heap.size]? = some (.cells #[A, B] 61 (0, 0)) := by
    rw [Below.heap_alloc _ _ _ (by simp)]; exact (Go.MapKept.heap_alloc w _).1
  have e1 : ((w.alloc (.cells #[A, B] 61)).alloc (.cells #[Z0, Z1] 61)).heap[w.heap.size + 1]? = some (.cells #[Z0, Z1] 61 (0, 0)) := by
    have e := (Go.MapKept.heap_alloc (w.alloc (.cells #[A, B] 61)) (.cells #[Z0, Z1] 61)).1
    have hs : (w.alloc (.cells #[A, B] 61)).heap.size = w.heap.size + 1 := by simp
    rw [hs] at e
    exact e
  exact ⟨(hv.block _ (by simp; omega)).trans e0, (hv.block _ (by simp)).trans e1, b1.trans (hv.mono b1.size)⟩

set_option maxHeartbeats 1000000 in
set_option maxRecDepth 1000000 in
theorem rproved_no {w : World} {a1 : Option Addr} {n1 c1 : Nat} {l : List (List Int)} (h : LstAt fiveK w (.slice a1 n1 c1) l) (hm : l.length ≤ 100000) (a2 : Option Addr) (n2 c2 : Nat) (id now : Int) (hi : ∀ i, IsAt l id i → i = -1) :
    Calls Tryz.prog 37 #[.agg #[.slice a1 n1 c1, .slice a2 n2 c2], .int .u64 id, .int .u64 now] w fun e w' => e = .returned (.tuple #[.agg #[.slice a1 n1 c1, .slice a2 n2 c2], .int .i64 9]) ∧ Below w.heap.size w w' := by
  have b1 : Below w.heap.size w ((w.alloc (.cells #[.slice a1 n1 c1, .slice a2 n2 c2] 61)).alloc (.cells #[.slice none 0 0, .slice none 0 0] 61)) := ((Below.refl _ w).alloc (Nat.le_refl _) _).alloc (by simp) _
  have hf := (find_calls (h.below b1) (by omega) a2 n2 c2 id).mono fun e w' (he : (∃ i : Int, e = .returned (.int .i64 i) ∧ IsAt l id i) ∧ _) => show e = .returned (.int .i64 (-1)) ∧ _ from ⟨by obtain ⟨⟨i, h1, h2⟩, _⟩ := he; rw [h1, hi i h2], he.2⟩
  have H1 := aside_of (two_bags w (.slice a1 n1 c1) (.slice a2 n2 c2) (.slice none 0 0) (.slice none 0 0))
  clear h b1 hi hm
  go_enter Tryz.func37, Tryz.ntmps37
  go_wp2_with (go_at_call 99; with_reducible refine hf.mono ?_; rintro e w2 ⟨rfl, b2⟩; obtain ⟨q0, q1, q2⟩ := H1.out _ b2; obtain ⟨k0, k1, f0, f1⟩ := bag2 q0; obtain ⟨d0, d1, g0, g1⟩ := bag2 q1)
  refine bodyPost_ret (v := .tuple #[.agg #[.slice a1 n1 c1, .slice a2 n2 c2], .int .i64 9]) (by simp [results, Tryz.results37, go_sem, k0, k1, d0, d1, f0, f1, g0, g1]) rfl ⟨rfl, ?_⟩
  exact (q2.setCell (by simp) _).setCell (by simp) _

theorem NewV.mono {w w1 : World} {v : Value} (h : NewV w1 v) (hs : w.heap.size ≤ w1.heap.size) : NewV w v := fun g o n c e => Nat.le_trans hs (h g o n c e)

set_option maxHeartbeats 1000000 in
set_option maxRecDepth 1000000 in
theorem rproved_yes {w : World} {b off cap : Nat} {l : List (List Int)} (h : LstAt fiveK w (.slice (some ⟨b, off, none⟩) l.length cap) l) (hm : l.length ≤ 100000) (a2 : Option Addr) (n2 c2 : Nat) (id now : Int) (hnow : (Lit.int .u64 now).wf = true)
    {k : Nat} {x bo si pr : Int} (hk : l[k]? = some [id, x, bo, si, pr]) (hi : ∀ i, IsAt l id i → i = k) :
    Calls Tryz.prog 37 #[.agg #[.slice (some ⟨b, off, none⟩) l.length cap, .slice a2 n2 c2], .int .u64 id, .int .u64 now] w fun e w' => ∃ v', e = .returned (.tuple #[.agg #[v', .slice a2 n2 c2], .int .i64 0]) ∧ LstAt fiveK w' v' (l.set k [id, x, bo, si, now]) ∧ NewV w v' ∧ Below w.heap.size w w' := by
  have hkl := (List.getElem?_eq_some_iff.1 hk).1
  have hrow := (h.row hk).1
  have hx : colWfs fiveK [id, x, bo, si, now] = true := by
    simp only [fiveK, colWfs, colWf, Bool.and_eq_true] at hrow ⊢
    exact ⟨hrow.1, hrow.2.1, hrow.2.2.1, hrow.2.2.2.1, hnow, trivial⟩
  have b1 : Below w.heap.size w ((w.alloc (.cells #[.slice (some ⟨b, off, none⟩) l.length cap, .slice a2 n2 c2] 61)).alloc (.cells #[.slice none 0 0, .slice none 0 0] 61)) := ((Below.refl _ w).alloc (Nat.le_refl _) _).alloc (by simp) _
  have hf := (find_calls (h.below b1) (by omega) a2 n2 c2 id).mono fun e w' (he : (∃ i : Int, e = .returned (.int .i64 i) ∧ IsAt l id i) ∧ _) => show e = .returned (.int .i64 (k : Int)) ∧ _ from ⟨by obtain ⟨⟨i, h1, h2⟩, _⟩ := he; rw [h1, hi i h2], he.2⟩
  have W : Aside (∀ v : World, Below w.heap.size w v → Calls Tryz.prog 101 #[.agg #[.slice (some ⟨b, off, none⟩) l.length cap, .slice a2 n2 c2], .int .i64 k, .agg #[.int .u64 id, .int .u64 x, .int .u64 bo, .int .u64 si, .int .u64 now]] v fun e w' => ∃ a' n' c', e = .returned (.agg #[.slice a' n' c', .slice a2 n2 c2]) ∧ Aside (LstAt fiveK w' (.slice a' n' c') (l.set k [id, x, bo, si, now]) ∧ NewV v (.slice a' n' c')) ∧ Below v.heap.size v w') := fun v hv => by
    refine (with15_some (h.below hv) hm a2 n2 c2 k hkl id x bo si now hx).mono ?_
    rintro e w' ⟨v', rfl, g1, g2, g3⟩
    rcases g1.shape with ⟨rfl, _⟩ | ⟨b', o', c', rfl, _⟩
    · exact ⟨_, _, _, rfl, ⟨g1, g2⟩, g3⟩
    · exact ⟨_, _, _, rfl, ⟨g1, g2⟩, g3⟩
  have C : Aside (∀ v : World, Below w.heap.size w v → v.cell? ⟨b, off + k * 5, none⟩ = some (.int .u64 id) ∧ v.cell? ⟨b, off + k * 5 + 1, none⟩ = some (.int .u64 x) ∧ v.cell? ⟨b, off + k * 5 + 2, none⟩ = some (.int .u64 bo) ∧ v.cell? ⟨b, off + k * 5 + 3, none⟩ = some (.int .u64 si) ∧ v.cell? ⟨b, off + k * 5 + 4, none⟩ = some (.int .u64 pr)) := fun v hv => (h.below hv).five hk
  have H1 := aside_of (two_bags w (.slice (some ⟨b, off, none⟩) l.length cap) (.slice a2 n2 c2) (.slice none 0 0) (.slice none 0 0))
  obtain ⟨n, hn⟩ : ∃ n, n = l.length := ⟨_, rfl⟩
  have hkn : (k : Int) < (n : Int) := by omega
  rw [← hn] at hf W H1 ⊢
  have h0 : ¬ (k : Int) < 0 := by omega
  clear h b1 hi hm hrow hk hkl hn
  go_enter Tryz.func37, Tryz.ntmps37
  go_wp2_with (first
    | (go_at_call 99; with_reducible refine hf.mono ?_; rintro e w2 ⟨rfl, b2⟩; obtain ⟨q0, q1, q2⟩ := H1.out _ b2; obtain ⟨k0, k1, f0, f1⟩ := bag2 q0; obtain ⟨d0, d1, g0, g1⟩ := bag2 q1; obtain ⟨x0, x1, x2, x3, x4⟩ := C.out _ q2; have b2a := b2.alloc b2.size (.cells #[.int .u64 id, .int .u64 x, .int .u64 bo, .int .u64 si, .int .u64 now] 175); obtain ⟨p0, p1, p2⟩ := H1.out _ b2a; obtain ⟨m0, m1, _, _⟩ := bag2 p0)
    | (go_at_call 101; with_reducible refine (W.out _ (q2.alloc q2.size _)).mono ?_; rintro e w3 ⟨a', n', c', rfl, G, b3⟩; obtain ⟨r0, r1, r2⟩ := H1.out _ (b2a.trans (b3.mono b2a.size)); obtain ⟨y0, y1, z0, z1⟩ := bag2 r1))
  obtain ⟨G1, G2⟩ := G.out
  have hsz : w.heap.size + 2 ≤ w2.heap.size := by have := b2.size; simp at this; omega
  have hnb : ∀ g o m c, Value.slice a' n' c' = .slice (some ⟨g, o, none⟩) m c → w.heap.size + 2 ≤ g := fun g o m c e => by
    have := G2 g o m c e
    simp at this; omega
  have off : ∀ {v : World} (p : Addr) (u : Value), p.block = w.heap.size + 1 → LstAt fiveK v (.slice a' n' c') (l.set k [id, x, bo, si, now]) → LstAt fiveK (v.setCell p u) (.slice a' n' c') (l.set k [id, x, bo, si, now]) := by
    intro v p u hp hv
    rcases hv.shape with ⟨e1, e2⟩ | ⟨b', o', cap', e, _⟩
    · rw [e1, e2]; exact ⟨[], rfl, .inl ⟨rfl, rfl⟩⟩
    · have := hnb _ _ _ _ e
      rw [e] at hv ⊢
      exact hv.off (by rw [hp]; omega) u
  refine bodyPost_ret (v := .tuple #[.agg #[.slice a' n' c', .slice a2 n2 c2], .int .i64 0]) (by simp [results, Tryz.results37, go_sem, y0, y1, z0, z1]) rfl ⟨_, rfl, off _ _ rfl (off _ _ rfl G1), fun g o m c e => by have := hnb g o m c e; omega, ?_⟩
  exact (r2.setCell (by simp) _).setCell (by simp) _

end Go.Proofs.YtbdnlaepeladbaaGreatDoor

namespace Go.Proofs.YtbdnlaepeladbaaGreatDoor
open Go.ChangeShapes Go.WideShapes Go.ChangeAt Go.RowKit Go.Eng

variable {K : Fix}

def blkOf (v : Value) (c : Nat) : Prop := ∃ o n cc, v = .slice (some ⟨c, o, none⟩) n cc

theorem LstAt.list {cols : List TK} {w : World} {v : Value} {l : List (List Int)} (h : LstAt cols w v l) : ListR cols false v [.rows l] w (fun _ => False) (blkOf v) := by
  obtain ⟨l', h0, h⟩ := h
  refine ⟨l', h0, h.imp id ?_⟩
  rintro ⟨b, off, cap, cs, e, h1, h2, h3, h4, h5, h6, h7⟩
  exact ⟨b, off, cap, cs, e, h1, h2, h3, h4, h5, .inr ⟨rfl, off, _, cap, h1⟩, h7⟩

theorem blk_ro {cols : List TK} {w : World} {v : Value} {us : List U} {D R RO : Nat → Prop} (h : ListR cols false v us w D R) (hR : ∀ c, R c → RO c) : ∀ c, blkOf v c → RO c := by
  rintro c ⟨o, n, cc, e⟩
  obtain ⟨l', h0, ⟨h, _⟩ | ⟨b, off, cap, cs, e', h1, _, _, _, _, h6, _⟩⟩ := h
  · rw [e] at h; cases h
  · rw [e] at h1
    simp only [Value.slice.injEq, Option.some.injEq, Addr.mk.injEq, and_true] at h1
    rcases h6 with ⟨h6, _⟩ | ⟨_, h6⟩
    · cases h6
    · rw [h1.1.1]; exact hR b h6

theorem blk_lt {cols : List TK} {w : World} {v : Value} {l : List (List Int)} (h : LstAt cols w v l) : ∀ c, blkOf v c → c < w.heap.size := by
  rintro c ⟨o, n, cc, e⟩
  rcases h.shape with ⟨h, _⟩ | ⟨b, off, cap, h, _, _, hb⟩
  · rw [e] at h; cases h
  · rw [e] at h
    simp only [Value.slice.injEq, Option.some.injEq, Addr.mk.injEq, and_true] at h
    rw [h.1.1]; exact hb

theorem ext_two {E : Env} {nv : Nat} {u u' : U} : (Tm.var (nv + 1)).den (E.ext nv [u, u']) = some u' := by
  simp [Tm.den, Env.ext]
  intro h; omega

/-- A reference's function on a bag: the list of entries, and the list, as they are then. -/
theorem post_bag (hb : BagOb K.ob) {E : Env} {s : Eng.Spec} {ts : List Tm} {v0 : Value} {w w' : World} {nv : Nat} {D RO : Nat → Prop} {y v1 v2 : Value} {t1 t2 : Tm} {l1 l2 : List (List Int)}
    (hD : ∀ c, ¬ D c) (hr : s.recv = none) (hn : s.nn = 2) (hnews : s.news [] ts nv = [⟨3, .var nv, [t1]⟩, ⟨2, .var (nv + 1), [t2]⟩]) (hvar : ∀ n, (E.var n).isSome → n < nv)
    (hy : VR (E.ext nv [.val v1, .val v2]) (s.res [] ts nv) y) (h1 : LstAt fiveK w' v1 l1) (h2 : LstAt [.int .u64] w' v2 l2) (d1 : t1.den E = some (.rows l1)) (d2 : t2.den E = some (.rows l2))
    (f1 : ∀ c, blkOf v1 c → RO c ∨ w.heap.size ≤ c) (f2 : ∀ c, blkOf v2 c → RO c ∨ w.heap.size ≤ c) (hu : Below w.heap.size w w') :
    SpecPost K E s [] ts v0 w nv D RO w' y [.val v1, .val v2] (fun _ => False) (fun _ => False) (fun _ _ => False) (fun j c => (j = 0 ∧ blkOf v1 c) ∨ (j = 1 ∧ blkOf v2 c)) where
  len := by rw [hn]; rfl
  res := hy
  recv := fun κ hκ => by rw [hr] at hκ; cases hκ
  news := fun j o hj => by
    rw [hnews] at hj
    have hj2 : j = 0 ∨ j = 1 := by
      have := (List.getElem?_eq_some_iff.1 hj).1
      simp at this; omega
    rcases hj2 with rfl | rfl
    · simp only [List.getElem?_cons_zero, Option.some.injEq] at hj
      subst hj
      refine ⟨v1, [.rows l1], ext_new, by simp only [dens, Tm.den_mono (ext_le hvar) _ _ d1], ?_⟩
      unfold Objs.obj
      simp only [hb.f3]
      simpa using h1.list
    · simp only [List.getElem?_cons_succ, List.getElem?_cons_zero, Option.some.injEq] at hj
      subst hj
      refine ⟨v2, [.rows l2], ext_two, by simp only [dens, Tm.den_mono (ext_le hvar) _ _ d2], ?_⟩
      unfold Objs.obj
      simp only [hb.f2]
      simpa using h2.list
  upto := upto0_below hu
  dd := fun c hc => hc.elim
  rr := fun c hc => hc.elim
  dn := fun j c hc => hc.elim
  rn := fun j c hc => by
    rcases hc with ⟨_, hc⟩ | ⟨_, hc⟩
    · exact ⟨f1 c hc, blk_lt h1 c hc, fun h => h, fun _ h => h⟩
    · exact ⟨f2 c hc, blk_lt h2 c hc, fun h => h, fun _ h => h⟩

/-! ### r15.Proved -/

def spRProved : Eng.Spec where
  f := 37
  recv := none
  args := [.agg [.list 3, .list 2], .int .u64, .int .u64]
  res := fun _ ts nv => match ts with
    | [B, _, id, _] => .tuple [.agg [.tm .any (.var nv), .tm .any (.var (nv + 1))], .tm (.int .i64) (.app 115 [B, id])]
    | _ => .top
  gs' := fun _ _ _ => []
  news := fun _ ts nv => match ts with
    | [B, L, id, now] => [⟨3, .var nv, [.app 108 [B, id, now]]⟩, ⟨2, .var (nv + 1), [L]⟩]
    | _ => []
  nn := 2
  need := fun _ ts => match ts with
    | [B, _, _, _] => some [(B, 100000)]
    | _ => none

theorem vr_any {E : Env} {t : Tm} {a : Option Addr} {n c : Nat} (h : t.den E = some (.val (.slice a n c))) : VR E (.tm .any t) (.slice a n c) := by
  simp only [VR]; exact ⟨h, rfl, rfl⟩

theorem vrs_agg {E : Env} {l : List AVal} {xs : List Value} (h : VRs E l xs) : VR E (.agg l) (.agg xs.toArray) := by
  simp only [VR]; exact ⟨xs, h, rfl⟩

/-- How a bag of the reference lies in memory. -/
theorem bag_arg (hb : BagOb K.ob) {E : Env} {w : World} {D RO : Nat → Prop} {ts : List Tm} {x : Value} (h : ArgR K E w D RO (.agg [.list 3, .list 2]) ts x) :
    ∃ g1 g2 a1 n1 c1 a2 n2 c2 l1 l2, ts = [g1, g2] ∧ x = .agg #[.slice a1 n1 c1, .slice a2 n2 c2] ∧ g1.den E = some (.rows l1) ∧ g2.den E = some (.rows l2) ∧ LstAt fiveK w (.slice a1 n1 c1) l1 ∧ LstAt [.int .u64] w (.slice a2 n2 c2) l2 ∧ (∀ c, blkOf (.slice a1 n1 c1) c → RO c) ∧ ∀ c, blkOf (.slice a2 n2 c2) c → RO c := by
  simp only [ArgR, ArgRs] at h
  obtain ⟨xs, ⟨ta, tb, x1, r, rfl, ⟨us1, D1, R1, h1, h2, h3, _⟩, ⟨tc, td, x2, r2, rfl, ⟨us2, D2, R2, k1, k2, k3, _⟩, ⟨rfl, rfl⟩, rfl⟩, rfl⟩, rfl⟩ := h
  unfold Objs.obj at h2 k2
  rw [hb.f3] at h2
  rw [hb.f2] at k2
  simp only at h2 k2
  obtain ⟨l1, rfl, _⟩ := id h2
  obtain ⟨l2, rfl, _⟩ := id k2
  obtain ⟨g1, _, rfl, e1, e2⟩ := dens_cons h1
  obtain rfl := dens_nil e2
  obtain ⟨g2, _, rfl, e3, e4⟩ := dens_cons k1
  obtain rfl := dens_nil e4
  have L1 := LstAt.of h2
  have L2 := LstAt.of k2
  obtain ⟨a1, n1, c1, rfl⟩ : ∃ a n c, x1 = .slice a n c := by
    rcases L1.shape with ⟨h, _⟩ | ⟨b, o, c, h, _⟩
    · exact ⟨_, _, _, h⟩
    · exact ⟨_, _, _, h⟩
  obtain ⟨a2, n2, c2, rfl⟩ : ∃ a n c, x2 = .slice a n c := by
    rcases L2.shape with ⟨h, _⟩ | ⟨b, o, c, h, _⟩
    · exact ⟨_, _, _, h⟩
    · exact ⟨_, _, _, h⟩
  exact ⟨g1, g2, a1, n1, c1, a2, n2, c2, l1, l2, rfl, rfl, e1, e3, L1, L2, blk_ro h2 h3, blk_ro k2 k3⟩

end Go.Proofs.YtbdnlaepeladbaaGreatDoor

namespace Go.Proofs.YtbdnlaepeladbaaGreatDoor
open Go.ChangeShapes Go.WideShapes Go.ChangeAt Go.RowKit Go.Eng

variable {K : Fix}

theorem newV_blk {w : World} {v : Value} (h : NewV w v) : ∀ c, blkOf v c → w.heap.size ≤ c := by
  rintro c ⟨o, n, cc, e⟩; exact h c o n cc e

theorem rproved_spec (hb : BagOb K.ob) : SpecOk Tryz.prog K spRProved := by
  intro E nv gs ts vs v xs w D R RO hfn hvar hrecv hD hRO hR hargs hneed
  obtain ⟨rfl, rfl, hD0⟩ := hrecv
  simp only [spRProved, ArgRs] at hargs
  obtain ⟨_, _, _, _, rfl, hbag, ⟨_, _, _, _, rfl, hid, ⟨_, _, _, _, rfl, hnow, ⟨rfl, rfl⟩, rfl⟩, rfl⟩, rfl⟩ := hargs
  obtain ⟨g1, g2, a1, n1, c1, a2, n2, c2, l1, l2, rfl, rfl, d1, d2, L1, L2, ro1, ro2⟩ := bag_arg hb hbag
  simp only [ArgR] at hid hnow
  obtain ⟨t1, id, rfl, h1, w1, rfl⟩ := hid
  obtain ⟨t4, now, rfl, h4, w4, rfl⟩ := hnow
  have hlen : l1.length < 100000 := by
    obtain ⟨l, hl, hl2⟩ := hneed
    simp only [spRProved, List.cons_append, List.nil_append, Option.some.injEq] at hl
    subst hl
    exact hl2 _ (List.mem_singleton.2 rfl) _ d1
  have dE : (Tm.app 115 [g1, t1]).den E = some (.int (knownE l1 id)) := den2 d1 h1 (appF_int (by decide) (by rw [hfn, hb.fn 115 (by decide)]; rfl))
  have dB : (Tm.app 108 [g1, t1, t4]).den E = some (.rows (provedB l1 id now)) := den3 d1 h1 h4 (appF_rows (by decide) (by rw [hfn, hb.fn 108 (by decide)]; rfl) (provedB_length _ _ _))
  have res : ∀ {a : Option Addr} {n c : Nat} {e : Int}, knownE l1 id = e → (Lit.int .i64 e).wf = true → VR (E.ext nv [.val (.slice a n c), .val (.slice a2 n2 c2)]) (spRProved.res [] [g1, g2, t1, t4] nv) (.tuple #[.agg #[.slice a n c, .slice a2 n2 c2], .int .i64 e]) := by
    intro a n c e he hw
    show VR _ (.tuple [.agg [.tm .any (.var nv), .tm .any (.var (nv + 1))], .tm (.int .i64) (.app 115 [g1, t1])]) _
    refine VRs.two (vrs_agg (xs := [_, _]) (VRs.cons (vr_any ext_new) (VRs.cons (vr_any ext_two) VRs.nil))) (vr_int ?_ hw)
    rw [Tm.den_mono (ext_le hvar) _ _ dE, he]
  show Calls Tryz.prog 37 #[.agg #[.slice a1 n1 c1, .slice a2 n2 c2], .int .u64 id, .int .u64 now] w _
  rcases isAt_one l1 id with ⟨_, hr, hi⟩ | ⟨k, row, hk, hrow, hr, hset, hi⟩
  · refine (rproved_no L1 (by omega) a2 n2 c2 id now hi).mono ?_
    rintro e w' ⟨rfl, hbl⟩
    have hP : provedB l1 id now = l1 := by unfold provedB; rw [hr]
    rw [hP] at dB
    exact ⟨_, _, _, _, _, _, rfl, post_bag hb hD0 rfl rfl rfl hvar (res (by unfold knownE; rw [hr]; rfl) (by decide)) (L1.below hbl) (L2.below hbl) dB d2 (fun c hc => .inl (ro1 c hc)) (fun c hc => .inl (ro2 c hc)) hbl⟩
  · obtain ⟨i0, x, bo, si, pr, rfl, _⟩ := five_row (L1.wfs _ (List.mem_of_getElem? hk))
    simp only [List.headD_cons] at hrow
    subst hrow
    have hP : provedB l1 i0 now = l1.set k [i0, x, bo, si, now] := by unfold provedB; rw [hr]; exact hset _
    rw [hP] at dB
    rcases L1.shape with ⟨_, rfl⟩ | ⟨b, off, cap, e1, _⟩
    · simp at hk
    · simp only [Value.slice.injEq] at e1
      obtain ⟨rfl, rfl, rfl⟩ := e1
      refine (rproved_yes L1 (by omega) a2 n2 c2 i0 now w4 hk hi).mono ?_
      rintro e w' ⟨v', rfl, L', hN, hbl⟩
      obtain ⟨a', n', c', rfl⟩ : ∃ a n c, v' = .slice a n c := by
        rcases L'.shape with ⟨h, _⟩ | ⟨b, o, c, h, _⟩
        · exact ⟨_, _, _, h⟩
        · exact ⟨_, _, _, h⟩
      exact ⟨_, _, _, _, _, _, rfl, post_bag hb hD0 rfl rfl rfl hvar (res (by unfold knownE; rw [hr]; rfl) (by decide)) L' (L2.below hbl) dB d2 (fun c hc => .inr (newV_blk hN c hc)) (fun c hc => .inl (ro2 c hc)) hbl⟩

end Go.Proofs.YtbdnlaepeladbaaGreatDoor

namespace Go.Proofs.YtbdnlaepeladbaaGreatDoor
open Go.ChangeShapes Go.WideShapes Go.ChangeAt Go.RowKit Go.Eng

set_option maxHeartbeats 1000000 in
set_option maxRecDepth 1000000 in
theorem rbswap_no {w : World} {a1 : Option Addr} {n1 c1 : Nat} {l : List (List Int)} (h : LstAt fiveK w (.slice a1 n1 c1) l) (hm : l.length ≤ 100000) (a2 : Option Addr) (n2 c2 : Nat) (id old st now : Int) (hi : ∀ i, IsAt l id i → i = -1) :
    Calls Tryz.prog 35 #[.agg #[.slice a1 n1 c1, .slice a2 n2 c2], .int .u64 id, .int .u64 old, .int .i64 st, .int .u64 now] w fun e w' => e = .returned (.tuple #[.agg #[.slice a1 n1 c1, .slice a2 n2 c2], .int .u64 0, .bool false]) ∧ Below w.heap.size w w' := by
  have b1 : Below w.heap.size w ((w.alloc (.cells #[.slice a1 n1 c1, .slice a2 n2 c2] 61)).alloc (.cells #[.slice none 0 0, .slice none 0 0] 61)) := ((Below.refl _ w).alloc (Nat.le_refl _) _).alloc (by simp) _
  have hf := (find_calls (h.below b1) (by omega) a2 n2 c2 id).mono fun e w' (he : (∃ i : Int, e = .returned (.int .i64 i) ∧ IsAt l id i) ∧ _) => show e = .returned (.int .i64 (-1)) ∧ _ from ⟨by obtain ⟨⟨i, h1, h2⟩, _⟩ := he; rw [h1, hi i h2], he.2⟩
  have H1 := aside_of (two_bags w (.slice a1 n1 c1) (.slice a2 n2 c2) (.slice none 0 0) (.slice none 0 0))
  clear h b1 hi hm
  go_enter Tryz.func35, Tryz.ntmps35
  go_wp2_with (go_at_call 99; with_reducible refine hf.mono ?_; rintro e w2 ⟨rfl, b2⟩; obtain ⟨q0, q1, q2⟩ := H1.out _ b2; obtain ⟨k0, k1, f0, f1⟩ := bag2 q0; obtain ⟨d0, d1, g0, g1⟩ := bag2 q1)
  refine bodyPost_ret (v := .tuple #[.agg #[.slice a1 n1 c1, .slice a2 n2 c2], .int .u64 0, .bool false]) (by simp [results, Tryz.results35, go_sem, k0, k1, d0, d1, f0, f1, g0, g1]) rfl ⟨rfl, ?_⟩
  exact (q2.setCell (by simp) _).setCell (by simp) _

set_option maxHeartbeats 1000000 in
set_option maxRecDepth 1000000 in
theorem rbswap_yes {w : World} {b off cap : Nat} {l : List (List Int)} (h : LstAt fiveK w (.slice (some ⟨b, off, none⟩) l.length cap) l) (hm : l.length ≤ 100000) (a2 : Option Addr) (n2 c2 : Nat) (id st now : Int) (hnow : (Lit.int .u64 now).wf = true) (y : Nat) (hy : y < 18446744073709551616)
    {k x : Nat} {bo si pr : Int} (hk : l[k]? = some [id, x, bo, si, pr]) (hi : ∀ i, IsAt l id i → i = k) (W : Nat) (ok : Bool) (hok : ok = (mayB ((y : Int) % 4) st && decide (x = y))) (hW : W = if ok then toN y st else x) (hW2 : W < 18446744073709551616) :
    Calls Tryz.prog 35 #[.agg #[.slice (some ⟨b, off, none⟩) l.length cap, .slice a2 n2 c2], .int .u64 id, .int .u64 y, .int .i64 st, .int .u64 now] w fun e w' => ∃ v', e = .returned (.tuple #[.agg #[v', .slice a2 n2 c2], .int .u64 W, .bool ok]) ∧ LstAt fiveK w' v' (l.set k [id, W, bo, if ok && st == 0 then now else si, pr]) ∧ NewV w v' ∧ Below w.heap.size w w' := by
  have hkl := (List.getElem?_eq_some_iff.1 hk).1
  have hrow := (h.row hk).1
  have hs := rswap_calls x y hy st
  rw [← hok, ← hW] at hs
  obtain ⟨S, hS⟩ : ∃ S, S = if ok && st == 0 then now else si := ⟨_, rfl⟩
  rw [← hS]
  have hx : colWfs fiveK [id, W, bo, S, pr] = true := by
    simp only [fiveK, colWfs, colWf, Bool.and_eq_true] at hrow ⊢
    refine ⟨hrow.1, nat_wf hW2, hrow.2.2.1, ?_, hrow.2.2.2.2.1, trivial⟩
    rw [hS]; split
    · exact hnow
    · exact hrow.2.2.2.1
  have b1 : Below w.heap.size w ((w.alloc (.cells #[.slice (some ⟨b, off, none⟩) l.length cap, .slice a2 n2 c2] 61)).alloc (.cells #[.slice none 0 0, .slice none 0 0] 61)) := ((Below.refl _ w).alloc (Nat.le_refl _) _).alloc (by simp) _
  have hf := (find_calls (h.below b1) (by omega) a2 n2 c2 id).mono fun e w' (he : (∃ i : Int, e = .returned (.int .i64 i) ∧ IsAt l id i) ∧ _) => show e = .returned (.int .i64 (k : Int)) ∧ _ from ⟨by obtain ⟨⟨i, h1, h2⟩, _⟩ := he; rw [h1, hi i h2], he.2⟩
  have WW : Aside (∀ v : World, Below w.heap.size w v → Calls Tryz.prog 101 #[.agg #[.slice (some ⟨b, off, none⟩) l.length cap, .slice a2 n2 c2], .int .i64 k, .agg #[.int .u64 id, .int .u64 W, .int .u64 bo, .int .u64 S, .int .u64 pr]] v fun e w' => ∃ a' n' c', e = .returned (.agg #[.slice a' n' c', .slice a2 n2 c2]) ∧ Aside (LstAt fiveK w' (.slice a' n' c') (l.set k [id, W, bo, S, pr]) ∧ NewV v (.slice a' n' c')) ∧ Below v.heap.size v w') := fun v hv => by
    refine (with15_some (h.below hv) hm a2 n2 c2 k hkl id W bo S pr hx).mono ?_
    rintro e w' ⟨v', rfl, g1, g2, g3⟩
    rcases g1.shape with ⟨rfl, _⟩ | ⟨b', o', c', rfl, _⟩
    · exact ⟨_, _, _, rfl, ⟨g1, g2⟩, g3⟩
    · exact ⟨_, _, _, rfl, ⟨g1, g2⟩, g3⟩
  have C : Aside (∀ v : World, Below w.heap.size w v → v.cell? ⟨b, off + k * 5, none⟩ = some (.int .u64 id) ∧ v.cell? ⟨b, off + k * 5 + 1, none⟩ = some (.int .u64 x) ∧ v.cell? ⟨b, off + k * 5 + 2, none⟩ = some (.int .u64 bo) ∧ v.cell? ⟨b, off + k * 5 + 3, none⟩ = some (.int .u64 si) ∧ v.cell? ⟨b, off + k * 5 + 4, none⟩ = some (.int .u64 pr)) := fun v hv => (h.below hv).five hk
  have H1 := aside_of (two_bags w (.slice (some ⟨b, off, none⟩) l.length cap) (.slice a2 n2 c2) (.slice none 0 0) (.slice none 0 0))
  obtain ⟨n, hn⟩ : ∃ n, n = l.length := ⟨_, rfl⟩
  have hkn : (k : Int) < (n : Int) := by omega
  rw [← hn] at hf WW H1 ⊢
  have h0 : ¬ (k : Int) < 0 := by omega
  clear h b1 hi hm hrow hk hkl hn hok hW hW2 hx hy hnow
  have fin : ∀ (w2 w3 : World) (a' : Option Addr) (n' c' : Nat), w.heap.size + 2 ≤ w2.heap.size → Aside (LstAt fiveK w3 (.slice a' n' c') (l.set k [id, W, bo, S, pr]) ∧ NewV (w2.alloc (.cells #[.int .u64 id, .int .u64 W, .int .u64 bo, .int .u64 S, .int .u64 pr] 175)) (.slice a' n' c')) → Below w.heap.size w w3 →
      LstAt fiveK ((w3.setCell ⟨w.heap.size + 1, 0, none⟩ (.slice a' n' c')).setCell ⟨w.heap.size + 1, 1, none⟩ (.slice a2 n2 c2)) (.slice a' n' c') (l.set k [id, W, bo, S, pr]) ∧ NewV w (.slice a' n' c') ∧ Below w.heap.size w ((w3.setCell ⟨w.heap.size + 1, 0, none⟩ (.slice a' n' c')).setCell ⟨w.heap.size + 1, 1, none⟩ (.slice a2 n2 c2)) := by
    intro w2 w3 a' n' c' hsz G hb
    obtain ⟨G1, G2⟩ := G.out
    have hnb : ∀ g o m c, Value.slice a' n' c' = .slice (some ⟨g, o, none⟩) m c → w.heap.size + 2 ≤ g := fun g o m c e => by
      have := G2 g o m c e
      simp at this; omega
    have off : ∀ {v : World} (p : Addr) (u : Value), p.block = w.heap.size + 1 → LstAt fiveK v (.slice a' n' c') (l.set k [id, W, bo, S, pr]) → LstAt fiveK (v.setCell p u) (.slice a' n' c') (l.set k [id, W, bo, S, pr]) := by
      intro v p u hp hv
      rcases hv.shape with ⟨e1, e2⟩ | ⟨b', o', cap', e, _⟩
      · rw [e1, e2]; exact ⟨[], rfl, .inl ⟨rfl, rfl⟩⟩
      · have := hnb _ _ _ _ e
        rw [e] at hv ⊢
        exact hv.off (by rw [hp]; omega) u
    exact ⟨off _ _ rfl (off _ _ rfl G1), fun g o m c e => by have := hnb g o m c e; omega, (hb.setCell (by simp) _).setCell (by simp) _⟩
  have FIN := aside_of fin
  clear fin
  cases hcase : (ok && st == 0) with
  | true =>
    rw [hcase] at hS
    simp only [if_true] at hS
    subst hS
    simp only [Bool.and_eq_true, beq_iff_eq] at hcase
    obtain ⟨rfl, rfl⟩ := hcase
    go_enter Tryz.func35, Tryz.ntmps35
    go_wp2_with (first
      | (go_at_call 99; with_reducible refine hf.mono ?_; rintro e w2 ⟨rfl, b2⟩; obtain ⟨q0, q1, q2⟩ := H1.out _ b2; obtain ⟨k0, k1, f0, f1⟩ := bag2 q0; obtain ⟨d0, d1, g0, g1⟩ := bag2 q1; obtain ⟨x0, x1, x2, x3, x4⟩ := C.out _ q2; have b2a := b2.alloc b2.size (.cells #[.int .u64 id, .int .u64 W, .int .u64 bo, .int .u64 S, .int .u64 pr] 175); obtain ⟨p0, p1, p2⟩ := H1.out _ b2a; obtain ⟨m0, m1, _, _⟩ := bag2 p0)
      | (go_at_call 100; with_reducible refine (hs _).mono ?_; rintro e w5 ⟨rfl, rfl⟩)
      | (go_at_call 101; with_reducible refine (WW.out _ (q2.alloc q2.size _)).mono ?_; rintro e w3 ⟨a', n', c', rfl, G, b3⟩; obtain ⟨r0, r1, r2⟩ := H1.out _ (b2a.trans (b3.mono b2a.size)); obtain ⟨y0, y1, z0, z1⟩ := bag2 r1))
    have hsz : w.heap.size + 2 ≤ w2.heap.size := by have := b2.size; simp at this; omega
    obtain ⟨F1, F2, F3⟩ := FIN.out w2 w3 a' n' c' hsz G r2
    exact bodyPost_ret (v := .tuple #[.agg #[.slice a' n' c', .slice a2 n2 c2], .int .u64 W, .bool true]) (by simp [results, Tryz.results35, go_sem, y0, y1, z0, z1]) rfl ⟨_, rfl, F1, F2, F3⟩
  | false =>
    rw [hcase] at hS
    simp only [Bool.false_eq_true, if_false] at hS
    subst hS
    cases ok with
    | false =>
      clear hcase
      go_enter Tryz.func35, Tryz.ntmps35
      go_wp2_with (first
        | (go_at_call 99; with_reducible refine hf.mono ?_; rintro e w2 ⟨rfl, b2⟩; obtain ⟨q0, q1, q2⟩ := H1.out _ b2; obtain ⟨k0, k1, f0, f1⟩ := bag2 q0; obtain ⟨d0, d1, g0, g1⟩ := bag2 q1; obtain ⟨x0, x1, x2, x3, x4⟩ := C.out _ q2; have b2a := b2.alloc b2.size (.cells #[.int .u64 id, .int .u64 W, .int .u64 bo, .int .u64 S, .int .u64 pr] 175); obtain ⟨p0, p1, p2⟩ := H1.out _ b2a; obtain ⟨m0, m1, _, _⟩ := bag2 p0)
        | (go_at_call 100; with_reducible refine (hs _).mono ?_; rintro e w5 ⟨rfl, rfl⟩)
        | (go_at_call 101; with_reducible refine (WW.out _ (q2.alloc q2.size _)).mono ?_; rintro e w3 ⟨a', n', c', rfl, G, b3⟩; obtain ⟨r0, r1, r2⟩ := H1.out _ (b2a.trans (b3.mono b2a.size)); obtain ⟨y0, y1, z0, z1⟩ := bag2 r1))
      have hsz : w.heap.size + 2 ≤ w2.heap.size := by have := b2.size; simp at this; omega
      obtain ⟨F1, F2, F3⟩ := FIN.out w2 w3 a' n' c' hsz G r2
      exact bodyPost_ret (v := .tuple #[.agg #[.slice a' n' c', .slice a2 n2 c2], .int .u64 W, .bool false]) (by simp [results, Tryz.results35, go_sem, y0, y1, z0, z1]) rfl ⟨_, rfl, F1, F2, F3⟩
    | true =>
      simp only [Bool.true_and] at hcase
      go_enter Tryz.func35, Tryz.ntmps35
      go_wp2_with (first
        | (go_at_call 99; with_reducible refine hf.mono ?_; rintro e w2 ⟨rfl, b2⟩; obtain ⟨q0, q1, q2⟩ := H1.out _ b2; obtain ⟨k0, k1, f0, f1⟩ := bag2 q0; obtain ⟨d0, d1, g0, g1⟩ := bag2 q1; obtain ⟨x0, x1, x2, x3, x4⟩ := C.out _ q2; have b2a := b2.alloc b2.size (.cells #[.int .u64 id, .int .u64 W, .int .u64 bo, .int .u64 S, .int .u64 pr] 175); obtain ⟨p0, p1, p2⟩ := H1.out _ b2a; obtain ⟨m0, m1, _, _⟩ := bag2 p0)
        | (go_at_call 100; with_reducible refine (hs _).mono ?_; rintro e w5 ⟨rfl, rfl⟩)
        | (go_at_call 101; with_reducible refine (WW.out _ (q2.alloc q2.size _)).mono ?_; rintro e w3 ⟨a', n', c', rfl, G, b3⟩; obtain ⟨r0, r1, r2⟩ := H1.out _ (b2a.trans (b3.mono b2a.size)); obtain ⟨y0, y1, z0, z1⟩ := bag2 r1))
      have hsz : w.heap.size + 2 ≤ w2.heap.size := by have := b2.size; simp at this; omega
      obtain ⟨F1, F2, F3⟩ := FIN.out w2 w3 a' n' c' hsz G r2
      exact bodyPost_ret (v := .tuple #[.agg #[.slice a' n' c', .slice a2 n2 c2], .int .u64 W, .bool true]) (by simp [results, Tryz.results35, go_sem, y0, y1, z0, z1]) rfl ⟨_, rfl, F1, F2, F3⟩

end Go.Proofs.YtbdnlaepeladbaaGreatDoor

namespace Go.Proofs.YtbdnlaepeladbaaGreatDoor
open Go.ChangeShapes Go.WideShapes Go.ChangeAt Go.RowKit Go.Eng

variable {K : Fix}

theorem set_self {α : Type} {l : List α} {k : Nat} {a : α} (h : l[k]? = some a) : l.set k a = l := by
  apply List.ext_getElem?
  intro i
  rw [List.getElem?_set]
  split
  · rename_i e
    subst e
    have := (List.getElem?_eq_some_iff.1 h).1
    rw [if_pos this, h]
  · rfl

def spRSwap : Eng.Spec where
  f := 35
  recv := none
  args := [.agg [.list 3, .list 2], .int .u64, .int .u64, .int .i64, .int .u64]
  res := fun _ ts nv => match ts with
    | [B, _, id, old, st, _] => .tuple [.agg [.tm .any (.var nv), .tm .any (.var (nv + 1))], .tm (.int .u64) (.app 107 [B, id, old, st]), .tm .bool (.app 111 [B, id, old, st])]
    | _ => .top
  gs' := fun _ _ _ => []
  news := fun _ ts nv => match ts with
    | [B, L, id, old, st, now] => [⟨3, .var nv, [.app 104 [B, id, old, st, now]]⟩, ⟨2, .var (nv + 1), [L]⟩]
    | _ => []
  nn := 2
  need := fun _ ts => match ts with
    | [B, _, _, _, _, _] => some [(B, 100000)]
    | _ => none

theorem vrs_three {E : Env} {a b c : AVal} {x y z : Value} (h1 : VR E a x) (h2 : VR E b y) (h3 : VR E c z) : VR E (.tuple [a, b, c]) (.tuple #[x, y, z]) := by
  simp only [VR]
  exact ⟨[x, y, z], VRs.cons h1 (VRs.cons h2 (VRs.cons h3 VRs.nil)), rfl⟩

theorem rswap_spec (hb : BagOb K.ob) : SpecOk Tryz.prog K spRSwap := by
  intro E nv gs ts vs v xs w D R RO hfn hvar hrecv hD hRO hR hargs hneed
  obtain ⟨rfl, rfl, hD0⟩ := hrecv
  simp only [spRSwap, ArgRs] at hargs
  obtain ⟨_, _, _, _, rfl, hbag, ⟨_, _, _, _, rfl, hid, ⟨_, _, _, _, rfl, hold, ⟨_, _, _, _, rfl, hst, ⟨_, _, _, _, rfl, hnow, ⟨rfl, rfl⟩, rfl⟩, rfl⟩, rfl⟩, rfl⟩, rfl⟩ := hargs
  obtain ⟨g1, g2, a1, n1, c1, a2, n2, c2, l1, l2, rfl, rfl, d1, d2, L1, L2, ro1, ro2⟩ := bag_arg hb hbag
  simp only [ArgR] at hid hold hst hnow
  obtain ⟨t1, id, rfl, h1, w1, rfl⟩ := hid
  obtain ⟨t2, y0, rfl, h2, w2, rfl⟩ := hold
  obtain ⟨t3, st, rfl, h3, w3, rfl⟩ := hst
  obtain ⟨t4, now, rfl, h4, w4, rfl⟩ := hnow
  obtain ⟨y, rfl, hy⟩ := u64n w2
  have hlen : l1.length < 100000 := by
    obtain ⟨l, hl, hl2⟩ := hneed
    simp only [spRSwap, List.cons_append, List.nil_append, Option.some.injEq] at hl
    subst hl
    exact hl2 _ (List.mem_singleton.2 rfl) _ d1
  have dW : (Tm.app 107 [g1, t1, t2, t3]).den E = some (.int (swapW l1 id y st)) := den4 d1 h1 h2 h3 (appF_int (by decide) (by rw [hfn, hb.fn 107 (by decide)]; rfl))
  have dO : (Tm.app 111 [g1, t1, t2, t3]).den E = some (.bool (swapOk l1 id y st)) := den4 d1 h1 h2 h3 (appF_bool (by decide) (by rw [hfn, hb.fn 111 (by decide)]; rfl))
  have dB : (Tm.app 104 [g1, t1, t2, t3, t4]).den E = some (.rows (swapB l1 id y st now)) := den5 d1 h1 h2 h3 h4 (appF_rows (by decide) (by rw [hfn, hb.fn 104 (by decide)]; rfl) (swapB_length _ _ _ _ _))
  have res : ∀ {a : Option Addr} {n c : Nat} {x : Nat} {ok : Bool}, swapW l1 id y st = x → x < 18446744073709551616 → swapOk l1 id y st = ok → VR (E.ext nv [.val (.slice a n c), .val (.slice a2 n2 c2)]) (spRSwap.res [] [g1, g2, t1, t2, t3, t4] nv) (.tuple #[.agg #[.slice a n c, .slice a2 n2 c2], .int .u64 x, .bool ok]) := by
    intro a n c x ok he hx ho
    show VR _ (.tuple [.agg [.tm .any (.var nv), .tm .any (.var (nv + 1))], .tm (.int .u64) (.app 107 [g1, t1, t2, t3]), .tm .bool (.app 111 [g1, t1, t2, t3])]) _
    refine vrs_three (vrs_agg (xs := [_, _]) (VRs.cons (vr_any ext_new) (VRs.cons (vr_any ext_two) VRs.nil))) (vr_int ?_ (nat_wf hx)) (vr_bool ?_)
    · rw [Tm.den_mono (ext_le hvar) _ _ dW, he]
    · rw [Tm.den_mono (ext_le hvar) _ _ dO, ho]
  show Calls Tryz.prog 35 #[.agg #[.slice a1 n1 c1, .slice a2 n2 c2], .int .u64 id, .int .u64 (y : Int), .int .i64 st, .int .u64 now] w _
  rcases isAt_one l1 id with ⟨_, hr, hi⟩ | ⟨k, row, hk, hrow, hr, hset, hi⟩
  · refine (rbswap_no L1 (by omega) a2 n2 c2 id y st now hi).mono ?_
    rintro e w' ⟨rfl, hbl⟩
    have e2 : swapOk l1 id y st = false := by unfold swapOk; rw [hr]; rfl
    have e1 : swapW l1 id y st = ((0 : Nat) : Int) := by unfold swapW wordR; rw [e2, hr]; rfl
    have hP : swapB l1 id y st now = l1 := by unfold swapB; rw [hr]
    rw [hP] at dB
    exact ⟨_, _, _, _, _, _, rfl, post_bag hb hD0 rfl rfl rfl hvar (res e1 (by decide) e2) (L1.below hbl) (L2.below hbl) dB d2 (fun c hc => .inl (ro1 c hc)) (fun c hc => .inl (ro2 c hc)) hbl⟩
  · obtain ⟨i0, x0, bo, si, pr, rfl, _, wx, _⟩ := five_row (L1.wfs _ (List.mem_of_getElem? hk))
    obtain ⟨x, rfl, hx⟩ := u64n wx
    simp only [List.headD_cons] at hrow
    subst hrow
    simp only [List.tail_cons] at hr
    obtain ⟨ok, hok⟩ : ∃ ok, ok = (mayB ((y : Int) % 4) st && decide (x = y)) := ⟨_, rfl⟩
    have e2 : swapOk l1 i0 y st = ok := by
      unfold swapOk wordR
      rw [hr, hok]
      simp only [Option.isSome_some, Bool.true_and, Option.getD_some, List.headD_cons]
      congr 1
      by_cases e : x = y
      · simp [e]
      · simp only [e, decide_false, beq_eq_false_iff_ne]; omega
    obtain ⟨W, hW⟩ : ∃ W, W = if ok then toN y st else x := ⟨_, rfl⟩
    have e1 : swapW l1 i0 y st = (W : Int) := by
      unfold swapW wordR
      rw [e2, hr, hW]
      cases ok <;> simp
    have hW2 : W < 18446744073709551616 := by
      rw [hW]
      split
      · rename_i ho
        rw [hok, Bool.and_eq_true] at ho
        have := may_range ho.1
        unfold toN
        exact ofN_lt (by omega)
      · exact hx
    have hP : swapB l1 i0 y st now = l1.set k [i0, W, bo, if ok && st == 0 then now else si, pr] := by
      unfold swapB
      rw [hr]
      simp only [e2]
      cases ok with
      | false =>
        simp only [Bool.false_eq_true, if_false, Bool.false_and] at hW ⊢
        rw [hW, set_self hk]
      | true =>
        simp only [if_true, Bool.true_and, beq_iff_eq] at hW ⊢
        rw [hset, hW, Int.toNat_natCast]
    rw [hP] at dB
    rcases L1.shape with ⟨_, rfl⟩ | ⟨b, off, cap, e1', _⟩
    · simp at hk
    · simp only [Value.slice.injEq] at e1'
      obtain ⟨rfl, rfl, rfl⟩ := e1'
      refine (rbswap_yes L1 (by omega) a2 n2 c2 i0 st now w4 y hy hk hi W ok hok hW hW2).mono ?_
      rintro e w' ⟨v', rfl, L', hN, hbl⟩
      obtain ⟨a', n', c', rfl⟩ : ∃ a n c, v' = .slice a n c := by
        rcases L'.shape with ⟨h, _⟩ | ⟨b, o, c, h, _⟩
        · exact ⟨_, _, _, h⟩
        · exact ⟨_, _, _, h⟩
      exact ⟨_, _, _, _, _, _, rfl, post_bag hb hD0 rfl rfl rfl hvar (res e1 hW2 e2) L' (L2.below hbl) dB d2 (fun c hc => .inr (newV_blk hN c hc)) (fun c hc => .inl (ro2 c hc)) hbl⟩

end Go.Proofs.YtbdnlaepeladbaaGreatDoor
