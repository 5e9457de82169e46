/- What a round of the law keeps. Conditions: how the states lie in memory. -/
import Derived.Test.YthpfbljbifcaoaaGreatDoorAuB
import Derived.Test.YthpfbljbifcaoaaGreatDoorMo
import Derived.RegionTactic
import Derived.Deep.RegionHeld3
import Derived.Deep.QuietTactic
import Derived.BigQuiet
import Derived.WalkSpells
namespace Go.Proofs.YthpfbljbifcaoaaGreatDoor
open Go.ChangeShapes Go.WideShapes Go.ChangeAt Go.RowKit Go.Eng Go.Deep

/-- The act that is looked at, in block Z. -/
def ActAt (v : World) (Z : Nat) (a0 a1 a2 a3 : Int) (a4 : Bool) : Prop := v.heap[Z]? = some (.cells #[.int .i64 a0, .int .i64 a1, .int .u64 a2, .int .u8 a3, .bool a4] 30 (0, 0))

variable {v v' : World} {X Y Z : Nat} {a0 a1 a2 a3 : Int} {a4 : Bool}
theorem ActAt.q0 (h : ActAt v Z a0 a1 a2 a3 a4) : v.cell? ⟨Z, 0, none⟩ = some (.int .i64 a0) := by unfold ActAt at h; simp [World.cell?, h]
theorem ActAt.q1 (h : ActAt v Z a0 a1 a2 a3 a4) : v.cell? ⟨Z, 1, none⟩ = some (.int .i64 a1) := by unfold ActAt at h; simp [World.cell?, h]
theorem ActAt.q2 (h : ActAt v Z a0 a1 a2 a3 a4) : v.cell? ⟨Z, 2, none⟩ = some (.int .u64 a2) := by unfold ActAt at h; simp [World.cell?, h]
theorem ActAt.q3 (h : ActAt v Z a0 a1 a2 a3 a4) : v.cell? ⟨Z, 3, none⟩ = some (.int .u8 a3) := by unfold ActAt at h; simp [World.cell?, h]
theorem ActAt.q4 (h : ActAt v Z a0 a1 a2 a3 a4) : v.cell? ⟨Z, 4, none⟩ = some (.bool a4) := by unfold ActAt at h; simp [World.cell?, h]

/-- In a round: the state in X, the state as it was in Y, the act in Z. -/
structure Fr (W : World) (B X Y Z : Nat) (lm rm : Option Nat) (s : AS) (wl wr : Option Nat) (u : AS) (a0 a1 a2 a3 : Int) (a4 : Bool) (v : World) : Prop where
  low : Below B W v
  hB : B ≤ X
  cur : RowS v X lm rm s.c
  st : StAt v lm rm s
  act : ActAt v Z a0 a1 a2 a3 a4
  was : RowS v Y wl wr u.c
  wst : StAt v wl wr u
  xy : X ≠ Y
  xz : X ≠ Z

variable {W : World} {B : Nat} {lm rm wl wr : Option Nat} {s u : AS}

theorem Fr.below (h : Fr W B X Y Z lm rm s wl wr u a0 a1 a2 a3 a4 v) (hb : Below v.heap.size v v') : Fr W B X Y Z lm rm s wl wr u a0 a1 a2 a3 a4 v' :=
  ⟨h.low.trans (hb.mono (Nat.le_of_lt (Nat.lt_of_le_of_lt h.hB h.cur.lt))), h.hB, h.cur.below hb h.cur.lt, h.st.below hb, (hb.block Z (Array.getElem?_eq_some_iff.1 h.act).1).trans h.act, h.was.below hb h.was.lt, h.wst.below hb, h.xy, h.xz⟩

theorem Fr.drew (h : Fr W B X Y Z lm rm s wl wr u a0 a1 a2 a3 a4 v) : Fr W B X Y Z lm rm s wl wr u a0 a1 a2 a3 a4 v.drew := h.below ⟨rfl, rfl, rfl, Nat.le_refl _, fun _ _ => rfl⟩

theorem StAt.offRow {l r : Option Nat} {c : Bool} (h : StAt v lm rm s) (hx : RowS v X l r c) (n : Nat) (x : Value) : StAt (v.setCell ⟨X, n, none⟩ x) lm rm s :=
  h.set (p := ⟨X, n, none⟩) (fun _ e => h.neL hx e) (fun _ e => h.neR hx e) x

/-- The state is stored. -/
theorem Fr.put {lm' rm' : Option Nat} {s' : AS} (h : Fr W B X Y Z lm rm s wl wr u a0 a1 a2 a3 a4 v) (st : StAt v lm' rm' s') :
    Fr W B X Y Z lm' rm' s' wl wr u a0 a1 a2 a3 a4 (((v.setCell ⟨X, 0, none⟩ (.map lm')).setCell ⟨X, 1, none⟩ (.map rm')).setCell ⟨X, 2, none⟩ (.bool s'.c)) := by
  have keep : ∀ {j : Nat}, X ≠ j → (((v.setCell ⟨X, 0, none⟩ (.map lm')).setCell ⟨X, 1, none⟩ (.map rm')).setCell ⟨X, 2, none⟩ (.bool s'.c)).heap[j]? = v.heap[j]? := by
    intro j hj
    rw [Below.heap_setCell _ _ _ _ (fun e => hj e.symm), Below.heap_setCell _ _ _ _ (fun e => hj e.symm), Below.heap_setCell _ _ _ _ (fun e => hj e.symm)]
  have e1 := h.cur
  refine ⟨((h.low.setCell h.hB _).setCell h.hB _).setCell h.hB _, h.hB, h.cur.set lm' rm' s'.c, ?_, (keep h.xz).trans h.act, (keep h.xy).trans h.was, ?_, h.xy, h.xz⟩
  · exact ((st.set (p := ⟨X, 0, none⟩) (fun _ e => st.neL h.cur e) (fun _ e => st.neR h.cur e) _).set (p := ⟨X, 1, none⟩) (fun _ e => st.neL h.cur e) (fun _ e => st.neR h.cur e) _).set (p := ⟨X, 2, none⟩) (fun _ e => st.neL h.cur e) (fun _ e => st.neR h.cur e) _
  · have st := h.wst
    exact ((st.set (p := ⟨X, 0, none⟩) (fun _ e => st.neL h.cur e) (fun _ e => st.neR h.cur e) _).set (p := ⟨X, 1, none⟩) (fun _ e => st.neL h.cur e) (fun _ e => st.neR h.cur e) _).set (p := ⟨X, 2, none⟩) (fun _ e => st.neL h.cur e) (fun _ e => st.neR h.cur e) _

/-- Is it retired? -/
def gone (s : AS) (id : Int) : Bool := s.rs.contains id
theorem gone_iff {s : AS} {id : Int} : gone s id = true ↔ id ∈ s.rs := by unfold gone; simp

theorem fr_holder_was (h : Fr W B X Y Z lm rm s wl wr u a0 a1 a2 a3 a4 v) (id : Int) :
    Calls Tryz.prog 6 #[stV wl wr u.c, .int .u64 id] v fun e w' => e = .returned (.tuple #[.int .i64 ((aget id u.ls).getD 0), .bool (aget id u.ls).isSome]) ∧ Fr W B X Y Z lm rm s wl wr u a0 a1 a2 a3 a4 w' :=
  (holder_calls h.wst u.c id).mono fun _ _ ⟨he, hb⟩ => ⟨he, h.below hb⟩
theorem fr_holder (h : Fr W B X Y Z lm rm s wl wr u a0 a1 a2 a3 a4 v) (id : Int) :
    Calls Tryz.prog 6 #[stV lm rm s.c, .int .u64 id] v fun e w' => e = .returned (.tuple #[.int .i64 ((aget id s.ls).getD 0), .bool (aget id s.ls).isSome]) ∧ Fr W B X Y Z lm rm s wl wr u a0 a1 a2 a3 a4 w' :=
  (holder_calls h.st s.c id).mono fun _ _ ⟨he, hb⟩ => ⟨he, h.below hb⟩
theorem fr_retired_was (h : Fr W B X Y Z lm rm s wl wr u a0 a1 a2 a3 a4 v) (id : Int) :
    Calls Tryz.prog 7 #[stV wl wr u.c, .int .u64 id] v fun e w' => e = .returned (.bool (gone u id)) ∧ Fr W B X Y Z lm rm s wl wr u a0 a1 a2 a3 a4 w' :=
  (retired_calls h.wst u.c id).mono fun _ _ ⟨he, hb⟩ => ⟨he, h.below hb⟩
theorem fr_retired (h : Fr W B X Y Z lm rm s wl wr u a0 a1 a2 a3 a4 v) (id : Int) :
    Calls Tryz.prog 7 #[stV lm rm s.c, .int .u64 id] v fun e w' => e = .returned (.bool (gone s id)) ∧ Fr W B X Y Z lm rm s wl wr u a0 a1 a2 a3 a4 w' :=
  (retired_calls h.st s.c id).mono fun _ _ ⟨he, hb⟩ => ⟨he, h.below hb⟩
theorem fr_leases_was (h : Fr W B X Y Z lm rm s wl wr u a0 a1 a2 a3 a4 v) (hI : u.Inv) :
    Calls Tryz.prog 8 #[stV wl wr u.c] v fun e w' => e = .returned (.int .i64 u.ls.length) ∧ Fr W B X Y Z lm rm s wl wr u a0 a1 a2 a3 a4 w' :=
  (leases_calls h.wst hI u.c).mono fun _ _ ⟨he, hb⟩ => ⟨he, h.below hb⟩
theorem fr_retire (h : Fr W B X Y Z lm rm s wl wr u a0 a1 a2 a3 a4 v) (id : Int) :
    Calls Tryz.prog 9 #[stV lm rm s.c, .int .u64 id] v fun x w' => ∃ lm' rm', x = .returned (.tuple #[stV lm' rm' (s.Retire id).1.c, .int .i64 (s.Retire id).2]) ∧ StAt w' lm' rm' (s.Retire id).1 ∧ Fr W B X Y Z lm rm s wl wr u a0 a1 a2 a3 a4 w' :=
  (Retire_calls h.st id).mono fun _ _ ⟨lm', rm', he, hs, hb⟩ => ⟨lm', rm', he, hs, h.below hb⟩
theorem fr_point (h : Fr W B X Y Z lm rm s wl wr u a0 a1 a2 a3 a4 v) (hI : s.Inv) (t op id e : Int) :
    Calls Tryz.prog 10 #[stV lm rm s.c, .int .i64 t, .int .i64 op, .int .u64 id, .int .i64 e] v fun x w' => ∃ lm' rm', x = .returned (.tuple #[stV lm' rm' (s.Point t op id e).1.c, .int .i64 (s.Point t op id e).2]) ∧ StAt w' lm' rm' (s.Point t op id e).1 ∧ Fr W B X Y Z lm rm s wl wr u a0 a1 a2 a3 a4 w' :=
  (Point_calls h.st hI t op id e).mono fun _ _ ⟨lm', rm', he, hs, hb⟩ => ⟨lm', rm', he, hs, h.below hb⟩

/-- A round begins: the act, and the state as it was, lie in blocks of their own. -/
theorem Fr.start (low : Below B W v) (hB : B ≤ X) (cur : RowS v X lm rm s.c) (st : StAt v lm rm s) (a0 a1 a2 a3 : Int) (a4 : Bool) :
    Fr W B X (v.heap.size + 1) v.heap.size lm rm s lm rm s a0 a1 a2 a3 a4 ((v.alloc (.cells #[.int .i64 a0, .int .i64 a1, .int .u64 a2, .int .u8 a3, .bool a4] 30)).alloc (.cells #[.map lm, .map rm, .bool s.c] 27)) := by
  have b1 := below_alloc v (.cells #[.int .i64 a0, .int .i64 a1, .int .u64 a2, .int .u8 a3, .bool a4] 30)
  have b2 := below_alloc (v.alloc (.cells #[.int .i64 a0, .int .i64 a1, .int .u64 a2, .int .u8 a3, .bool a4] 30)) (.cells #[.map lm, .map rm, .bool s.c] 27)
  have hl := cur.lt
  have bb := b1.trans (b2.mono b1.size)
  refine ⟨low.trans (bb.mono (by omega)), hB, cur.below bb hl, st.below bb, ?_, ?_, st.below bb, by omega, by omega⟩
  · exact (b2.block v.heap.size (by simp)).trans (Go.MapKept.heap_alloc v _).1
  · have := RowS.new (v.alloc (.cells #[.int .i64 a0, .int .i64 a1, .int .u64 a2, .int .u8 a3, .bool a4] 30)) lm rm s.c
    simpa using this

end Go.Proofs.YthpfbljbifcaoaaGreatDoor
