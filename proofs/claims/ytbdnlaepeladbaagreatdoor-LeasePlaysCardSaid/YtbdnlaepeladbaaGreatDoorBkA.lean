/- What a book of leases does, as lists; how it lies in memory; Begin. Conditions: how the book lies in memory. -/
import Derived.Test.YtbdnlaepeladbaaGreatDoorMo
import Derived.Test.YtbdnlaepeladbaaGreatDoorProg
import Derived.WalkKit
import Derived.ProofKit
import Derived.OpenShut
import Derived.LoopN
import Derived.KernelRfl
import Derived.WalkSmall
import Derived.LoopTactic
import Derived.OwnWalk
import Derived.Deep.LoopGhost
import Derived.Deep.DeepCutAuto
import Derived.StillTailTactics
import Derived.Deep.Cut
namespace Go.Eng

/-! ### what a book of leases does, as lists -/

/-- A lease. -/
structure Le where
  thread : Int
  since : Int
  fl : Bool

/-- A book. -/
structure BK where
  leak : Int
  ls : List (Int × Le)
  ms : List (Int × Bool)
  tm : List (Int × Int)

def maxT : Int := 1152921504606846976
/-- Two together, as a tick. -/
def addT (a b : Int) : Int := min a maxT + min b (maxT - min a maxT)

def BK.arm (B : BK) (key a : Int) : BK × Int :=
  if aget key B.tm = none ∧ 1024 ≤ B.tm.length then (B, 11) else ({ B with tm := aput key (addT a 0) B.tm }, 0)

def BK.begin (B : BK) (id t now : Int) : BK × Int :=
  if t < 0 ∨ 7 < t then (B, 2)
  else if (aget id B.ls).isSome then (B, 10)
  else if 1024 ≤ B.ls.length then (B, 11)
  else if 0 < B.leak then BK.arm { B with ls := aput id ⟨t, now, false⟩ B.ls } id (addT now B.leak)
  else ({ B with ls := aput id ⟨t, now, false⟩ B.ls }, 0)

def BK.holds (B : BK) (id t : Int) : Bool := match aget id B.ls with
  | some x => decide (x.thread = t)
  | none => false

def BK.end_ (B : BK) (id t : Int) : BK × Int := if B.holds id t then ({ B with ls := adel id B.ls, tm := adel id B.tm }, 0) else (B, 5)
def BK.mark (B : BK) (id t : Int) : BK × Int := if B.holds id t then ({ B with ms := aput id true B.ms }, 0) else (B, 5)

def flag1 (ls : List (Int × Le)) (id : Int) : List (Int × Le) := aput id { (aget id ls).getD ⟨0, 0, false⟩ with fl := true } ls
def flagAll (D : List Int) (ls : List (Int × Le)) : List (Int × Le) := D.foldl flag1 ls
def delAll (D : List Int) (tm : List (Int × Int)) : List (Int × Int) := D.foldl (fun l id => adel id l) tm

def BK.leaks (B : BK) (D : List Int) : BK := { B with ls := flagAll D B.ls, tm := delAll D B.tm }

/-- By ticks, and then by keys. -/
def KeyLe (tm : List (Int × Int)) (i j : Int) : Prop := (aget i tm).getD 0 < (aget j tm).getD 0 ∨ ((aget i tm).getD 0 = (aget j tm).getD 0 ∧ i ≤ j)

theorem KeyLe.le {tm : List (Int × Int)} {i j : Int} (h : KeyLe tm i j) : (aget i tm).getD 0 ≤ (aget j tm).getD 0 := by
  unfold KeyLe at h
  omega

/-- Which are due, in their order. -/
def IsDue (tm : List (Int × Int)) (now : Int) (D : List Int) : Prop := D.Nodup ∧ (∀ id, id ∈ D ↔ ∃ a, aget id tm = some a ∧ a ≤ now) ∧ D.Pairwise (KeyLe tm)

theorem delAll_get (D : List Int) : ∀ {tm : List (Int × Int)}, Keys1 tm → Keys1 (delAll D tm) ∧ ∀ i, aget i (delAll D tm) = if i ∈ D then none else aget i tm := by
  induction D with
  | nil => intro tm h; exact ⟨h, fun i => by simp [delAll]⟩
  | cons d D ih =>
    intro tm h
    obtain ⟨h1, h2⟩ := ih (h.del d)
    refine ⟨h1, fun i => ?_⟩
    show aget i (delAll D (adel d tm)) = _
    rw [h2 i, aget_adel h]
    by_cases e : i ∈ D
    · simp [e]
    · by_cases e2 : i = d
      · simp [e2]
      · simp [e, e2]

theorem flagAll_get (D : List Int) : ∀ {ls : List (Int × Le)}, Keys1 ls → (∀ id ∈ D, (aget id ls).isSome) → Keys1 (flagAll D ls) ∧ (flagAll D ls).length = ls.length ∧ ∀ i, aget i (flagAll D ls) = if i ∈ D then (aget i ls).map (fun x => { x with fl := true }) else aget i ls := by
  induction D with
  | nil => intro ls h _; exact ⟨h, rfl, fun i => by simp [flagAll]⟩
  | cons d D ih =>
    intro ls h hs
    have hd := hs d (List.mem_cons_self ..)
    obtain ⟨x, hx⟩ := Option.isSome_iff_exists.1 hd
    have e1 : flag1 ls d = aput d { x with fl := true } ls := by unfold flag1; rw [hx]; rfl
    have hk : Keys1 (flag1 ls d) := by rw [e1]; exact h.put _ _
    have hg : ∀ i, aget i (flag1 ls d) = if i = d then some { x with fl := true } else aget i ls := fun i => by rw [e1, aget_aput']
    obtain ⟨h1, h2, h3⟩ := ih hk (fun id hid => by rw [hg id]; split; rfl; exact hs id (List.mem_cons_of_mem _ hid))
    refine ⟨h1, ?_, fun i => ?_⟩
    · show (flagAll D (flag1 ls d)).length = _
      rw [h2, e1, length_aput, hx]; rfl
    · show aget i (flagAll D (flag1 ls d)) = _
      rw [h3 i, hg i]
      by_cases e2 : i = d
      · subst e2
        simp [hx]
      · simp [e2]

/-- What holds of a book behind whatever was done with it, at ticks up to 2^59. -/
structure BK.Inv (B : BK) : Prop where
  kl : Keys1 B.ls
  kt : Keys1 B.tm
  th : ∀ id x, aget id B.ls = some x → 0 ≤ x.thread ∧ x.thread ≤ 7 ∧ 0 ≤ x.since ∧ x.since ≤ 576460752303423488
  z : B.leak = 0 → B.tm = [] ∧ ∀ id x, aget id B.ls = some x → x.fl = false
  tl : 0 < B.leak → ∀ id a, aget id B.tm = some a → ∃ x, aget id B.ls = some x ∧ x.fl = false ∧ a = x.since + B.leak
  lt : 0 < B.leak → ∀ id x, aget id B.ls = some x → x.fl = false → ∃ a, aget id B.tm = some a
  l0 : 0 ≤ B.leak
  l1 : B.leak ≤ 576460752303423488

theorem BK.inv0 {leak : Int} (h0 : 0 ≤ leak) (h1 : leak ≤ 576460752303423488) : BK.Inv ⟨leak, [], [], []⟩ :=
  ⟨List.Pairwise.nil, List.Pairwise.nil, fun id x h => by simp [aget] at h, fun _ => ⟨rfl, fun id x h => by simp [aget] at h⟩, fun _ id a h => by simp [aget] at h, fun _ id x h => by simp [aget] at h, h0, h1⟩

theorem addT_small {a b : Int} (ha : 0 ≤ a) (ha1 : a ≤ 576460752303423488) (hb : 0 ≤ b) (hb1 : b ≤ 576460752303423488) : addT (addT a b) 0 = a + b := by
  unfold addT maxT
  omega

theorem aget_len {β : Type} {i : Int} : ∀ {es : List (Int × β)}, (aget i es).isSome → 0 < es.length
  | [], h => by simp [aget] at h
  | _ :: _, _ => by simp

/-- Two maps with the same keys are of one length; one whose keys are among the other's is no longer. -/
theorem keys_le {β γ : Type} : ∀ {xs : List (Int × β)} {ys : List (Int × γ)}, Keys1 xs → Keys1 ys → (∀ i, (aget i xs).isSome → (aget i ys).isSome) → xs.length ≤ ys.length
  | [], _, _, _, _ => Nat.zero_le _
  | q :: xs, ys, hx, hy, h => by
    have hq : (aget q.1 ys).isSome := h q.1 (by simp [aget])
    have ih := keys_le (xs := xs) (ys := adel q.1 ys) hx.tail (hy.del _) fun i hi => by
      rw [aget_adel hy]
      have hne : i ≠ q.1 := by
        rintro rfl
        rw [aget_head_none hx] at hi; cases hi
      rw [if_neg hne]
      refine h i ?_
      unfold aget
      rw [if_neg hne]; exact hi
    have hl := length_adel q.1 ys
    rw [if_pos hq] at hl
    have hpos := aget_len hq
    simp only [List.length_cons]
    omega

theorem BK.Inv.tm_le {B : BK} (h : B.Inv) : B.tm.length ≤ B.ls.length := by
  by_cases h0 : 0 < B.leak
  · refine keys_le h.kt h.kl fun i hi => ?_
    obtain ⟨a, ha⟩ := Option.isSome_iff_exists.1 hi
    obtain ⟨x, hx, _⟩ := h.tl h0 i a ha
    rw [hx]; rfl
  · have := h.l0
    rw [(h.z (by omega)).1]; exact Nat.zero_le _

theorem BK.begin_cases (B : BK) (h : B.Inv) (id t now : Int) (hn : 0 ≤ now ∧ now ≤ 576460752303423488) :
    ((B.begin id t now).1 = B ∧ (B.begin id t now).2 ≠ 0) ∨ ((B.begin id t now).2 = 0 ∧ aget id B.ls = none ∧ (B.begin id t now).1.Inv) := by
  unfold BK.begin
  by_cases h1 : t < 0 ∨ 7 < t
  · rw [if_pos h1]; exact .inl ⟨rfl, by simp⟩
  · rw [if_neg h1]
    by_cases h2 : (aget id B.ls).isSome = true
    · rw [if_pos h2]; exact .inl ⟨rfl, by simp⟩
    · rw [if_neg h2]
      have hnone : aget id B.ls = none := by simpa using h2
      by_cases h3 : 1024 ≤ B.ls.length
      · rw [if_pos h3]; exact .inl ⟨rfl, by simp⟩
      · rw [if_neg h3]
        have hth : ∀ i x, aget i (aput id ⟨t, now, false⟩ B.ls) = some x → 0 ≤ x.thread ∧ x.thread ≤ 7 ∧ 0 ≤ x.since ∧ x.since ≤ 576460752303423488 := by
          intro i x hx
          rw [aget_aput'] at hx
          split at hx
          · obtain rfl := Option.some.inj hx
            simp only; omega
          · exact h.th i x hx
        by_cases h4 : 0 < B.leak
        · rw [if_pos h4]
          unfold BK.arm
          have := h.tm_le
          rw [if_neg (by simp only; omega)]
          refine .inr ⟨rfl, hnone, h.kl.put _ _, h.kt.put _ _, hth, fun hz => by simp only at hz; omega, fun _ i a ha => ?_, fun _ i x hx hf => ?_, h.l0, h.l1⟩
          · simp only at ha ⊢
            rw [aget_aput'] at ha ⊢
            by_cases e : i = id
            · rw [if_pos e] at ha ⊢
              exact ⟨_, rfl, rfl, by rw [← Option.some.inj ha]; exact addT_small hn.1 hn.2 h.l0 h.l1⟩
            · rw [if_neg e] at ha ⊢
              exact h.tl h4 i a ha
          · simp only at hx ⊢
            rw [aget_aput'] at hx ⊢
            by_cases e : i = id
            · rw [if_pos e]; exact ⟨_, rfl⟩
            · rw [if_neg e] at hx ⊢
              exact h.lt h4 i x hx hf
        · rw [if_neg h4]
          have hl0 : B.leak = 0 := by have := h.l0; omega
          refine .inr ⟨rfl, hnone, h.kl.put _ _, h.kt, hth, fun _ => ⟨(h.z hl0).1, fun i x hx => ?_⟩, fun hz => by simp only at hz; omega, fun hz => by simp only at hz; omega, h.l0, h.l1⟩
          simp only at hx
          rw [aget_aput'] at hx
          split at hx
          · obtain rfl := Option.some.inj hx; rfl
          · exact (h.z hl0).2 i x hx

theorem BK.Inv.end_ {B : BK} (h : B.Inv) (id t : Int) : (B.end_ id t).1.Inv := by
  unfold BK.end_
  split
  · refine ⟨h.kl.del _, h.kt.del _, fun i x hx => ?_, fun hz => ⟨?_, fun i x hx => ?_⟩, fun h4 i a ha => ?_, fun h4 i x hx hf => ?_, h.l0, h.l1⟩
    · simp only at hx
      rw [aget_adel h.kl] at hx
      split at hx
      · cases hx
      · exact h.th i x hx
    · simp only; rw [(h.z hz).1]; rfl
    · simp only at hx
      rw [aget_adel h.kl] at hx
      split at hx
      · cases hx
      · exact (h.z hz).2 i x hx
    · simp only at ha ⊢
      rw [aget_adel h.kt] at ha
      rw [aget_adel h.kl]
      split at ha
      · cases ha
      · rename_i e; rw [if_neg e]; exact h.tl h4 i a ha
    · simp only at hx ⊢
      rw [aget_adel h.kl] at hx
      rw [aget_adel h.kt]
      split at hx
      · cases hx
      · rename_i e; rw [if_neg e]; exact h.lt h4 i x hx hf
  · exact h

theorem BK.Inv.mark {B : BK} (h : B.Inv) (id t : Int) : (B.mark id t).1.Inv := by
  unfold BK.mark
  split
  · exact ⟨h.kl, h.kt, h.th, h.z, h.tl, h.lt, h.l0, h.l1⟩
  · exact h

/-- Behind Leaks: what is flagged was held long enough. -/
theorem BK.Inv.leaks {B : BK} (h : B.Inv) {now : Int} {D : List Int} (hD : IsDue B.tm now D) :
    (B.leaks D).Inv ∧ ∀ id ∈ D, ∃ x, aget id (B.leaks D).ls = some x ∧ 0 < B.leak ∧ x.since + B.leak ≤ now := by
  have hpos : ∀ id ∈ D, 0 < B.leak := fun id hid => by
    obtain ⟨a, ha, _⟩ := (hD.2.1 id).1 hid
    have := h.l0
    refine Classical.byContradiction fun hn => ?_
    rw [(h.z (by omega)).1] at ha
    simp [aget] at ha
  have hin : ∀ id ∈ D, ∃ x, aget id B.ls = some x ∧ x.fl = false ∧ x.since + B.leak ≤ now := fun id hid => by
    obtain ⟨a, ha, hle⟩ := (hD.2.1 id).1 hid
    obtain ⟨x, hx, hf, rfl⟩ := h.tl (hpos id hid) id a ha
    exact ⟨x, hx, hf, hle⟩
  obtain ⟨f1, f2, f3⟩ := flagAll_get D h.kl fun id hid => by obtain ⟨x, hx, _⟩ := hin id hid; rw [hx]; rfl
  obtain ⟨d1, d2⟩ := delAll_get D h.kt
  refine ⟨⟨f1, d1, fun i x hx => ?_, fun hz => ?_, fun h4 i a ha => ?_, fun h4 i x hx hf => ?_, h.l0, h.l1⟩, fun id hid => ?_⟩
  · simp only [BK.leaks] at hx
    rw [f3] at hx
    split at hx
    · cases hg : aget i B.ls with
      | none => rw [hg] at hx; cases hx
      | some y =>
        rw [hg] at hx
        obtain rfl := Option.some.inj hx
        exact h.th i y hg
    · exact h.th i x hx
  · have hz' : B.leak = 0 := hz
    have hnil : D = [] := by
      cases D with
      | nil => rfl
      | cons d D => have := hpos d (List.mem_cons_self ..); omega
    subst hnil
    exact h.z hz'
  · simp only [BK.leaks] at ha ⊢
    rw [d2] at ha
    rw [f3]
    split at ha
    · cases ha
    · rename_i e; rw [if_neg e]; exact h.tl h4 i a ha
  · simp only [BK.leaks] at hx ⊢
    rw [f3] at hx
    rw [d2]
    split at hx
    · cases hg : aget i B.ls with
      | none => rw [hg] at hx; cases hx
      | some y =>
        rw [hg] at hx
        obtain rfl := Option.some.inj hx
        cases hf
    · rename_i e; rw [if_neg e]; exact h.lt h4 i x hx hf
  · obtain ⟨x, hx, hf, hle⟩ := hin id hid
    refine ⟨{ x with fl := true }, ?_, hpos id hid, hle⟩
    simp only [BK.leaks]
    rw [f3, if_pos hid, hx]; rfl

/-! ### how many -/

def heldN (ls : List (Int × Le)) (t : Int) : Nat := (ls.filter fun p => p.2.thread == t).length
def flaggedN (ls : List (Int × Le)) : Nat := (ls.filter fun p => p.2.fl).length
def cntN (ls : List (Int × Le)) (t : Nat) : Nat := (ls.filter fun p => decide (0 ≤ p.2.thread) && decide (p.2.thread < (t : Int))).length

theorem cntN_zero (ls : List (Int × Le)) : cntN ls 0 = 0 := by
  unfold cntN
  rw [List.length_eq_zero_iff, List.filter_eq_nil_iff]
  intro p _
  simp
theorem cntN_succ (ls : List (Int × Le)) (t : Nat) : cntN ls (t + 1) = cntN ls t + heldN ls t := by
  unfold cntN heldN
  induction ls with
  | nil => rfl
  | cons p l ih =>
    rcases Int.lt_trichotomy p.2.thread t with h | h | h
    · by_cases h0 : 0 ≤ p.2.thread
      · rw [List.filter_cons_of_pos (by simp; omega), List.filter_cons_of_pos (by simp; omega), List.filter_cons_of_neg (by simp; omega)]
        simp only [List.length_cons]; omega
      · rw [List.filter_cons_of_neg (by simp; omega), List.filter_cons_of_neg (by simp; omega), List.filter_cons_of_neg (by simp; omega)]
        exact ih
    · rw [List.filter_cons_of_pos (by simp; omega), List.filter_cons_of_neg (by simp; omega), List.filter_cons_of_pos (by simp; omega)]
      simp only [List.length_cons]; omega
    · rw [List.filter_cons_of_neg (by simp; omega), List.filter_cons_of_neg (by simp; omega), List.filter_cons_of_neg (by simp; omega)]
      exact ih
theorem BK.Inv.cnt {B : BK} (h : B.Inv) : cntN B.ls 8 = B.ls.length := by
  unfold cntN
  rw [List.filter_eq_self.2]
  intro p hp
  have := h.th p.1 p.2 (h.kl.get hp)
  simp; omega

theorem filter_split (ls : List (Int × Le)) : (ls.filter fun p => !p.2.fl).length + flaggedN ls = ls.length := by
  unfold flaggedN
  induction ls with
  | nil => rfl
  | cons p l ih =>
    simp only [List.filter_cons]
    cases p.2.fl <;> simp <;> omega

theorem aget_filter {β : Type} (f : Int × β → Bool) {i : Int} : ∀ {es : List (Int × β)}, Keys1 es → aget i (es.filter f) = match aget i es with
    | some x => if f (i, x) then some x else none
    | none => none
  | [], _ => rfl
  | p :: l, h => by
    have ih := aget_filter f (i := i) h.tail
    by_cases e : i = p.1
    · subst e
      cases hf : f p with
      | true => rw [List.filter_cons_of_pos hf]; simp [aget, hf]
      | false =>
        rw [List.filter_cons_of_neg (by simp [hf]), ih, aget_head_none h]
        simp [aget, hf]
    · cases hf : f p with
      | true => rw [List.filter_cons_of_pos hf]; unfold aget; rw [if_neg e, if_neg e]; exact ih
      | false => rw [List.filter_cons_of_neg (by simp [hf])]; rw [ih]; conv => rhs; unfold aget; rw [if_neg e]

theorem BK.Inv.timers {B : BK} (h : B.Inv) : B.tm.length + flaggedN B.ls ≤ B.ls.length ∧ (0 < B.leak → B.tm.length + flaggedN B.ls = B.ls.length) := by
  have hs := filter_split B.ls
  have hkf : Keys1 (B.ls.filter fun p => !p.2.fl) := List.Pairwise.filter _ h.kl
  have key : 0 < B.leak → B.tm.length = (B.ls.filter fun p => !p.2.fl).length := fun h4 => by
    refine Nat.le_antisymm (keys_le h.kt hkf fun i hi => ?_) (keys_le hkf h.kt fun i hi => ?_)
    · obtain ⟨a, ha⟩ := Option.isSome_iff_exists.1 hi
      obtain ⟨x, hx, hf, _⟩ := h.tl h4 i a ha
      rw [aget_filter _ h.kl, hx]
      simp [hf]
    · rw [aget_filter _ h.kl] at hi
      cases hx : aget i B.ls with
      | none => rw [hx] at hi; cases hi
      | some x =>
        rw [hx] at hi
        cases hf : x.fl with
        | true => simp [hf] at hi
        | false =>
          obtain ⟨a, ha⟩ := h.lt h4 i x hx hf
          rw [ha]; rfl
  by_cases h4 : 0 < B.leak
  · have := key h4
    exact ⟨by omega, fun _ => by omega⟩
  · have hl0 : B.leak = 0 := by have := h.l0; omega
    rw [(h.z hl0).1]
    simp only [List.length_nil, Nat.zero_add]
    exact ⟨by omega, fun hh => absurd hh h4⟩

end Go.Eng

namespace Go.Proofs.YtbdnlaepeladbaaGreatDoor
open Go.ChangeShapes Go.WideShapes Go.ChangeAt Go.RowKit Go.Eng

/-! ### a book in memory -/

theorem aside_of {p : Prop} (h : p) : Aside p := h

/-- All that was there is as it was, but for the blocks that S names. -/
structure Upto (S : Nat → Prop) (w w' : World) : Prop where
  os : w'.os = w.os
  tape : w'.tape = w.tape
  output : w'.output = w.output
  size : w.heap.size ≤ w'.heap.size
  block : ∀ k, k < w.heap.size → ¬ S k → w'.heap[k]? = w.heap[k]?

theorem Upto.of_below {S : Nat → Prop} {w w' : World} (h : Below w.heap.size w w') : Upto S w w' := ⟨h.os, h.tape, h.output, h.size, fun k hk _ => h.block k hk⟩
theorem Upto.below {S : Nat → Prop} {w w' : World} {B : Nat} (h : Upto S w w') (hB : B ≤ w.heap.size) (hS : ∀ k, S k → B ≤ k) : Below B w w' :=
  ⟨h.os, h.tape, h.output, h.size, fun k hk => h.block k (by omega) (fun s => by have := hS k s; omega)⟩
theorem Upto.trans {S : Nat → Prop} {a b c : World} (h : Upto S a b) (k : Upto S b c) : Upto S a c :=
  ⟨k.os.trans h.os, k.tape.trans h.tape, k.output.trans h.output, Nat.le_trans h.size k.size, fun j hj hs => (k.block j (Nat.lt_of_lt_of_le hj h.size) hs).trans (h.block j hj hs)⟩
theorem Upto.mono {S T : Nat → Prop} {a b : World} (h : Upto S a b) (hs : ∀ k, S k → T k) : Upto T a b := ⟨h.os, h.tape, h.output, h.size, fun j hj ht => h.block j hj fun s => ht (hs j s)⟩
theorem Upto.put {S : Nat → Prop} {a b : World} (h : Upto S a b) {m : Nat} (hm : S m) (o : Obj) : Upto S a { b with heap := b.heap.setIfInBounds m o } :=
  ⟨h.os, h.tape, h.output, by simpa using h.size, fun j hj hs => by
    have hne : m ≠ j := by rintro rfl; exact hs hm
    simp only [Array.getElem?_setIfInBounds, if_neg hne]
    exact h.block j hj hs⟩
theorem Upto.refl {S : Nat → Prop} (w : World) : Upto S w w := ⟨rfl, rfl, rfl, Nat.le_refl _, fun _ _ _ => rfl⟩

theorem below_alloc (w : World) (o : Obj) : Below w.heap.size w (w.alloc o) := (Below.refl _ w).alloc (Nat.le_refl _) o

abbrev leV (x : Le) : Value := .agg #[.int .i64 x.thread, .int .u64 x.since, .bool x.fl]
def bV (x : Bool) : Value := .bool x
def uV (x : Int) : Value := .int .u64 x

/-- A wheel in block wl, its map in mt. -/
structure WhAt (w : World) (wl mt : Nat) (tm : List (Int × Int)) : Prop where
  row : w.heap[wl]? = some (.cells #[.map (some mt)] 235 (0, 0))
  tt : MapSt .u64 uV w mt tm
  kt : Keys1 tm

/-- A book in block b. -/
structure BkAt (w : World) (b ml mm wl mt : Nat) (B : BK) : Prop where
  row : w.heap[b]? = some (.cells #[.int .u64 B.leak, .map (some ml), .map (some mm), .pointer (some ⟨wl, 0, none⟩)] 135 (0, 0))
  ls : MapSt .u64 leV w ml B.ls
  kl : Keys1 B.ls
  ms : MapSt .u64 bV w mm B.ms
  km : Keys1 B.ms
  wh : WhAt w wl mt B.tm
  lm : ml ≠ mm
  lt : ml ≠ mt
  mt : mm ≠ mt

variable {w w' : World} {b ml mm wl mt : Nat} {B : BK} {tm : List (Int × Int)}

theorem WhAt.lt (h : WhAt w wl mt tm) : wl < w.heap.size := (Array.getElem?_eq_some_iff.1 h.row).1
theorem WhAt.below (h : WhAt w wl mt tm) (hb : Below w.heap.size w w') : WhAt w' wl mt tm := ⟨(hb.block wl h.lt).trans h.row, h.tt.below hb h.tt.lt, h.kt⟩
theorem WhAt.q0 (h : WhAt w wl mt tm) : w.cell? ⟨wl, 0, none⟩ = some (.map (some mt)) := by simp [World.cell?, h.row]
theorem BkAt.blt (h : BkAt w b ml mm wl mt B) : b < w.heap.size := (Array.getElem?_eq_some_iff.1 h.row).1
theorem BkAt.below (h : BkAt w b ml mm wl mt B) (hb : Below w.heap.size w w') : BkAt w' b ml mm wl mt B :=
  ⟨(hb.block b h.blt).trans h.row, h.ls.below hb h.ls.lt, h.kl, h.ms.below hb h.ms.lt, h.km, h.wh.below hb, h.lm, h.lt, h.mt⟩
theorem BkAt.grow (h : BkAt w b ml mm wl mt B) (o : Obj) : BkAt (w.alloc o) b ml mm wl mt B := h.below (below_alloc w o)
theorem BkAt.q0 (h : BkAt w b ml mm wl mt B) : w.cell? ⟨b, 0, none⟩ = some (.int .u64 B.leak) := by simp [World.cell?, h.row]
theorem BkAt.q1 (h : BkAt w b ml mm wl mt B) : w.cell? ⟨b, 1, none⟩ = some (.map (some ml)) := by simp [World.cell?, h.row]
theorem BkAt.q2 (h : BkAt w b ml mm wl mt B) : w.cell? ⟨b, 2, none⟩ = some (.map (some mm)) := by simp [World.cell?, h.row]
theorem BkAt.q3 (h : BkAt w b ml mm wl mt B) : w.cell? ⟨b, 3, none⟩ = some (.pointer (some ⟨wl, 0, none⟩)) := by simp [World.cell?, h.row]

/-- A map's block is none of cells. -/
theorem map_ne {β : Type} {V : β → Value} {k : IntKind} {es : List (Int × β)} {m j : Nat} {cs : Array Value} {t : TypeId} {fr : Nat × Nat} (h : MapSt k V w m es) (hj : w.heap[j]? = some (.cells cs t fr)) : m ≠ j := by
  rintro rfl
  obtain ⟨ms, c, h1, _⟩ := h
  rw [h1] at hj; simp at hj

theorem look_le (h : BkAt w b ml mm wl mt B) (id : Int) : (Instr.lookup 130 (.map (some ml)) (.int .u64 id) true).run Tryz.prog w = .ok (.tuple #[leV ((aget id B.ls).getD ⟨0, 0, false⟩), .bool (aget id B.ls).isSome]) w := by
  have := run_lookup_ents (P := Tryz.prog) Tryz.underlying130 Tryz.underlying22 Tryz.zeroValue137 h.ls.is id true
  rw [this]
  cases aget id B.ls with
  | none => rfl
  | some x => rfl

theorem look_tm (h : WhAt w wl mt tm) (id : Int) : (Instr.lookup 233 (.map (some mt)) (.int .u64 id) true).run Tryz.prog w = .ok (.tuple #[.int .u64 ((aget id tm).getD 0), .bool (aget id tm).isSome]) w := by
  have := run_lookup_ents (P := Tryz.prog) Tryz.underlying233 Tryz.underlying22 Tryz.zeroValue22 h.tt.is id true
  rw [this]
  cases aget id tm with
  | none => rfl
  | some x => rfl

/-! ### what a look tells -/

set_option maxRecDepth 100000 in
theorem get_calls (h : BkAt w b ml mm wl mt B) (id : Int) :
    Calls Tryz.prog 68 #[.pointer (some ⟨b, 0, none⟩), .int .u64 id] w fun e w' => e = .returned (.tuple #[leV ((aget id B.ls).getD ⟨0, 0, false⟩), .bool (aget id B.ls).isSome]) ∧ Below w.heap.size w w' := by
  have h1 := h.grow (.cells #[.int .i64 0, .int .u64 0, .bool false] 137)
  have hl := look_le h1 id
  have q1 := h1.q1
  have b1 := below_alloc w (.cells #[.int .i64 0, .int .u64 0, .bool false] 137)
  generalize (aget id B.ls).getD ⟨0, 0, false⟩ = x at hl ⊢
  generalize (aget id B.ls).isSome = ok at hl ⊢
  obtain ⟨x0, x1, x2⟩ := x
  clear h h1
  go_enter Tryz.func68, Tryz.ntmps68
  go_wp2
  refine bodyPost_ret (v := .tuple #[.agg #[.int .i64 x0, .int .u64 x1, .bool x2], .bool ok]) (by simp [results, Tryz.results68, go_sem]) rfl ⟨rfl, ?_⟩
  exact ((Below.refl _ w).alloc (Nat.le_refl _) _).alloc (by simp) _

set_option maxRecDepth 100000 in
theorem held_calls (h : BkAt w b ml mm wl mt B) (id t : Int) :
    Calls Tryz.prog 69 #[.pointer (some ⟨b, 0, none⟩), .int .u64 id, .int .i64 t] w fun e w' => e = .returned (.int .i64 (if B.holds id t then 0 else 5)) ∧ Below w.heap.size w w' := by
  have hg := get_calls h id
  unfold BK.holds
  clear h
  cases hx : aget id B.ls with
  | none =>
    rw [hx] at hg
    clear hx
    simp only [Option.getD_none, Option.isSome_none] at hg
    go_enter Tryz.func69, Tryz.ntmps69
    go_wp2_with (go_at_call 68; with_reducible refine hg.mono ?_; clear hg; rintro e w1 ⟨he, b1⟩; subst he)
    go_ret
    exact ⟨rfl, b1.alloc b1.size _⟩
  | some x =>
    rw [hx] at hg
    clear hx
    simp only [Option.getD_some, Option.isSome_some] at hg
    obtain ⟨x0, x1, x2⟩ := x
    by_cases ht : x0 = t
    · have hb : (x0 != t) = false := by simpa using ht
      simp only [ht, decide_true, if_true]
      clear ht
      go_enter Tryz.func69, Tryz.ntmps69
      go_wp2_with (go_at_call 68; with_reducible refine hg.mono ?_; clear hg; rintro e w1 ⟨he, b1⟩; subst he)
      go_ret
      exact ⟨rfl, b1.alloc b1.size _⟩
    · have hb : (x0 != t) = true := by simpa using ht
      simp only [ht, decide_false]
      clear ht
      go_enter Tryz.func69, Tryz.ntmps69
      go_wp2_with (go_at_call 68; with_reducible refine hg.mono ?_; clear hg; rintro e w1 ⟨he, b1⟩; subst he)
      go_ret
      exact ⟨by simp, b1.alloc b1.size _⟩

set_option maxRecDepth 100000 in
theorem holder_calls (h : BkAt w b ml mm wl mt B) (id : Int) :
    Calls Tryz.prog 10 #[.pointer (some ⟨b, 0, none⟩), .int .u64 id] w fun e w' => e = .returned (.tuple #[.int .i64 ((aget id B.ls).getD ⟨0, 0, false⟩).thread, .bool (aget id B.ls).isSome]) ∧ Below w.heap.size w w' := by
  have hg := get_calls h id
  generalize (aget id B.ls).getD ⟨0, 0, false⟩ = x at hg ⊢
  generalize (aget id B.ls).isSome = ok at hg ⊢
  obtain ⟨x0, x1, x2⟩ := x
  clear h
  go_enter Tryz.func10, Tryz.ntmps10
  go_wp2_with (go_at_call 68; with_reducible refine hg.mono ?_; clear hg; rintro e w1 ⟨he, b1⟩; subst he)
  refine bodyPost_ret (v := .tuple #[.int .i64 x0, .bool ok]) (by simp [results, Tryz.results10, go_sem]) rfl ⟨rfl, b1.alloc b1.size _⟩

set_option maxRecDepth 100000 in
theorem at_calls (h : WhAt w wl mt tm) (id : Int) :
    Calls Tryz.prog 159 #[.pointer (some ⟨wl, 0, none⟩), .int .u64 id] w fun e w' => e = .returned (.tuple #[.int .u64 ((aget id tm).getD 0), .bool (aget id tm).isSome]) ∧ w' = w := by
  have hl := look_tm h id
  have q0 := h.q0
  generalize (aget id tm).getD 0 = x at hl ⊢
  generalize (aget id tm).isSome = ok at hl ⊢
  clear h
  go_enter Tryz.func159, Tryz.ntmps159
  go_wp2
  refine bodyPost_ret (v := .tuple #[.int .u64 x, .bool ok]) (by simp [results, Tryz.results159, go_sem]) rfl ⟨rfl, rfl⟩

/-- A wheel's map is turned. -/
theorem WhAt.put {ms : List MapEntry} {c : Nat} {tm' : List (Int × Int)} (h : WhAt w wl mt tm) (he : EntsR .u64 uV ms tm') (hs : Stamped ms c) (hk : Keys1 tm') : WhAt { w with heap := w.heap.setIfInBounds mt (.map ms.toArray c) } wl mt tm' := by
  refine ⟨?_, MapSt.put h.tt.lt he hs, hk⟩
  show (w.heap.setIfInBounds mt _)[wl]? = _
  rw [Array.getElem?_setIfInBounds, if_neg (map_ne h.tt h.row)]
  exact h.row

/-- Another map is turned. -/
theorem WhAt.off {β : Type} {V : β → Value} {k : IntKind} {es : List (Int × β)} {m : Nat} (h : WhAt w wl mt tm) (hm : MapSt k V w m es) (hne : m ≠ mt) (o : Obj) : WhAt { w with heap := w.heap.setIfInBounds m o } wl mt tm := by
  refine ⟨?_, h.tt.same ?_, h.kt⟩
  · show (w.heap.setIfInBounds m _)[wl]? = _
    rw [Array.getElem?_setIfInBounds, if_neg (map_ne hm h.row)]
    exact h.row
  · show (w.heap.setIfInBounds m _)[mt]? = _
    rw [Array.getElem?_setIfInBounds, if_neg hne]

set_option maxRecDepth 100000 in
theorem disarm_calls (h : WhAt w wl mt tm) (id : Int) :
    Calls Tryz.prog 70 #[.pointer (some ⟨wl, 0, none⟩), .int .u64 id] w fun e w' => e = .returned (.bool (aget id tm).isSome) ∧ WhAt w' wl mt (adel id tm) ∧ Upto (fun k => k = mt) w w' := by
  have ha := at_calls h id
  have q0 := h.q0
  obtain ⟨ms, ck, hmu, he, hs⟩ := run_delete_st (P := Tryz.prog) (s := 22) (ty := 0) Tryz.underlying233 Tryz.underlying22 h.tt id
  have hP := h.put he hs (h.kt.del id)
  have hu : Upto (fun k => k = mt) w { w with heap := w.heap.setIfInBounds mt (.map ms.toArray ck) } := Upto.put (S := fun k => k = mt) (Upto.refl w) rfl _
  generalize ({ w with heap := w.heap.setIfInBounds mt (.map ms.toArray ck) } : World) = w2 at hmu hP hu
  have hn := @adel_none _ id tm
  cases hx : aget id tm with
  | none =>
    rw [hx] at ha
    simp only [Option.isSome_none] at ha
    rw [hn hx]
    clear hx hn hP hu hmu
    have HH := aside_of h
    clear h
    go_enter Tryz.func70, Tryz.ntmps70
    go_wp2_with (go_at_call 159; with_reducible refine ha.mono ?_; clear ha; rintro e w1 ⟨he, hw⟩; subst he; subst hw)
    go_ret
    exact ⟨rfl, HH.out, Upto.refl _⟩
  | some x =>
    rw [hx] at ha
    simp only [Option.isSome_some] at ha
    clear hx hn h
    go_enter Tryz.func70, Tryz.ntmps70
    go_wp2_with (go_at_call 159; with_reducible refine ha.mono ?_; clear ha; rintro e w1 ⟨he, hw⟩; subst he; subst hw)
    go_ret
    exact ⟨rfl, hP, hu⟩

end Go.Proofs.YtbdnlaepeladbaaGreatDoor

namespace Go.Proofs.YtbdnlaepeladbaaGreatDoor
open Go.ChangeShapes Go.WideShapes Go.ChangeAt Go.RowKit Go.Eng

variable {w w' : World} {b ml mm wl mt : Nat} {B : BK} {tm : List (Int × Int)}

def U64 (x : Int) : Prop := 0 ≤ x ∧ x < 18446744073709551616

set_option maxRecDepth 100000 in
theorem add_calls (w : World) {a c : Int} (ha : U64 a) (hc : U64 c) :
    Calls Tryz.prog 73 #[.int .u64 a, .int .u64 c] w fun e w' => e = .returned (.int .u64 (addT a c)) ∧ w' = w := by
  obtain ⟨a0, a1⟩ := ha
  obtain ⟨c0, c1⟩ := hc
  have key : ∀ X : Int, X = addT a c → (Ending.returned (.int .u64 X)) = .returned (.int .u64 (addT a c)) := by rintro X rfl; rfl
  go_enter Tryz.func73, Tryz.ntmps73
  go_wp2
  all_goals
    go_ret
    exact ⟨key _ (by unfold addT maxT; omega), rfl⟩

theorem len_tm (h : WhAt w wl mt tm) : (Builtin.len_ #[233] 3 #[.map (some mt)]).run Tryz.prog w = .ok (.int .i64 tm.length) w :=
  run_len_v Tryz.underlying233 (.inr ⟨mt, rfl, h.tt⟩)
theorem len_ls (h : BkAt w b ml mm wl mt B) : (Builtin.len_ #[130] 3 #[.map (some ml)]).run Tryz.prog w = .ok (.int .i64 B.ls.length) w :=
  run_len_v Tryz.underlying130 (.inr ⟨ml, rfl, h.ls⟩)

theorem below_drew (w : World) : Below w.heap.size w w.drew := ⟨rfl, rfl, rfl, Nat.le_refl _, fun _ _ => rfl⟩

/-- A key's timer, armed. -/
def armT (tm : List (Int × Int)) (key a : Int) : List (Int × Int) × Int := if aget key tm = none ∧ 1024 ≤ tm.length then (tm, 11) else (aput key (addT a 0) tm, 0)

set_option maxHeartbeats 1000000 in
set_option maxRecDepth 1000000 in
theorem arm_calls (h : WhAt w wl mt tm) (key : Int) {a : Int} (ha : U64 a) :
    Calls Tryz.prog 72 #[.pointer (some ⟨wl, 0, none⟩), .int .u64 key, .int .u64 a] w fun e w' => e = .returned (.int .i64 (armT tm key a).2) ∧ WhAt w' wl mt (armT tm key a).1 ∧ Upto (fun k => k = mt) w w' := by
  have hl := look_tm h key
  have hlen := len_tm h
  have q0 := h.q0
  have hd := h.below (below_drew w)
  have hadd := add_calls w.drew ha (c := 0) ⟨by omega, by omega⟩
  obtain ⟨ms, ck, hmu, he, hs⟩ := run_mapUpdate_st (P := Tryz.prog) Tryz.underlying233 Tryz.underlying22 hd.tt key (addT a 0)
  have hP := hd.put he hs (h.kt.put key (addT a 0))
  have hu : Upto (fun k => k = mt) w { w.drew with heap := w.drew.heap.setIfInBounds mt (.map ms.toArray ck) } := Upto.put (S := fun k => k = mt) (Upto.of_below (below_drew w)) rfl _
  simp only [uV] at hmu
  generalize ({ w.drew with heap := w.drew.heap.setIfInBounds mt (.map ms.toArray ck) } : World) = w2 at hmu hP hu
  have HF := aside_of (⟨hP, hu⟩ : WhAt w2 wl mt (aput key (addT a 0) tm) ∧ Upto (fun k => k = mt) w w2)
  have H0 := aside_of h
  have hq0 : w.drew.cell? ⟨wl, 0, none⟩ = some (.map (some mt)) := hd.q0
  clear hP hu hd he hs h
  unfold armT
  generalize addT a 0 = y at hadd hmu HF ⊢
  generalize hz : tm.length = z at hlen
  cases hx : aget key tm with
  | none =>
    rw [hx] at hl
    simp only [Option.getD_none, Option.isSome_none] at hl
    by_cases hz' : 1024 ≤ z
    · rw [if_pos ⟨rfl, hz'⟩]
      have hzi : (1024 : Int) ≤ (z : Int) := by omega
      clear hx hz hmu hadd HF
      go_enter Tryz.func72, Tryz.ntmps72
      go_wp2
      go_ret
      exact ⟨rfl, H0.out, Upto.refl _⟩
    · rw [if_neg (fun h => hz' h.2)]
      have hzi : ¬ (1024 : Int) ≤ (z : Int) := by omega
      clear hx hz H0
      go_enter Tryz.func72, Tryz.ntmps72
      go_upto_region 6 with fail
      refine wp_region_still_tail 7 (by kernel_rfl) (by kernel_rfl) ?_
      simp only [List.take_succ_cons, List.take_zero, List.drop_succ_cons, List.drop_zero]
      still_step
      still_step
      still_step
      still_step
      still_step
      still_step
      still_call hadd
      refine wpStill_nil ?_
      change wpList _ _ _ _ _ w.drew
      go_wp2
      go_ret
      exact ⟨rfl, HF.out.1, HF.out.2⟩
  | some x =>
    rw [hx] at hl
    simp only [Option.getD_some, Option.isSome_some] at hl
    rw [if_neg (fun h => by cases h.1)]
    clear hx hz H0 hlen
    go_enter Tryz.func72, Tryz.ntmps72
    go_upto_region 6 with fail
    refine wp_region_still_tail 7 (by kernel_rfl) (by kernel_rfl) ?_
    simp only [List.take_succ_cons, List.take_zero, List.drop_succ_cons, List.drop_zero]
    still_step
    still_step
    still_step
    still_step
    still_step
    still_step
    still_call hadd
    refine wpStill_nil ?_
    change wpList _ _ _ _ _ w.drew
    go_wp2
    go_ret
    exact ⟨rfl, HF.out.1, HF.out.2⟩

end Go.Proofs.YtbdnlaepeladbaaGreatDoor

namespace Go.Proofs.YtbdnlaepeladbaaGreatDoor
open Go.ChangeShapes Go.WideShapes Go.ChangeAt Go.RowKit Go.Eng

variable {w w' : World} {b ml mm wl mt : Nat} {B : BK} {tm : List (Int × Int)}

theorem MapSt.off {β γ : Type} {V : β → Value} {U : γ → Value} {k q : IntKind} {es : List (Int × β)} {fs : List (Int × γ)} {m j : Nat} (h : MapSt k V w m es) (_hj : MapSt q U w j fs) (hne : j ≠ m) (o : Obj) : MapSt k V { w with heap := w.heap.setIfInBounds j o } m es := h.same (by
  show (w.heap.setIfInBounds j _)[m]? = _
  rw [Array.getElem?_setIfInBounds, if_neg hne])

theorem BkAt.putL {ms : List MapEntry} {c : Nat} {ls' : List (Int × Le)} (h : BkAt w b ml mm wl mt B) (he : EntsR .u64 leV ms ls') (hs : Stamped ms c) (hk : Keys1 ls') : BkAt { w with heap := w.heap.setIfInBounds ml (.map ms.toArray c) } b ml mm wl mt { B with ls := ls' } := by
  refine ⟨?_, MapSt.put h.ls.lt he hs, hk, MapSt.off h.ms h.ls h.lm _, h.km, h.wh.off h.ls h.lt _, h.lm, h.lt, h.mt⟩
  show (w.heap.setIfInBounds ml _)[b]? = _
  rw [Array.getElem?_setIfInBounds, if_neg (map_ne h.ls h.row)]
  exact h.row

theorem BkAt.putM {ms : List MapEntry} {c : Nat} {ms' : List (Int × Bool)} (h : BkAt w b ml mm wl mt B) (he : EntsR .u64 bV ms ms') (hs : Stamped ms c) (hk : Keys1 ms') : BkAt { w with heap := w.heap.setIfInBounds mm (.map ms.toArray c) } b ml mm wl mt { B with ms := ms' } := by
  refine ⟨?_, MapSt.off h.ls h.ms (fun e => h.lm e.symm) _, h.kl, MapSt.put h.ms.lt he hs, hk, h.wh.off h.ms h.mt _, h.lm, h.lt, h.mt⟩
  show (w.heap.setIfInBounds mm _)[b]? = _
  rw [Array.getElem?_setIfInBounds, if_neg (map_ne h.ms h.row)]
  exact h.row

/-- The wheel was turned. -/
theorem BkAt.setW (h : BkAt w b ml mm wl mt B) (hW : WhAt w' wl mt tm) (hu : Upto (fun k => k = mt) w w') : BkAt w' b ml mm wl mt { B with tm := tm } :=
  ⟨(hu.block b h.blt (fun e => map_ne h.wh.tt h.row e.symm)).trans h.row, h.ls.same (hu.block ml h.ls.lt h.lt), h.kl, h.ms.same (hu.block mm h.ms.lt h.mt), h.km, hW, h.lm, h.lt, h.mt⟩

theorem BkAt.ub (h : BkAt w b ml mm wl mt B) : ∀ k, k = ml ∨ k = mt → k < w.heap.size := by
  rintro k (rfl | rfl)
  · exact h.ls.lt
  · exact h.wh.tt.lt

theorem arm_eq (B : BK) (k a : Int) : B.arm k a = ({ B with tm := (armT B.tm k a).1 }, (armT B.tm k a).2) := by
  unfold BK.arm armT
  split <;> rfl

set_option maxHeartbeats 1000000 in
set_option maxRecDepth 1000000 in
theorem begin_calls (h : BkAt w b ml mm wl mt B) (hleak : U64 B.leak) (id t : Int) {now : Int} (hnow : U64 now) :
    Calls Tryz.prog 15 #[.pointer (some ⟨b, 0, none⟩), .int .u64 id, .int .i64 t, .int .u64 now] w fun e w' => e = .returned (.int .i64 (B.begin id t now).2) ∧ BkAt w' b ml mm wl mt (B.begin id t now).1 ∧ Upto (fun k => k = ml ∨ k = mt) w w' := by
  have hg := get_calls h id
  have H0 := aside_of h
  generalize hxx : (aget id B.ls).getD ⟨0, 0, false⟩ = x at hg
  generalize hok : (aget id B.ls).isSome = ok at hg
  have HOK := aside_of hok
  obtain ⟨x0, x1, x2⟩ := x
  clear hxx hok
  have stay : Aside (∀ {v : World} {c : Int}, Below w.heap.size w v → B.begin id t now = (B, c) → (Ending.returned (Value.int .i64 c) = .returned (.int .i64 (B.begin id t now).2) ∧ BkAt v b ml mm wl mt (B.begin id t now).1 ∧ Upto (fun k => k = ml ∨ k = mt) w v)) := aside_of fun hv e => by
    rw [e]; exact ⟨rfl, H0.out.below hv, .of_below hv⟩
  by_cases hr : t < 0 ∨ 7 < t
  · have hB : B.begin id t now = (B, 2) := by unfold BK.begin; rw [if_pos hr]
    rcases hr with hr | hr
    · clear h
      go_enter Tryz.func15, Tryz.ntmps15
      go_wp2_with (go_at_call 68; with_reducible refine hg.mono ?_; clear hg; rintro e w1 ⟨he, b1⟩; subst he)
      go_ret
      exact stay.out (b1.alloc b1.size _) hB
    · have h0 : ¬ t < 0 := by omega
      have h8 : (8 : Int) ≤ t := by omega
      clear h hr
      go_enter Tryz.func15, Tryz.ntmps15
      go_wp2_with (go_at_call 68; with_reducible refine hg.mono ?_; clear hg; rintro e w1 ⟨he, b1⟩; subst he)
      go_ret
      exact stay.out (b1.alloc b1.size _) hB
  · have h0 : ¬ t < 0 := fun e => hr (.inl e)
    have h8 : ¬ (8 : Int) ≤ t := by omega
    have HR := aside_of hr
    clear hr
    cases ok with
    | true =>
      have hB : B.begin id t now = (B, 10) := by unfold BK.begin; rw [if_neg HR.out, if_pos HOK.out]
      clear h
      go_enter Tryz.func15, Tryz.ntmps15
      go_wp2_with (go_at_call 68; with_reducible refine hg.mono ?_; clear hg; rintro e w1 ⟨he, b1⟩; subst he)
      go_ret
      exact stay.out (b1.alloc b1.size _) hB
    | false =>
      have L : Aside (∀ {v : World}, Below w.heap.size w v → v.cell? ⟨b, 1, none⟩ = some (.map (some ml)) ∧ (Builtin.len_ #[130] 3 #[.map (some ml)]).run Tryz.prog v = .ok (.int .i64 B.ls.length) v) := aside_of fun hv => ⟨(H0.out.below hv).q1, len_ls (H0.out.below hv)⟩
      by_cases hz : 1024 ≤ B.ls.length
      · have hB : B.begin id t now = (B, 11) := by unfold BK.begin; rw [if_neg HR.out, if_neg (by rw [HOK.out]; simp), if_pos hz]
        generalize B.ls.length = z at hz L
        have hzi : (1024 : Int) ≤ (z : Int) := by omega
        clear h
        go_enter Tryz.func15, Tryz.ntmps15
        go_upto_region 8 with (go_at_call 68; with_reducible refine hg.mono ?_; clear hg; rintro e w1 ⟨he, b1⟩; subst he)
        obtain ⟨q1, hlen⟩ := L.out (b1.alloc b1.size (.cells #[.int .i64 x0, .int .u64 x1, .bool x2] 137))
        go_wp2
        go_ret
        exact stay.out (b1.alloc b1.size _) hB
      · have hB : B.begin id t now = if 0 < B.leak then BK.arm { B with ls := aput id ⟨t, now, false⟩ B.ls } id (addT now B.leak) else ({ B with ls := aput id ⟨t, now, false⟩ B.ls }, 0) := by unfold BK.begin; rw [if_neg HR.out, if_neg (by rw [HOK.out]; simp), if_neg hz]
        have HB := aside_of hB
        have hzi : ¬ (1024 : Int) ≤ (B.ls.length : Int) := by omega
        clear hB stay hz
        generalize hzz : B.ls.length = z at hzi L
        clear hzz
        go_enter Tryz.func15, Tryz.ntmps15
        go_upto_region 8 with (go_at_call 68; with_reducible refine hg.mono ?_; clear hg; rintro e w1 ⟨he, b1⟩; subst he)
        have b2 := b1.alloc b1.size (.cells #[.int .i64 x0, .int .u64 x1, .bool x2] 137)
        obtain ⟨q1, hlen⟩ := L.out b2
        have h2 := H0.out.below b2
        generalize w1.alloc (.cells #[.int .i64 x0, .int .u64 x1, .bool x2] 137) = w2 at b2 h2 q1 hlen ⊢
        obtain ⟨ms, ck, hmu, he, hs⟩ := run_mapUpdate_st (P := Tryz.prog) Tryz.underlying130 Tryz.underlying22 h2.ls id ⟨t, now, false⟩
        have h3 := h2.putL he hs (h2.kl.put id ⟨t, now, false⟩)
        have u3 : Upto (fun k => k = ml ∨ k = mt) w { w2 with heap := w2.heap.setIfInBounds ml (.map ms.toArray ck) } := Upto.put (S := fun k => k = ml ∨ k = mt) (.of_below b2) (.inl rfl) _
        simp only [leV] at hmu
        generalize ({ w2 with heap := w2.heap.setIfInBounds ml (.map ms.toArray ck) } : World) = w3 at hmu h3 u3
        have q0 := h3.q0
        clear he hs b1 b2 h2 h
        by_cases hl : 0 < B.leak
        · have hd := h3.below (below_drew w3)
          have hadd := add_calls w3.drew hnow hleak
          have harm := arm_calls hd.wh id (a := addT now B.leak) (by unfold U64 addT maxT; obtain ⟨n1, n2⟩ := hnow; obtain ⟨l1, l2⟩ := hleak; omega)
          have hq0 := hd.q0
          have hq3 := hd.q3
          rw [if_pos hl, arm_eq] at HB
          have H3 := aside_of (⟨hd, u3.trans (.of_below (below_drew w3))⟩ : BkAt w3.drew b ml mm wl mt { B with ls := aput id ⟨t, now, false⟩ B.ls } ∧ Upto (fun k => k = ml ∨ k = mt) w w3.drew)
          simp only at harm hq0 q0 HB
          generalize addT now B.leak = y at hadd harm HB
          have HARM := aside_of harm
          clear hd h3 u3 harm hnow hleak
          generalize hlk : B.leak = lk at q0 hq0 hl hadd
          clear hlk
          go_upto_region 12 with fail
          refine wp_region_still_tail 11 (by kernel_rfl) (by kernel_rfl) ?_
          simp only [List.take_succ_cons, List.take_zero, List.drop_succ_cons, List.drop_zero]
          still_step
          still_step
          still_step
          still_step
          still_step
          still_step
          still_step
          still_step
          still_step
          still_step
          still_call hadd
          refine wpStill_nil ?_
          change wpList _ _ _ _ _ w3.drew
          go_wp2_with (go_at_call 72; with_reducible refine HARM.out.mono ?_; rintro e w5 ⟨he, hW, u5⟩; subst he)
          go_ret
          rw [HB.out]
          exact ⟨rfl, H3.out.1.setW hW u5, H3.out.2.trans (u5.mono fun k hk => .inr hk)⟩
        · rw [if_neg hl] at HB
          have H3 := aside_of (⟨h3, u3⟩ : BkAt w3 b ml mm wl mt { B with ls := aput id ⟨t, now, false⟩ B.ls } ∧ Upto (fun k => k = ml ∨ k = mt) w w3)
          simp only at q0
          clear h3 u3 hnow hleak
          generalize B.leak = lk at q0 hl
          go_wp2
          go_ret
          rw [HB.out]
          exact ⟨rfl, H3.out.1, H3.out.2⟩

end Go.Proofs.YtbdnlaepeladbaaGreatDoor
