/- What the state of an automaton is, as lists; what it tells, leases and gets. Conditions: how its maps lie in memory. -/
import Derived.Test.YtigdkcpipiimnaaGreatDoorMo
import Derived.Test.YtigdkcpipiimnaaGreatDoorProg
import Derived.WalkKit
import Derived.ProofKit
import Derived.OpenShut
import Derived.LoopN
import Derived.KernelRfl
import Derived.WalkSmall
import Derived.LoopTactic
import Derived.OwnWalk
import Derived.Deep.LoopGhost
import Derived.Deep.DeepCutAuto
import Derived.WalkSpells
namespace Go.Eng
open Go.RowKit

/-! ### what calls came to, as lists -/

/-- Leases; what is retired; whether it is closed. -/
structure AuS where
  ls : List (Int × Int)
  rs : List Int
  c : Bool

def AuS.free (s : AuS) (id : Int) : Bool := !(id == 0) && !(aget id s.ls).isSome && !s.rs.contains id
def AuS.mine (s : AuS) (thread id : Int) : Bool := aget id s.ls == some thread
def AuS.held (s : AuS) (thread id e : Int) : Bool := (e == 0 && s.mine thread id) || (e == 5 && !s.mine thread id)
def AuS.shut (s : AuS) (id e : Int) : Bool := id == 0 && ((e == 0 && !s.c) || (e == 6 && s.c))

def AuS.get (s : AuS) (thread id e : Int) : AuS × Bool :=
  if e = 0 then (if s.free id = true then ({ s with ls := s.ls ++ [(id, thread)] }, true) else (s, false))
  else if e = 6 then (s, s.c && id == 0)
  else (s, (e == 7 || e == 8) && id == 0)

def AuS.put (s : AuS) (thread op id e : Int) : AuS × Bool :=
  (if s.held thread id e = true ∧ e = 0 ∧ op = 1 then { s with ls := adel id s.ls } else s, s.held thread id e)

def AuS.point (s : AuS) (thread op id e : Int) : AuS × Bool :=
  if op = 0 then s.get thread id e
  else if op = 1 ∨ op = 2 then s.put thread op id e
  else if op = 3 then ({ s with c := s.c || s.shut id e }, s.shut id e)
  else (s, op == 4 && e == 0 && id == 0)

/-- Point: the state, the code. -/
def AuS.Point (s : AuS) (thread op id e : Int) : AuS × Int :=
  if (s.point thread op id e).2 = true then ((s.point thread op id e).1, 0) else (s, 17)

def AuS.Retire (s : AuS) (id : Int) : AuS × Int :=
  if s.free id = true then ({ s with rs := s.rs ++ [id] }, 0) else (s, 17)

/-- No id is leased that is retired; none twice. -/
structure AuS.Inv (s : AuS) : Prop where
  keys : Keys1 s.ls
  apart : ∀ id ∈ s.rs, aget id s.ls = none
  once : s.rs.Nodup

theorem AuS.inv0 : AuS.Inv ⟨[], [], false⟩ := ⟨List.Pairwise.nil, (fun _ h => by cases h), List.nodup_nil⟩

theorem AuS.free_iff {s : AuS} {id : Int} : s.free id = true ↔ id ≠ 0 ∧ aget id s.ls = none ∧ id ∉ s.rs := by
  unfold AuS.free
  simp [and_assoc]

theorem AuS.Inv.retire {s : AuS} (h : s.Inv) (id : Int) : (s.Retire id).1.Inv := by
  unfold AuS.Retire
  split
  · rename_i hf
    obtain ⟨_, h1, h2⟩ := AuS.free_iff.1 hf
    refine ⟨h.keys, fun i hi => ?_, ?_⟩
    · rcases List.mem_append.1 hi with hi | hi
      · exact h.apart i hi
      · rw [List.mem_singleton] at hi; rw [hi]; exact h1
    · exact List.nodup_append.2 ⟨h.once, List.pairwise_singleton _ _, fun a ha b hb => by rw [List.mem_singleton] at hb; rintro rfl; exact h2 (hb ▸ ha)⟩
  · exact h

theorem aget_one_more {ls : List (Int × Int)} {id thread i : Int} (h : aget id ls = none) : aget i (ls ++ [(id, thread)]) = if i = id then some thread else aget i ls := by
  rw [aget_append]
  by_cases e : i = id
  · subst e; rw [h, if_pos rfl]; simp [aget]
  · rw [if_neg e]; simp [aget, e]

/-- What a point does to the leases: nothing; one more, where it was free; one less, where it was held. -/
theorem AuS.point_ls (s : AuS) (thread op id e : Int) : (s.point thread op id e).1.rs = s.rs ∧ ((s.point thread op id e).1.ls = s.ls ∨
    (s.free id = true ∧ (s.point thread op id e).2 = true ∧ op = 0 ∧ e = 0 ∧ (s.point thread op id e).1.ls = s.ls ++ [(id, thread)]) ∨
    (s.mine thread id = true ∧ (s.point thread op id e).2 = true ∧ op = 1 ∧ e = 0 ∧ (s.point thread op id e).1.ls = adel id s.ls)) := by
  unfold AuS.point
  by_cases h0 : op = 0
  · rw [if_pos h0]
    unfold AuS.get
    split
    · rename_i he
      split
      · rename_i hf
        exact ⟨rfl, .inr (.inl ⟨hf, rfl, h0, he, rfl⟩)⟩
      · exact ⟨rfl, .inl rfl⟩
    · split <;> exact ⟨rfl, .inl rfl⟩
  · rw [if_neg h0]
    split
    · unfold AuS.put
      split
      · rename_i h
        obtain ⟨h1, h2, h3⟩ := h
        refine ⟨rfl, .inr (.inr ⟨?_, h1, h3, h2, rfl⟩)⟩
        unfold AuS.held at h1
        subst h2
        simpa using h1
      · exact ⟨rfl, .inl rfl⟩
    · split <;> exact ⟨rfl, .inl rfl⟩

theorem AuS.Inv.ofPoint {s : AuS} (h : s.Inv) (thread op id e : Int) : (s.point thread op id e).1.Inv := by
  obtain ⟨hr, hl⟩ := s.point_ls thread op id e
  refine ⟨?_, fun i hi => ?_, by rw [hr]; exact h.once⟩
  · rcases hl with hl | ⟨hf, _, _, _, hl⟩ | ⟨_, _, _, _, hl⟩
    · rw [hl]; exact h.keys
    · rw [hl]; exact h.keys.append_one (AuS.free_iff.1 hf).2.1 thread
    · rw [hl]; exact h.keys.del id
  · rw [hr] at hi
    have hn := h.apart i hi
    rcases hl with hl | ⟨hf, _, _, _, hl⟩ | ⟨_, _, _, _, hl⟩
    · rw [hl]; exact hn
    · rw [hl, aget_one_more (AuS.free_iff.1 hf).2.1, if_neg]
      · exact hn
      · rintro rfl
        exact (AuS.free_iff.1 hf).2.2 hi
    · rw [hl, aget_adel h.keys]
      split
      · rfl
      · exact hn

theorem AuS.Inv.Point {s : AuS} (h : s.Inv) (thread op id e : Int) : (s.Point thread op id e).1.Inv := by
  unfold AuS.Point
  split
  · exact h.ofPoint thread op id e
  · exact h

/-- What AutoHolds asks of a point. -/
theorem AuS.point_law {s : AuS} (h : s.Inv) (thread op id e : Int) {s' : AuS} {f : Int} (hP : s.Point thread op id e = (s', f)) :
    (id ∈ s.rs → aget id s'.ls = none ∧ id ∈ s'.rs) ∧
    (∀ t u, aget id s.ls = some t → aget id s'.ls = some u → u = t) ∧
    (∀ u, aget id s.ls = none → aget id s'.ls = some u → f = 0 ∧ op = 0 ∧ u = thread) ∧
    (∀ t, aget id s.ls = some t → aget id s'.ls = none → op = 1 ∧ t = thread) := by
  have hI := h.Point thread op id e
  rw [hP] at hI
  unfold AuS.Point at hP
  split at hP
  · rename_i hok
    simp only [Prod.mk.injEq] at hP
    obtain ⟨rfl, rfl⟩ := hP
    obtain ⟨hr, hl⟩ := s.point_ls thread op id e
    refine ⟨fun hi => ?_, fun t u h1 h2 => ?_, fun u h1 h2 => ?_, fun t h1 h2 => ?_⟩
    · rw [← hr] at hi; exact ⟨hI.apart id hi, hi⟩
    · rcases hl with hl | ⟨hf, _, _, _, hl⟩ | ⟨_, _, _, _, hl⟩
      · rw [hl, h1] at h2; exact (Option.some.inj h2).symm
      · rw [(AuS.free_iff.1 hf).2.1] at h1; cases h1
      · rw [hl, aget_adel h.keys, if_pos rfl] at h2; cases h2
    · rcases hl with hl | ⟨hf, _, hop, _, hl⟩ | ⟨_, _, _, _, hl⟩
      · rw [hl, h1] at h2; cases h2
      · rw [hl, aget_one_more (AuS.free_iff.1 hf).2.1, if_pos rfl] at h2
        exact ⟨rfl, hop, (Option.some.inj h2).symm⟩
      · rw [hl, aget_adel h.keys, if_pos rfl] at h2; cases h2
    · rcases hl with hl | ⟨hf, _, _, _, hl⟩ | ⟨hm, _, hop, _, hl⟩
      · rw [hl, h1] at h2; cases h2
      · rw [(AuS.free_iff.1 hf).2.1] at h1; cases h1
      · unfold AuS.mine at hm
        rw [h1] at hm
        exact ⟨hop, by simpa using hm⟩
  · simp only [Prod.mk.injEq] at hP
    obtain ⟨rfl, rfl⟩ := hP
    refine ⟨fun hi => ⟨h.apart id hi, hi⟩, fun t u h1 h2 => ?_, fun u h1 h2 => ?_, fun t h1 h2 => ?_⟩
    · rw [h1] at h2; exact (Option.some.inj h2).symm
    · rw [h1] at h2; cases h2
    · rw [h1] at h2; cases h2

/-- What AutoHolds asks of a retirement. -/
theorem AuS.retire_law {s : AuS} (id : Int) {s' : AuS} {f : Int} (hP : s.Retire id = (s', f)) :
    (f = 0 → aget id s.ls = none ∧ id ∉ s.rs ∧ id ∈ s'.rs) ∧ (id ∈ s.rs → id ∈ s'.rs) := by
  unfold AuS.Retire at hP
  split at hP
  · rename_i hf
    simp only [Prod.mk.injEq] at hP
    obtain ⟨rfl, rfl⟩ := hP
    obtain ⟨_, h1, h2⟩ := AuS.free_iff.1 hf
    exact ⟨fun _ => ⟨h1, h2, by simp⟩, fun hi => by simp [hi]⟩
  · simp only [Prod.mk.injEq] at hP
    obtain ⟨rfl, rfl⟩ := hP
    exact ⟨(fun h => by cases h), fun h => h⟩

end Go.Eng

namespace Go.Proofs.YtigdkcpipiimnaaGreatDoor
open Go.ChangeShapes Go.WideShapes Go.ChangeAt Go.RowKit Go.Eng

def tV (t : Int) : Value := .int .i64 t
def bV (b : Bool) : Value := .bool b

/-- A state: its value. -/
abbrev stV (lm rm : Option Nat) (c : Bool) : Value := .agg #[.map lm, .map rm, .bool c]

/-- Two maps hold what the lists tell. -/
structure StAt (w : World) (lm rm : Option Nat) (s : AuS) : Prop where
  l : ∃ ls0, MapV .u64 tV w lm ls0 ∧ Keys1 ls0 ∧ PEq ls0 s.ls
  r : ∃ rs0, MapV .u64 bV w rm rs0 ∧ Keys1 rs0 ∧ ∀ i, aget i rs0 = if i ∈ s.rs then some true else none

variable {w w' : World} {lm rm : Option Nat} {s : AuS}

theorem StAt.below (h : StAt w lm rm s) (hb : Below w.heap.size w w') : StAt w' lm rm s := by
  obtain ⟨⟨ls0, l1, l2, l3⟩, rs0, r1, r2, r3⟩ := h
  exact ⟨⟨ls0, l1.below hb, l2, l3⟩, rs0, r1.below hb, r2, r3⟩

theorem below_alloc (v : World) (o : Obj) : Below v.heap.size v (v.alloc o) := (Below.refl _ v).alloc (Nat.le_refl _) o

theorem StAt.grow (h : StAt w lm rm s) (o : Obj) : StAt (w.alloc o) lm rm s := h.below (below_alloc w o)

theorem getD_tV (o : Option Int) : (o.map tV).getD (.int .i64 0) = .int .i64 (o.getD 0) := by cases o <;> rfl

theorem StAt.look (h : StAt w lm rm s) (id : Int) : (Instr.lookup 27 (.map lm) (.int .u64 id) true).run Tryz.prog w = .ok (.tuple #[.int .i64 ((aget id s.ls).getD 0), .bool (aget id s.ls).isSome]) w := by
  obtain ⟨⟨ls0, l1, l2, l3⟩, _⟩ := h
  have := run_lookup_v (P := Tryz.prog) Tryz.underlying27 Tryz.underlying32 Tryz.zeroValue3 l1 id true
  rw [l3 id, getD_tV] at this
  exact this

theorem StAt.lookR (h : StAt w lm rm s) (id : Int) : (Instr.lookup 28 (.map rm) (.int .u64 id) false).run Tryz.prog w = .ok (.bool (s.rs.contains id)) w := by
  obtain ⟨_, rs0, r1, r2, r3⟩ := h
  have := run_lookup_v (P := Tryz.prog) Tryz.underlying28 Tryz.underlying32 Tryz.zeroValue4 r1 id false
  rw [this, r3 id]
  by_cases e : id ∈ s.rs
  · simp [e, bV]
  · simp [e]

theorem StAt.len (h : StAt w lm rm s) (hI : s.Inv) : (Builtin.len_ #[27] 3 #[.map lm]).run Tryz.prog w = .ok (.int .i64 s.ls.length) w := by
  obtain ⟨⟨ls0, l1, l2, l3⟩, _⟩ := h
  rw [run_len_v (P := Tryz.prog) Tryz.underlying27 l1, l3.length l2 hI.keys]

/-- Holder. -/
theorem holder_calls (h : StAt w lm rm s) (c : Bool) (id : Int) :
    Calls Tryz.prog 15 #[stV lm rm c, .int .u64 id] w fun e w' => e = .returned (.tuple #[.int .i64 ((aget id s.ls).getD 0), .bool (aget id s.ls).isSome]) ∧ Below w.heap.size w w' := by
  have hl := (h.grow (.cells #[.map lm, .map rm, .bool c] 30)).look id
  have b1 := below_alloc w (.cells #[.map lm, .map rm, .bool c] 30)
  generalize (aget id s.ls).getD 0 = t at hl ⊢
  generalize (aget id s.ls).isSome = ok at hl ⊢
  clear h
  unfold stV
  go_enter Tryz.func15, Tryz.ntmps15
  go_wp2
  go_ret2
  exact ⟨rfl, b1⟩

/-- Retired. -/
theorem retired_calls (h : StAt w lm rm s) (c : Bool) (id : Int) :
    Calls Tryz.prog 17 #[stV lm rm c, .int .u64 id] w fun e w' => e = .returned (.bool (s.rs.contains id)) ∧ Below w.heap.size w w' := by
  have hl := (h.grow (.cells #[.map lm, .map rm, .bool c] 30)).lookR id
  have b1 := below_alloc w (.cells #[.map lm, .map rm, .bool c] 30)
  generalize s.rs.contains id = ok at hl ⊢
  clear h
  unfold stV
  go_enter Tryz.func17, Tryz.ntmps17
  go_wp2
  go_ret
  exact ⟨rfl, b1⟩

/-- Leases. -/
theorem leases_calls (h : StAt w lm rm s) (hI : s.Inv) (c : Bool) :
    Calls Tryz.prog 10 #[stV lm rm c] w fun e w' => e = .returned (.int .i64 s.ls.length) ∧ Below w.heap.size w w' := by
  have hl := (h.grow (.cells #[.map lm, .map rm, .bool c] 30)).len hI
  have b1 := below_alloc w (.cells #[.map lm, .map rm, .bool c] 30)
  generalize (s.ls.length : Int) = n at hl ⊢
  clear h hI
  unfold stV
  go_enter Tryz.func10, Tryz.ntmps10
  go_wp2
  go_ret
  exact ⟨rfl, b1⟩

/-- free. -/
theorem free_calls (h : StAt w lm rm s) (c : Bool) (id : Int) :
    Calls Tryz.prog 25 #[stV lm rm c, .int .u64 id] w fun e w' => e = .returned (.bool (s.free id)) ∧ Below w.heap.size w w' := by
  have h1 := h.grow (.cells #[.map lm, .map rm, .bool c] 30)
  have hl := h1.look id
  have hr := h1.lookR id
  have b1 := below_alloc w (.cells #[.map lm, .map rm, .bool c] 30)
  unfold AuS.free
  generalize (aget id s.ls).getD 0 = t at hl
  generalize (aget id s.ls).isSome = ok at hl ⊢
  generalize s.rs.contains id = rt at hr ⊢
  clear h h1
  unfold stV
  by_cases hi : id = 0
  · subst hi
    go_enter Tryz.func25, Tryz.ntmps25
    go_wp2
    go_ret
    exact ⟨by simp, b1⟩
  · have hi' : (id == 0) = false := by simpa using hi
    have hi2 : (id != 0) = true := by simpa using hi
    rw [hi']
    cases ok
    · go_enter Tryz.func25, Tryz.ntmps25
      go_wp2
      go_ret
      exact ⟨by simp, b1⟩
    · go_enter Tryz.func25, Tryz.ntmps25
      go_wp2
      go_ret
      exact ⟨by simp, b1⟩

end Go.Proofs.YtigdkcpipiimnaaGreatDoor

namespace Go.Proofs.YtigdkcpipiimnaaGreatDoor
open Go.ChangeShapes Go.WideShapes Go.ChangeAt Go.RowKit Go.Eng

theorem copyL_none {w : World} {d : Nat} {ds : List (Int × Int)} (hd : MapSt .u64 tV w d ds) :
    Calls Tryz.prog 59 #[.map (some d), .map none] w fun e w' => e = .returned (.tuple #[]) ∧ MapSt .u64 tV w' d ds ∧ Below w.heap.size w w' := by
  have b1 := below_alloc w (.mapIter none 0 #[] 0)
  have hr := run_range_nil (P := Tryz.prog) (w := w) Tryz.underlying27
  have hn := run_next_nil (P := Tryz.prog) (ty := 0) (Go.MapKept.heap_alloc w (.mapIter none 0 #[] 0)).1
  have H : Aside (MapSt .u64 tV (w.alloc (.mapIter none 0 #[] 0)) d ds) := hd.below b1 hd.lt
  clear hd
  go_enter Tryz.func59, Tryz.ntmps59
  go_wp2
  refine wp_loop_rounds 1 ?_
  rw [rounds_succ]
  go_wp2
  go_end0
  exact ⟨rfl, H.out, b1⟩

set_option maxHeartbeats 1000000 in
theorem copyL_some {w : World} {d m : Nat} {ds ss : List (Int × Int)} (hd : MapSt .u64 tV w d ds) (hs : MapSt .u64 tV w m ss) (hk : Keys1 ss) (hkd : Keys1 ds) (hne : m < d) :
    Calls Tryz.prog 59 #[.map (some d), .map (some m)] w fun e w' => e = .returned (.tuple #[]) ∧ ∃ ds', MapSt .u64 tV w' d ds' ∧ Keys1 ds' ∧ (∀ i, aget i ds' = (aget i ss).or (aget i ds)) ∧ Below d w w' := by
  obtain ⟨ms, clock, hents, hrange, hgoes⟩ := run_range_st (P := Tryz.prog) Tryz.underlying27 hs
  have b1 := below_alloc w (.mapIter (some m) clock #[] clock)
  have hdl := hd.lt
  have hd1 : MapSt .u64 tV (w.alloc (.mapIter (some m) clock #[] clock)) d ds := hd.below b1 hd.lt
  have bd : Below d w (w.alloc (.mapIter (some m) clock #[] clock)) := b1.mono (Nat.le_of_lt hd.lt)
  have HE : Aside (EntsR .u64 tV ms ss) := hents
  obtain ⟨w1, hw1⟩ : ∃ w1, w1 = w.alloc (.mapIter (some m) clock #[] clock) := ⟨_, rfl⟩
  rw [← hw1] at hrange hgoes hd1 bd
  obtain ⟨Z, hZ⟩ : ∃ Z, Z = w.heap.size := ⟨_, rfl⟩
  rw [← hZ] at hrange hgoes hdl
  have H0 : Aside (Go.Eng.Goes w1 Z m clock [] ms clock ∧ MapSt .u64 tV w1 d ds ∧ Below d w w1) := ⟨hgoes, hd1, bd⟩
  clear hw1 hZ hents hd hs b1 hgoes hd1 bd
  go_enter Tryz.func59, Tryz.ntmps59
  go_wp2
  go_loopg [] (Go.Eng.leftOf ms []) (fun g wx => ∃ seen ds', g = Go.Eng.leftOf ms seen ∧ Go.Eng.Goes wx Z m clock seen ms clock ∧ MapSt .u64 tV wx d ds' ∧ Keys1 ds' ∧ Copied .u64 ms ss ds seen ds' ∧ Below d w wx)
  case atStart => exact ⟨[], ds, rfl, H0.out.1, H0.out.2.1, hkd, .nil, H0.out.2.2⟩
  case round =>
    clear hrange H0
    obtain ⟨seen, ds', rfl, hg, hd', hk', hc, hb⟩ := hrel
    rcases run_next_all (P := Tryz.prog) (ty := 0) hg with ⟨dr, hnx, hall⟩ | ⟨ent, he, hsn, w14, hnx, hg2, hos, htp, hou, hsz, hbk⟩
    · have HA : Aside (∀ i, aget i ds' = (aget i ss).or (aget i ds)) := fun i => hc.all HE.out hk hall i
      have HM : Aside (MapSt .u64 tV { wr with drawn := dr } d ds' ∧ Below d w { wr with drawn := dr }) := ⟨hd'.same rfl, below_drawn hb dr⟩
      clear hall hc hd' hb hg
      go_wp2
      go_end0
      exact ⟨rfl, ds', HM.out.1, hk', HA.out, HM.out.2⟩
    · obtain ⟨p, hp, hkey, hval⟩ := ents_mem HE.out he
      have hen := run_entry_goes (P := Tryz.prog) hg2 he
      have hdz : d ≠ Z := hd'.ne_iter hg.2.1
      have hd2 : MapSt .u64 tV w14 d ds' := hd'.same (hbk d hdz)
      obtain ⟨ms2, c2, hmu, hents2, hst2⟩ := run_mapUpdate_st (P := Tryz.prog) Tryz.underlying27 Tryz.underlying32 hd2 p.1 p.2
      have hc2 := hc.step hg.2.2.1 hk he hp hkey
      rw [hkey, hval] at hnx hen
      have hb2 : Below d w w14 := below_iter hb (Nat.le_of_lt hdl) hos htp hou hsz hbk
      obtain ⟨w15, hw15⟩ : ∃ w15, w15 = { w14 with heap := w14.heap.setIfInBounds d (.map ms2.toArray c2) } := ⟨_, rfl⟩
      have H1 : Aside (Go.Eng.Goes w15 Z m clock (seen ++ [ent.born]) ms clock ∧ MapSt .u64 tV w15 d (aput p.1 p.2 ds') ∧ Keys1 (aput p.1 p.2 ds') ∧ Copied .u64 ms ss ds (seen ++ [ent.born]) (aput p.1 p.2 ds') ∧ Below d w w15 ∧ Go.Eng.leftOf ms (seen ++ [ent.born]) < Go.Eng.leftOf ms seen) := by
        rw [hw15]
        exact ⟨hg2.put (fun e => hdz e.symm) (by omega) _, MapSt.put hd2.lt hents2 hst2, hk'.put _ _, hc2, below_put hb2 (Nat.le_refl _) _, leftOf_lt he hsn⟩
      rw [← hw15] at hmu
      clear hw15 hents2 hst2 hc2 hb2 hd2 hos htp hou hsz hbk hkey hval he hsn hg hg2 hd' hk' hc hb hp
      obtain ⟨i, v⟩ := p
      change Sem.run Tryz.prog (Instr.next (.pointer (some ⟨Z, 0, none⟩)) false 0) wr = Result.ok (.tuple #[.bool true, .int .u64 i, .int .i64 v]) w14 at hnx
      change Sem.run Tryz.prog (Instr.entry (.pointer (some ⟨Z, 0, none⟩))) w14 = Result.ok (.tuple #[.int .u64 i, .int .i64 v]) w14 at hen
      change Sem.run Tryz.prog (Instr.mapUpdate 27 (.map (some d)) (.int .u64 i) (.int .i64 v)) w14 = Result.ok () w15 at hmu
      go_wp2
      go_roundg (Go.Eng.leftOf ms (seen ++ [ent.born]))
      case measure => exact H1.out.2.2.2.2.2
      case rel => exact ⟨seen ++ [ent.born], _, rfl, H1.out.1, H1.out.2.1, H1.out.2.2.1, H1.out.2.2.2.1, H1.out.2.2.2.2.1⟩

/-- maps.Copy into a map that is newer than all that is copied. -/
theorem copyL {w : World} {d : Nat} {sm : Option Nat} {ds ss : List (Int × Int)} (hd : MapSt .u64 tV w d ds) (hs : MapV .u64 tV w sm ss) (hk : Keys1 ss) (hkd : Keys1 ds) (hne : ∀ m, sm = some m → m < d) :
    Calls Tryz.prog 59 #[.map (some d), .map sm] w fun e w' => e = .returned (.tuple #[]) ∧ ∃ ds', MapSt .u64 tV w' d ds' ∧ Keys1 ds' ∧ (∀ i, aget i ds' = (aget i ss).or (aget i ds)) ∧ Below d w w' := by
  rcases hs with ⟨rfl, rfl⟩ | ⟨m, rfl, hs⟩
  · refine (copyL_none hd).mono ?_
    rintro e w' ⟨he, h1, h2⟩
    exact ⟨he, ds, h1, hkd, fun i => rfl, h2.mono (Nat.le_of_lt hd.lt)⟩
  · exact copyL_some hd hs hk hkd (hne m rfl)

theorem copyR_none {w : World} {d : Nat} {ds : List (Int × Bool)} (hd : MapSt .u64 bV w d ds) :
    Calls Tryz.prog 26 #[.map (some d), .map none] w fun e w' => e = .returned (.tuple #[]) ∧ MapSt .u64 bV w' d ds ∧ Below w.heap.size w w' := by
  have b1 := below_alloc w (.mapIter none 0 #[] 0)
  have hr := run_range_nil (P := Tryz.prog) (w := w) Tryz.underlying28
  have hn := run_next_nil (P := Tryz.prog) (ty := 0) (Go.MapKept.heap_alloc w (.mapIter none 0 #[] 0)).1
  have H : Aside (MapSt .u64 bV (w.alloc (.mapIter none 0 #[] 0)) d ds) := hd.below b1 hd.lt
  clear hd
  go_enter Tryz.func26, Tryz.ntmps26
  go_wp2
  refine wp_loop_rounds 1 ?_
  rw [rounds_succ]
  go_wp2
  go_end0
  exact ⟨rfl, H.out, b1⟩

set_option maxHeartbeats 1000000 in
theorem copyR_some {w : World} {d m : Nat} {ds ss : List (Int × Bool)} (hd : MapSt .u64 bV w d ds) (hs : MapSt .u64 bV w m ss) (hk : Keys1 ss) (hkd : Keys1 ds) (hne : m < d) :
    Calls Tryz.prog 26 #[.map (some d), .map (some m)] w fun e w' => e = .returned (.tuple #[]) ∧ ∃ ds', MapSt .u64 bV w' d ds' ∧ Keys1 ds' ∧ (∀ i, aget i ds' = (aget i ss).or (aget i ds)) ∧ Below d w w' := by
  obtain ⟨ms, clock, hents, hrange, hgoes⟩ := run_range_st (P := Tryz.prog) Tryz.underlying28 hs
  have b1 := below_alloc w (.mapIter (some m) clock #[] clock)
  have hdl := hd.lt
  have hd1 : MapSt .u64 bV (w.alloc (.mapIter (some m) clock #[] clock)) d ds := hd.below b1 hd.lt
  have bd : Below d w (w.alloc (.mapIter (some m) clock #[] clock)) := b1.mono (Nat.le_of_lt hd.lt)
  have HE : Aside (EntsR .u64 bV ms ss) := hents
  obtain ⟨w1, hw1⟩ : ∃ w1, w1 = w.alloc (.mapIter (some m) clock #[] clock) := ⟨_, rfl⟩
  rw [← hw1] at hrange hgoes hd1 bd
  obtain ⟨Z, hZ⟩ : ∃ Z, Z = w.heap.size := ⟨_, rfl⟩
  rw [← hZ] at hrange hgoes hdl
  have H0 : Aside (Go.Eng.Goes w1 Z m clock [] ms clock ∧ MapSt .u64 bV w1 d ds ∧ Below d w w1) := ⟨hgoes, hd1, bd⟩
  clear hw1 hZ hents hd hs b1 hgoes hd1 bd
  go_enter Tryz.func26, Tryz.ntmps26
  go_wp2
  go_loopg [] (Go.Eng.leftOf ms []) (fun g wx => ∃ seen ds', g = Go.Eng.leftOf ms seen ∧ Go.Eng.Goes wx Z m clock seen ms clock ∧ MapSt .u64 bV wx d ds' ∧ Keys1 ds' ∧ Copied .u64 ms ss ds seen ds' ∧ Below d w wx)
  case atStart => exact ⟨[], ds, rfl, H0.out.1, H0.out.2.1, hkd, .nil, H0.out.2.2⟩
  case round =>
    clear hrange H0
    obtain ⟨seen, ds', rfl, hg, hd', hk', hc, hb⟩ := hrel
    rcases run_next_all (P := Tryz.prog) (ty := 0) hg with ⟨dr, hnx, hall⟩ | ⟨ent, he, hsn, w14, hnx, hg2, hos, htp, hou, hsz, hbk⟩
    · have HA : Aside (∀ i, aget i ds' = (aget i ss).or (aget i ds)) := fun i => hc.all HE.out hk hall i
      have HM : Aside (MapSt .u64 bV { wr with drawn := dr } d ds' ∧ Below d w { wr with drawn := dr }) := ⟨hd'.same rfl, below_drawn hb dr⟩
      clear hall hc hd' hb hg
      go_wp2
      go_end0
      exact ⟨rfl, ds', HM.out.1, hk', HA.out, HM.out.2⟩
    · obtain ⟨p, hp, hkey, hval⟩ := ents_mem HE.out he
      have hen := run_entry_goes (P := Tryz.prog) hg2 he
      have hdz : d ≠ Z := hd'.ne_iter hg.2.1
      have hd2 : MapSt .u64 bV w14 d ds' := hd'.same (hbk d hdz)
      obtain ⟨ms2, c2, hmu, hents2, hst2⟩ := run_mapUpdate_st (P := Tryz.prog) Tryz.underlying28 Tryz.underlying32 hd2 p.1 p.2
      have hc2 := hc.step hg.2.2.1 hk he hp hkey
      rw [hkey, hval] at hnx hen
      have hb2 : Below d w w14 := below_iter hb (Nat.le_of_lt hdl) hos htp hou hsz hbk
      obtain ⟨w15, hw15⟩ : ∃ w15, w15 = { w14 with heap := w14.heap.setIfInBounds d (.map ms2.toArray c2) } := ⟨_, rfl⟩
      have H1 : Aside (Go.Eng.Goes w15 Z m clock (seen ++ [ent.born]) ms clock ∧ MapSt .u64 bV w15 d (aput p.1 p.2 ds') ∧ Keys1 (aput p.1 p.2 ds') ∧ Copied .u64 ms ss ds (seen ++ [ent.born]) (aput p.1 p.2 ds') ∧ Below d w w15 ∧ Go.Eng.leftOf ms (seen ++ [ent.born]) < Go.Eng.leftOf ms seen) := by
        rw [hw15]
        exact ⟨hg2.put (fun e => hdz e.symm) (by omega) _, MapSt.put hd2.lt hents2 hst2, hk'.put _ _, hc2, below_put hb2 (Nat.le_refl _) _, leftOf_lt he hsn⟩
      rw [← hw15] at hmu
      clear hw15 hents2 hst2 hc2 hb2 hd2 hos htp hou hsz hbk hkey hval he hsn hg hg2 hd' hk' hc hb hp
      obtain ⟨i, v⟩ := p
      change Sem.run Tryz.prog (Instr.next (.pointer (some ⟨Z, 0, none⟩)) false 0) wr = Result.ok (.tuple #[.bool true, .int .u64 i, .bool v]) w14 at hnx
      change Sem.run Tryz.prog (Instr.entry (.pointer (some ⟨Z, 0, none⟩))) w14 = Result.ok (.tuple #[.int .u64 i, .bool v]) w14 at hen
      change Sem.run Tryz.prog (Instr.mapUpdate 28 (.map (some d)) (.int .u64 i) (.bool v)) w14 = Result.ok () w15 at hmu
      go_wp2
      go_roundg (Go.Eng.leftOf ms (seen ++ [ent.born]))
      case measure => exact H1.out.2.2.2.2.2
      case rel => exact ⟨seen ++ [ent.born], _, rfl, H1.out.1, H1.out.2.1, H1.out.2.2.1, H1.out.2.2.2.1, H1.out.2.2.2.2.1⟩

/-- maps.Copy into a map that is newer than all that is copied. -/
theorem copyR {w : World} {d : Nat} {sm : Option Nat} {ds ss : List (Int × Bool)} (hd : MapSt .u64 bV w d ds) (hs : MapV .u64 bV w sm ss) (hk : Keys1 ss) (hkd : Keys1 ds) (hne : ∀ m, sm = some m → m < d) :
    Calls Tryz.prog 26 #[.map (some d), .map sm] w fun e w' => e = .returned (.tuple #[]) ∧ ∃ ds', MapSt .u64 bV w' d ds' ∧ Keys1 ds' ∧ (∀ i, aget i ds' = (aget i ss).or (aget i ds)) ∧ Below d w w' := by
  rcases hs with ⟨rfl, rfl⟩ | ⟨m, rfl, hs⟩
  · refine (copyR_none hd).mono ?_
    rintro e w' ⟨he, h1, h2⟩
    exact ⟨he, ds, h1, hkd, fun i => rfl, h2.mono (Nat.le_of_lt hd.lt)⟩
  · exact copyR_some hd hs hk hkd (hne m rfl)

end Go.Proofs.YtigdkcpipiimnaaGreatDoor

namespace Go.Proofs.YtigdkcpipiimnaaGreatDoor
open Go.ChangeShapes Go.WideShapes Go.ChangeAt Go.RowKit Go.Eng

variable {w w' : World} {lm rm : Option Nat} {s : AuS}

/-- The maps of a state are old blocks. -/
theorem StAt.old (h : StAt w lm rm s) : ∀ m, lm = some m → m < w.heap.size := by
  rintro m rfl
  obtain ⟨⟨ls0, l1, _⟩, _⟩ := h
  rcases l1 with ⟨h, _⟩ | ⟨m', h, hm⟩
  · cases h
  · obtain rfl := Option.some.inj h
    exact hm.lt
theorem StAt.oldR (h : StAt w lm rm s) : ∀ m, rm = some m → m < w.heap.size := by
  rintro m rfl
  obtain ⟨_, ls0, l1, _⟩ := h
  rcases l1 with ⟨h, _⟩ | ⟨m', h, hm⟩
  · cases h
  · obtain rfl := Option.some.inj h
    exact hm.lt

def rowS (lm rm : Option Nat) (c : Bool) : Obj := .cells #[.map lm, .map rm, .bool c] 27

/-- A state lies in block X. -/
def RowS (w : World) (X : Nat) (lm rm : Option Nat) (c : Bool) : Prop := w.heap[X]? = some (.cells #[.map lm, .map rm, .bool c] 30 (0, 0))
theorem RowS.q0 {X : Nat} {c : Bool} (h : RowS w X lm rm c) : w.cell? ⟨X, 0, none⟩ = some (.map lm) := by unfold RowS at h; simp [World.cell?, h]
theorem RowS.q1 {X : Nat} {c : Bool} (h : RowS w X lm rm c) : w.cell? ⟨X, 1, none⟩ = some (.map rm) := by unfold RowS at h; simp [World.cell?, h]
theorem RowS.q2 {X : Nat} {c : Bool} (h : RowS w X lm rm c) : w.cell? ⟨X, 2, none⟩ = some (.bool c) := by unfold RowS at h; simp [World.cell?, h]
theorem RowS.f0 {X : Nat} {c : Bool} (h : RowS w X lm rm c) : w.frozen? ⟨X, 0, none⟩ = false := by unfold RowS at h; simp [World.frozen?, h]
theorem RowS.f1 {X : Nat} {c : Bool} (h : RowS w X lm rm c) : w.frozen? ⟨X, 1, none⟩ = false := by unfold RowS at h; simp [World.frozen?, h]
theorem RowS.f2 {X : Nat} {c : Bool} (h : RowS w X lm rm c) : w.frozen? ⟨X, 2, none⟩ = false := by unfold RowS at h; simp [World.frozen?, h]
theorem RowS.below {X B : Nat} {c : Bool} (h : RowS w X lm rm c) (hb : Below B w w') (hX : X < B) : RowS w' X lm rm c := (hb.block X hX).trans h
theorem RowS.new (w : World) (lm rm : Option Nat) (c : Bool) : RowS (w.alloc (.cells #[.map lm, .map rm, .bool c] 30)) w.heap.size lm rm c := (Go.MapKept.heap_alloc w _).1
theorem RowS.lt {X : Nat} {c : Bool} (h : RowS w X lm rm c) : X < w.heap.size := (Array.getElem?_eq_some_iff.1 h).1

/-- Three stores into the cells of a state. -/
theorem RowS.set {X : Nat} {c : Bool} (h : RowS w X lm rm c) (lm' rm' : Option Nat) (c' : Bool) :
    RowS (((w.setCell ⟨X, 0, none⟩ (.map lm')).setCell ⟨X, 1, none⟩ (.map rm')).setCell ⟨X, 2, none⟩ (.bool c')) X lm' rm' c' := by
  have hl := h.lt
  unfold RowS at h ⊢
  have e1 : (w.setCell ⟨X, 0, none⟩ (.map lm')).heap[X]? = some (.cells #[.map lm', .map rm, .bool c] 30 (0, 0)) := by
    rw [setCell_cells h]; simp [hl]
  have e2 : ((w.setCell ⟨X, 0, none⟩ (.map lm')).setCell ⟨X, 1, none⟩ (.map rm')).heap[X]? = some (.cells #[.map lm', .map rm', .bool c] 30 (0, 0)) := by
    rw [setCell_cells e1]; simp [hl]
  rw [setCell_cells e2]; simp [hl]

theorem MapV.set {β : Type} {V : β → Value} {mv : Option Nat} {es : List (Int × β)} {p : Addr} (h : MapV .u64 V w mv es) (hp : ∀ m, mv = some m → m ≠ p.block) (v : Value) : MapV .u64 V (w.setCell p v) mv es := by
  rcases h with h | ⟨m, h1, h2⟩
  · exact .inl h
  · exact .inr ⟨m, h1, h2.same (Below.heap_setCell _ _ _ _ (hp m h1))⟩

theorem StAt.set {p : Addr} (h : StAt w lm rm s) (hl : ∀ m, lm = some m → m ≠ p.block) (hr : ∀ m, rm = some m → m ≠ p.block) (v : Value) : StAt (w.setCell p v) lm rm s := by
  obtain ⟨⟨ls0, l1, l2, l3⟩, rs0, r1, r2, r3⟩ := h
  exact ⟨⟨ls0, MapV.set l1 hl v, l2, l3⟩, rs0, MapV.set r1 hr v, r2, r3⟩

/-- What lease has ahead of its last stores: the boxed state at X, the result's place behind it, the new map. -/
structure Lea (w : World) (lm rm : Option Nat) (c : Bool) (s' : AuS) (X d : Nat) (v : World) : Prop where
  low : Below X w v
  box : RowS v X lm rm c
  res : RowS v (X + 1) none none false
  st : StAt v (some d) rm s'
  hd : X + 1 < d
  hr : ∀ m, rm = some m → m < X

theorem Lea.fin {c : Bool} {X d : Nat} {v : World} (h : Lea w lm rm c s X d v) (hX : X = w.heap.size) :
    StAt ((((v.setCell ⟨X, 0, none⟩ (.map (some d))).setCell ⟨X + 1, 0, none⟩ (.map (some d))).setCell ⟨X + 1, 1, none⟩ (.map rm)).setCell ⟨X + 1, 2, none⟩ (.bool c)) (some d) rm s ∧
    Below w.heap.size w ((((v.setCell ⟨X, 0, none⟩ (.map (some d))).setCell ⟨X + 1, 0, none⟩ (.map (some d))).setCell ⟨X + 1, 1, none⟩ (.map rm)).setCell ⟨X + 1, 2, none⟩ (.bool c)) := by
  have hd := h.hd
  have l1 : ∀ m, some d = some m → m ≠ X := fun m e => by cases e; omega
  have l2 : ∀ m, some d = some m → m ≠ X + 1 := fun m e => by cases e; omega
  have r1 : ∀ m, rm = some m → m ≠ X := fun m e => by have := h.hr m e; omega
  have r2 : ∀ m, rm = some m → m ≠ X + 1 := fun m e => by have := h.hr m e; omega
  refine ⟨(((h.st.set l1 r1 _).set l2 r2 _).set l2 r2 _).set l2 r2 _, ?_⟩
  rw [← hX]
  exact (((h.low.setCell (Nat.le_refl _) _).setCell (by simp) _).setCell (by simp) _).setCell (by simp) _

end Go.Proofs.YtigdkcpipiimnaaGreatDoor

namespace Go.Proofs.YtigdkcpipiimnaaGreatDoor
open Go.ChangeShapes Go.WideShapes Go.ChangeAt Go.RowKit Go.Eng

variable {w w' : World} {lm rm : Option Nat} {s : AuS}

theorem MapSt.newMap {β : Type} {V : β → Value} (w : World) : MapSt .u64 V (w.alloc (.map #[] 0)) w.heap.size ([] : List (Int × β)) :=
  ⟨[], 0, (Go.MapKept.heap_alloc w _).1, trivial, List.Pairwise.nil, fun e he => by cases he⟩

/-- The copied leases, without an id. -/
theorem peq_del {ls0 ls ds : List (Int × Int)} (h0 : PEq ls0 ls) (hk : Keys1 ls) (hkd : Keys1 ds) (hc : ∀ i, aget i ds = (aget i ls0).or (aget i [])) (id : Int) : PEq (adel id ds) (adel id ls) := by
  intro i
  rw [aget_adel hkd, aget_adel hk, hc i, h0 i]
  simp [aget]

theorem peq_more {ls0 ls ds : List (Int × Int)} (h0 : PEq ls0 ls) (hkd : Keys1 ds) (hc : ∀ i, aget i ds = (aget i ls0).or (aget i [])) {id : Int} (hn : aget id ls = none) (t : Int) : PEq (aput id t (adel id ds)) (ls ++ [(id, t)]) := by
  intro i
  rw [aget_aput', aget_adel hkd, aget_one_more hn, hc i, h0 i]
  by_cases e : i = id
  · simp [e]
  · simp [e, aget]

/-- What the copy leaves: what a delete, and a store behind it, do. -/
def Mid (w : World) (lm rm : Option Nat) (s : AuS) (c : Bool) (t id : Int) (d : Nat) (w3 : World) : Prop :=
  RowS w3 w.heap.size lm rm c ∧ ∃ w4, (Builtin.delete_ #[27, 32] 0 #[.map (some d), .int .u64 id]).run Tryz.prog w3 = .ok (.tuple #[]) w4 ∧ Lea w lm rm c { s with ls := adel id s.ls } w.heap.size d w4 ∧
    (aget id s.ls = none → ∃ w5, (Instr.mapUpdate 27 (.map (some d)) (.int .u64 id) (.int .i64 t)).run Tryz.prog w4 = .ok () w5 ∧ Lea w lm rm c { s with ls := s.ls ++ [(id, t)] } w.heap.size d w5)

theorem lea_copy (h : StAt w lm rm s) (hI : s.Inv) (c : Bool) (t id : Int) :
    Calls Tryz.prog 59 #[.map (some (w.heap.size + 1 + 1)), .map lm] (((w.alloc (.cells #[.map lm, .map rm, .bool c] 30)).alloc (.cells #[.map none, .map none, .bool false] 30)).alloc (.map #[] 0)) fun e w3 => e = .returned (.tuple #[]) ∧ Mid w lm rm s c t id (w.heap.size + 1 + 1) w3 := by
  obtain ⟨w1, hw1⟩ : ∃ w1, w1 = (w.alloc (.cells #[.map lm, .map rm, .bool c] 30)).alloc (.cells #[.map none, .map none, .bool false] 30) := ⟨_, rfl⟩
  have b1 : Below w.heap.size w w1 := by rw [hw1]; exact (below_alloc w _).alloc (by simp) _
  have x0 : RowS w1 w.heap.size lm rm c := by rw [hw1]; exact (RowS.new w lm rm c).below (below_alloc _ _) (by simp)
  have x1 : RowS w1 (w.heap.size + 1) none none false := by
    have := RowS.new (w.alloc (.cells #[.map lm, .map rm, .bool c] 30)) none none false
    rw [hw1]; simpa using this
  have lw1 : w1.heap.size = w.heap.size + 1 + 1 := by rw [hw1]; simp
  rw [← hw1]
  obtain ⟨w2, hw2⟩ : ∃ w2, w2 = w1.alloc (.map #[] 0) := ⟨_, rfl⟩
  have b2 : Below w1.heap.size w1 w2 := by rw [hw2]; exact below_alloc _ _
  obtain ⟨⟨ls0, m1, m2, m3⟩, rs0, n1, n2, n3⟩ := (h.below b1).below b2
  have hM : MapSt .u64 tV w2 (w.heap.size + 1 + 1) [] := by rw [hw2, ← lw1]; exact MapSt.newMap w1
  rw [← hw2]
  rw [lw1] at b2
  refine (copyL hM m1 m2 List.Pairwise.nil (fun m e => by have := h.old m e; omega)).mono ?_
  rintro e w3 ⟨he, ds', k1, k2, k3, b3⟩
  have mid : ∀ {v : World} {ds : List (Int × Int)} {ls : List (Int × Int)}, MapSt .u64 tV v (w.heap.size + 1 + 1) ds → Keys1 ds → PEq ds ls → Below (w.heap.size + 1 + 1) w2 v → Lea w lm rm c { s with ls := ls } w.heap.size (w.heap.size + 1 + 1) v := by
    intro v ds ls q1 q2 q3 q4
    have b4 : Below (w.heap.size + 1 + 1) w1 v := b2.trans q4
    have b5 : Below w.heap.size w v := b1.trans (b4.mono (by omega))
    refine ⟨b5, x0.below b4 (by omega), x1.below b4 (by omega), ⟨⟨ds, .inr ⟨_, rfl, q1⟩, q2, q3⟩, rs0, ?_, n2, n3⟩, by omega, h.oldR⟩
    rcases n1 with hn | ⟨m, hn, hm⟩
    · exact .inl hn
    · exact .inr ⟨m, hn, hm.below q4 (by have := h.oldR m hn; omega)⟩
  refine ⟨he, x0.below (b2.trans b3) (by omega), ?_⟩
  obtain ⟨ms, ck, hdel, he2, hs2⟩ := run_delete_st (P := Tryz.prog) (s := 28) (ty := 0) Tryz.underlying27 Tryz.underlying32 k1 id
  have q1 : MapSt .u64 tV { w3 with heap := w3.heap.setIfInBounds (w.heap.size + 1 + 1) (.map ms.toArray ck) } (w.heap.size + 1 + 1) (adel id ds') := MapSt.put k1.lt he2 hs2
  have q4 : Below (w.heap.size + 1 + 1) w2 { w3 with heap := w3.heap.setIfInBounds (w.heap.size + 1 + 1) (.map ms.toArray ck) } := below_put b3 (Nat.le_refl _) _
  refine ⟨_, hdel, mid q1 (k2.del id) (peq_del m3 hI.keys k2 k3 id) q4, fun hn => ?_⟩
  obtain ⟨ms5, ck5, hmu, he5, hs5⟩ := run_mapUpdate_st (P := Tryz.prog) Tryz.underlying27 Tryz.underlying32 q1 id t
  exact ⟨_, hmu, mid (MapSt.put q1.lt he5 hs5) ((k2.del id).put id t) (peq_more m3 k2 k3 hn t) (below_put q4 (Nat.le_refl _) _)⟩

set_option maxHeartbeats 1000000 in
set_option maxRecDepth 1000000 in
theorem lease_less (h : StAt w lm rm s) (hI : s.Inv) (c : Bool) (t id : Int) :
    Calls Tryz.prog 37 #[stV lm rm c, .int .i64 t, .int .u64 id, .bool false] w fun e w' => ∃ d, w.heap.size ≤ d ∧ e = .returned (stV (some d) rm c) ∧ StAt w' (some d) rm { s with ls := adel id s.ls } ∧ Below w.heap.size w w' := by
  have hmm := @run_makeMap Tryz.prog
  have hcp := lea_copy h hI c t id
  unfold Mid at hcp
  have c0 := (RowS.new w lm rm c).q0
  clear h hI
  unfold stV
  go_enter Tryz.func37, Tryz.ntmps37
  go_wp2_with (go_at_call 59; with_reducible refine hcp.mono ?_; rintro e w3 ⟨he3, x3, w4, hdel, L4, _⟩; subst he3; have g0 := L4.box.q0; have g1 := L4.box.q1; have g2 := L4.box.q2; have f0 := L4.box.f0; have h0 := L4.res.q0; have h1 := L4.res.q1; have h2 := L4.res.q2; have r0 := L4.res.f0; have r1 := L4.res.f1; have r2 := L4.res.f2)
  have hR : RowS (w4.setCell ⟨w.heap.size, 0, none⟩ (.map (some (w.heap.size + 1 + 1)))) (w.heap.size + 1) none none false := by
    have := L4.res
    unfold RowS at this ⊢
    rw [Below.heap_setCell _ _ _ _ (by simp)]; exact this
  have hR2 := hR.set (some (w.heap.size + 1 + 1)) rm c
  have y0 := hR2.q0
  have y1 := hR2.q1
  have y2 := hR2.q2
  exact bodyPost_ret (v := .agg #[.map (some (w.heap.size + 1 + 1)), .map rm, .bool c]) (by simp [results, Tryz.results37, go_sem, y0, y1, y2]) rfl ⟨_, by omega, rfl, L4.fin rfl⟩

set_option maxHeartbeats 1000000 in
set_option maxRecDepth 1000000 in
theorem lease_more (h : StAt w lm rm s) (hI : s.Inv) (c : Bool) (t id : Int) (hn : aget id s.ls = none) :
    Calls Tryz.prog 37 #[stV lm rm c, .int .i64 t, .int .u64 id, .bool true] w fun e w' => ∃ d, w.heap.size ≤ d ∧ e = .returned (stV (some d) rm c) ∧ StAt w' (some d) rm { s with ls := s.ls ++ [(id, t)] } ∧ Below w.heap.size w w' := by
  have hmm := @run_makeMap Tryz.prog
  have hcp := lea_copy h hI c t id
  unfold Mid at hcp
  have c0 := (RowS.new w lm rm c).q0
  clear h hI
  unfold stV
  go_enter Tryz.func37, Tryz.ntmps37
  go_wp2_with (go_at_call 59; with_reducible refine hcp.mono ?_; rintro e w3 ⟨he3, x3, w4, hdel, _, hmore⟩; obtain ⟨w5, hmu, L4⟩ := hmore hn; clear hmore; subst he3; have g0 := L4.box.q0; have g1 := L4.box.q1; have g2 := L4.box.q2; have f0 := L4.box.f0; have h0 := L4.res.q0; have h1 := L4.res.q1; have h2 := L4.res.q2; have r0 := L4.res.f0; have r1 := L4.res.f1; have r2 := L4.res.f2)
  have hR : RowS (w5.setCell ⟨w.heap.size, 0, none⟩ (.map (some (w.heap.size + 1 + 1)))) (w.heap.size + 1) none none false := by
    have := L4.res
    unfold RowS at this ⊢
    rw [Below.heap_setCell _ _ _ _ (by simp)]; exact this
  have hR2 := hR.set (some (w.heap.size + 1 + 1)) rm c
  have y0 := hR2.q0
  have y1 := hR2.q1
  have y2 := hR2.q2
  exact bodyPost_ret (v := .agg #[.map (some (w.heap.size + 1 + 1)), .map rm, .bool c]) (by simp [results, Tryz.results37, go_sem, y0, y1, y2]) rfl ⟨_, by omega, rfl, L4.fin rfl⟩

end Go.Proofs.YtigdkcpipiimnaaGreatDoor

namespace Go.Proofs.YtigdkcpipiimnaaGreatDoor
open Go.ChangeShapes Go.WideShapes Go.ChangeAt Go.RowKit Go.Eng

variable {w w' : World} {lm rm : Option Nat} {s : AuS}

/-- held. -/
theorem held_calls (h : StAt w lm rm s) (c : Bool) (t id e : Int) :
    Calls Tryz.prog 36 #[stV lm rm c, .int .i64 t, .int .u64 id, .int .i64 e] w fun x w' => x = .returned (.bool (s.held t id e)) ∧ Below w.heap.size w w' := by
  have hl := (h.grow (.cells #[.map lm, .map rm, .bool c] 30)).look id
  have b1 := below_alloc w (.cells #[.map lm, .map rm, .bool c] 30)
  unfold AuS.held AuS.mine
  clear h
  unfold stV
  cases hag : aget id s.ls with
  | none =>
    rw [hag] at hl
    simp only [Option.getD_none, Option.isSome_none] at hl
    clear hag
    by_cases h0 : e = 0
    · subst h0
      go_enter Tryz.func36, Tryz.ntmps36
      go_wp2
      go_ret
      exact ⟨by simp, b1⟩
    · have h0' : (e == 0) = false := by simpa using h0
      by_cases h5 : e = 5
      · subst h5
        go_enter Tryz.func36, Tryz.ntmps36
        go_wp2
        go_ret
        exact ⟨by simp, b1⟩
      · have h5' : (e == 5) = false := by simpa using h5
        go_enter Tryz.func36, Tryz.ntmps36
        go_wp2
        go_ret
        exact ⟨by simp [h0', h5'], b1⟩
  | some u =>
    rw [hag] at hl
    simp only [Option.getD_some, Option.isSome_some] at hl
    clear hag
    by_cases hu : u = t
    · subst hu
      by_cases h0 : e = 0
      · subst h0
        go_enter Tryz.func36, Tryz.ntmps36
        go_wp2
        go_ret
        exact ⟨by simp, b1⟩
      · have h0' : (e == 0) = false := by simpa using h0
        by_cases h5 : e = 5
        · subst h5
          go_enter Tryz.func36, Tryz.ntmps36
          go_wp2
          go_ret
          exact ⟨by simp, b1⟩
        · have h5' : (e == 5) = false := by simpa using h5
          go_enter Tryz.func36, Tryz.ntmps36
          go_wp2
          go_ret
          exact ⟨by simp [h0', h5'], b1⟩
    · have hu' : (u == t) = false := by simpa using hu
      by_cases h0 : e = 0
      · subst h0
        go_enter Tryz.func36, Tryz.ntmps36
        go_wp2
        go_ret
        exact ⟨by simp [hu'], b1⟩
      · have h0' : (e == 0) = false := by simpa using h0
        by_cases h5 : e = 5
        · subst h5
          go_enter Tryz.func36, Tryz.ntmps36
          go_wp2
          go_ret
          exact ⟨by simp [hu'], b1⟩
        · have h5' : (e == 5) = false := by simpa using h5
          go_enter Tryz.func36, Tryz.ntmps36
          go_wp2
          go_ret
          exact ⟨by simp [h0', h5'], b1⟩

/-- A function's frame: the boxed state in X, the result's place behind it. -/
structure Two (w : World) (lm rm : Option Nat) (c : Bool) (X : Nat) (v : World) : Prop where
  low : Below X w v
  box : RowS v X lm rm c
  res : RowS v (X + 1) none none false
  gt : X + 1 < v.heap.size

theorem Two.start (w : World) (lm rm : Option Nat) (c : Bool) : Two w lm rm c w.heap.size ((w.alloc (.cells #[.map lm, .map rm, .bool c] 30)).alloc (.cells #[.map none, .map none, .bool false] 30)) := by
  refine ⟨(below_alloc w _).alloc (by simp) _, (RowS.new w lm rm c).below (below_alloc _ _) (by simp), ?_, by simp⟩
  have := RowS.new (w.alloc (.cells #[.map lm, .map rm, .bool c] 30)) none none false
  simpa using this

theorem Two.below {c : Bool} {X : Nat} {v v' : World} (h : Two w lm rm c X v) (hb : Below v.heap.size v v') : Two w lm rm c X v' :=
  ⟨h.low.trans (hb.mono (by have := h.gt; omega)), h.box.below hb h.box.lt, h.res.below hb h.res.lt, Nat.lt_of_lt_of_le h.gt hb.size⟩

/-- The result is stored. -/
theorem Two.out {c c' : Bool} {X : Nat} {v : World} {lm' rm' : Option Nat} {s' : AuS} (h : Two w lm rm c X v) (st : StAt v lm' rm' s') (hl : ∀ m, lm' = some m → m ≠ X + 1) (hr : ∀ m, rm' = some m → m ≠ X + 1) :
    StAt (((v.setCell ⟨X + 1, 0, none⟩ (.map lm')).setCell ⟨X + 1, 1, none⟩ (.map rm')).setCell ⟨X + 1, 2, none⟩ (.bool c')) lm' rm' s' ∧
    Below X w (((v.setCell ⟨X + 1, 0, none⟩ (.map lm')).setCell ⟨X + 1, 1, none⟩ (.map rm')).setCell ⟨X + 1, 2, none⟩ (.bool c')) ∧
    RowS (((v.setCell ⟨X + 1, 0, none⟩ (.map lm')).setCell ⟨X + 1, 1, none⟩ (.map rm')).setCell ⟨X + 1, 2, none⟩ (.bool c')) (X + 1) lm' rm' c' :=
  ⟨((st.set hl hr _).set hl hr _).set hl hr _, ((h.low.setCell (by simp) _).setCell (by simp) _).setCell (by simp) _, h.res.set lm' rm' c'⟩

end Go.Proofs.YtigdkcpipiimnaaGreatDoor

namespace Go.Proofs.YtigdkcpipiimnaaGreatDoor
open Go.ChangeShapes Go.WideShapes Go.ChangeAt Go.RowKit Go.Eng

variable {w w' : World} {lm rm : Option Nat} {s : AuS}

/-- A map value is as old, or new. -/
def OldNew (w : World) (lm lm' : Option Nat) : Prop := ∀ m, lm' = some m → lm = some m ∨ w.heap.size ≤ m

theorem OldNew.refl (w : World) (lm : Option Nat) : OldNew w lm lm := fun _ h => .inl h

theorem OldNew.ne {X m : Nat} {v : World} {lm lm' : Option Nat} (h : OldNew v lm lm') (hv : X < v.heap.size) (ho : ∀ m, lm = some m → m < X) (e : lm' = some m) : m ≠ X := by
  rcases h m e with h | h
  · have := ho m h; omega
  · omega

set_option maxHeartbeats 1000000 in
set_option maxRecDepth 1000000 in
/-- get, of an answer that is not OK. -/
theorem get_else (h : StAt w lm rm s) (t id e : Int) (he : ¬ e = 0) :
    Calls Tryz.prog 35 #[stV lm rm s.c, .int .i64 t, .int .u64 id, .int .i64 e] w fun x w' => x = .returned (.tuple #[stV lm rm s.c, .bool (s.get t id e).2]) ∧ StAt w' lm rm s ∧ Below w.heap.size w w' := by
  have fin : Aside (∀ o1 o2 : Obj, StAt ((w.alloc o1).alloc o2) lm rm s ∧ Below w.heap.size w ((w.alloc o1).alloc o2)) := fun o1 o2 => ⟨(h.grow o1).grow o2, (below_alloc w o1).alloc (by simp) o2⟩
  clear h
  unfold AuS.get
  rw [if_neg he]
  generalize s.c = c
  have he' : (e == 0) = false := by simpa using he
  unfold stV
  by_cases h6 : e = 6
  · subst h6
    rw [if_pos rfl]
    by_cases hi : id = 0
    · subst hi
      cases c
      · go_enter Tryz.func35, Tryz.ntmps35
        go_wp2
        exact bodyPost_ret (v := .tuple #[.agg #[.map lm, .map rm, .bool false], .bool false]) (by simp [results, Tryz.results35, go_sem]) rfl ⟨by simp, fin.out _ _⟩
      · go_enter Tryz.func35, Tryz.ntmps35
        go_wp2
        exact bodyPost_ret (v := .tuple #[.agg #[.map lm, .map rm, .bool true], .bool true]) (by simp [results, Tryz.results35, go_sem]) rfl ⟨by simp, fin.out _ _⟩
    · have hi' : (id == 0) = false := by simpa using hi
      cases c
      · go_enter Tryz.func35, Tryz.ntmps35
        go_wp2
        exact bodyPost_ret (v := .tuple #[.agg #[.map lm, .map rm, .bool false], .bool false]) (by simp [results, Tryz.results35, go_sem]) rfl ⟨by simp, fin.out _ _⟩
      · go_enter Tryz.func35, Tryz.ntmps35
        go_wp2
        exact bodyPost_ret (v := .tuple #[.agg #[.map lm, .map rm, .bool true], .bool false]) (by simp [results, Tryz.results35, go_sem]) rfl ⟨by simp [hi'], fin.out _ _⟩
  · rw [if_neg h6]
    have h6' : (e == 6) = false := by simpa using h6
    by_cases h7 : e = 7
    · subst h7
      by_cases hi : id = 0
      · subst hi
        go_enter Tryz.func35, Tryz.ntmps35
        go_wp2
        exact bodyPost_ret (v := .tuple #[.agg #[.map lm, .map rm, .bool c], .bool true]) (by simp [results, Tryz.results35, go_sem]) rfl ⟨by simp, fin.out _ _⟩
      · have hi' : (id == 0) = false := by simpa using hi
        go_enter Tryz.func35, Tryz.ntmps35
        go_wp2
        exact bodyPost_ret (v := .tuple #[.agg #[.map lm, .map rm, .bool c], .bool false]) (by simp [results, Tryz.results35, go_sem]) rfl ⟨by simp [hi'], fin.out _ _⟩
    · have h7' : (e == 7) = false := by simpa using h7
      by_cases h8 : e = 8
      · subst h8
        by_cases hi : id = 0
        · subst hi
          go_enter Tryz.func35, Tryz.ntmps35
          go_wp2
          exact bodyPost_ret (v := .tuple #[.agg #[.map lm, .map rm, .bool c], .bool true]) (by simp [results, Tryz.results35, go_sem]) rfl ⟨by simp, fin.out _ _⟩
        · have hi' : (id == 0) = false := by simpa using hi
          go_enter Tryz.func35, Tryz.ntmps35
          go_wp2
          exact bodyPost_ret (v := .tuple #[.agg #[.map lm, .map rm, .bool c], .bool false]) (by simp [results, Tryz.results35, go_sem]) rfl ⟨by simp [hi'], fin.out _ _⟩
      · have h8' : (e == 8) = false := by simpa using h8
        go_enter Tryz.func35, Tryz.ntmps35
        go_wp2
        exact bodyPost_ret (v := .tuple #[.agg #[.map lm, .map rm, .bool c], .bool false]) (by simp [results, Tryz.results35, go_sem]) rfl ⟨by simp [h7', h8'], fin.out _ _⟩

set_option maxHeartbeats 1000000 in
set_option maxRecDepth 1000000 in
/-- get, of OK. -/
theorem get_ok (h : StAt w lm rm s) (hI : s.Inv) (t id : Int) :
    Calls Tryz.prog 35 #[stV lm rm s.c, .int .i64 t, .int .u64 id, .int .i64 0] w fun x w' => ∃ lm', x = .returned (.tuple #[stV lm' rm s.c, .bool (s.get t id 0).2]) ∧ StAt w' lm' rm (s.get t id 0).1 ∧ Below w.heap.size w w' ∧ OldNew w lm lm' := by
  obtain ⟨w1, hw1⟩ : ∃ w1, w1 = (w.alloc (.cells #[.map lm, .map rm, .bool s.c] 30)).alloc (.cells #[.map none, .map none, .bool false] 30) := ⟨_, rfl⟩
  have T1 : Two w lm rm s.c w.heap.size w1 := by rw [hw1]; exact Two.start w lm rm s.c
  have st1 : StAt w1 lm rm s := by rw [hw1]; exact (h.grow _).grow _
  have lw1 : w1.heap.size = w.heap.size + 1 + 1 := by rw [hw1]; simp
  have hf := free_calls st1 s.c id
  have ho : Aside ((∀ m, lm = some m → m < w.heap.size) ∧ ∀ m, rm = some m → m < w.heap.size) := ⟨h.old, h.oldR⟩
  have Kf : Aside (∀ {v : World}, Below w1.heap.size w1 v → Two w lm rm s.c w.heap.size v ∧ StAt v lm rm s) := fun hb => ⟨T1.below hb, st1.below hb⟩
  have hz : Aside (w1.heap.size = w.heap.size + 1 + 1) := lw1
  clear T1 st1 lw1 h
  subst hw1
  unfold AuS.get
  rw [if_pos rfl]
  cases hfr : s.free id with
  | false =>
    rw [hfr] at hf
    rw [if_neg (by simp)]
    clear hfr
    unfold stV at hf ⊢
    generalize s.c = c at *
    go_enter Tryz.func35, Tryz.ntmps35
    go_wp2_with (go_at_call 25; with_reducible refine hf.mono ?_; rintro x w3 ⟨hx, b3⟩; subst hx; obtain ⟨T3, st3⟩ := Kf.out b3; have q0 := T3.box.q0; have q1 := T3.box.q1; have q2 := T3.box.q2; have h0 := T3.res.q0; have h1 := T3.res.q1; have h2 := T3.res.q2; have f0 := T3.res.f0; have f1 := T3.res.f1; have f2 := T3.res.f2)
    obtain ⟨F1, F2, F3⟩ := T3.out (c' := c) st3 (fun m e => by have := ho.out.1 m e; omega) (fun m e => by have := ho.out.2 m e; omega)
    have y0 := F3.q0
    have y1 := F3.q1
    have y2 := F3.q2
    exact bodyPost_ret (v := .tuple #[.agg #[.map lm, .map rm, .bool c], .bool false]) (by simp [results, Tryz.results35, go_sem, y0, y1, y2]) rfl ⟨lm, rfl, F1, F2, OldNew.refl w lm⟩
  | true =>
    rw [hfr] at hf
    rw [if_pos rfl]
    have cl : Aside (∀ {v : World}, StAt v lm rm s → Calls Tryz.prog 37 #[stV lm rm s.c, .int .i64 t, .int .u64 id, .bool true] v fun e w' => ∃ d, v.heap.size ≤ d ∧ e = .returned (stV (some d) rm s.c) ∧ StAt w' (some d) rm { s with ls := s.ls ++ [(id, t)] } ∧ Below v.heap.size v w') := fun hv => lease_more hv hI s.c t id (AuS.free_iff.1 hfr).2.1
    clear hfr
    unfold stV at hf cl ⊢
    generalize s.c = c at *
    go_enter Tryz.func35, Tryz.ntmps35
    go_wp2_with (first
      | (go_at_call 25; with_reducible refine hf.mono ?_; rintro x w3 ⟨hx, b3⟩; subst hx; obtain ⟨T3, st3⟩ := Kf.out b3; have q0 := T3.box.q0; have q1 := T3.box.q1; have q2 := T3.box.q2; have h0 := T3.res.q0; have h1 := T3.res.q1; have h2 := T3.res.q2; have f0 := T3.res.f0; have f1 := T3.res.f1; have f2 := T3.res.f2)
      | (go_at_call 37; have h24 := cl.out st3; with_reducible refine h24.mono ?_; clear h24 q0 q1 q2 h0 h1 h2 f0 f1 f2; rintro x w4 ⟨d, hd, hx, st4, b4⟩; subst hx; have T4 := T3.below b4; have h0 := T4.res.q0; have h1 := T4.res.q1; have h2 := T4.res.q2; have f0 := T4.res.f0; have f1 := T4.res.f1; have f2 := T4.res.f2))
    have hz' := hz.out
    have hb3 := b3.size
    obtain ⟨F1, F2, F3⟩ := T4.out (c' := c) st4 (fun m e => by cases e; omega) (fun m e => by have := ho.out.2 m e; omega)
    have y0 := F3.q0
    have y1 := F3.q1
    have y2 := F3.q2
    exact bodyPost_ret (v := .tuple #[.agg #[.map (some d), .map rm, .bool c], .bool true]) (by simp [results, Tryz.results35, go_sem, y0, y1, y2]) rfl ⟨some d, rfl, F1, F2, fun m e => .inr (by cases e; omega)⟩

end Go.Proofs.YtigdkcpipiimnaaGreatDoor
