/- What a checker does with events, as lists, and in memory; a call, a retirement. Conditions: how the checker lies in memory. -/
import Derived.Test.YtigdkcpipiimnaaGreatDoorAuA
import Derived.Test.YtigdkcpipiimnaaGreatDoorMo
import Derived.Test.YtigdkcpipiimnaaGreatDoorAuB
import Derived.RegionTactic
import Derived.Deep.RegionHeld3
import Derived.Deep.QuietTactic
import Derived.BigQuiet
import Derived.WalkSpells
namespace Go.Eng
open Go.RowKit

/-! ### what a checker does with events, as lists -/

/-- An event. -/
structure Ev where
  step : Int
  thread : Int
  kind : Int
  op : Int
  id : Int
  err : Int

/-- What is on a thread's way: a call; its point. -/
structure TWay where
  call : Ev
  pt : Option Ev

/-- A checker. -/
structure CK where
  s : AuS
  ways : List (Int × TWay)
  step : Int

def CK.zero : CK := ⟨⟨[], [], false⟩, [], 0⟩

def CK.call (c : CK) (e : Ev) : CK × Int :=
  if (aget e.thread c.ways).isSome = true then (c, 12) else ({ c with ways := aput e.thread ⟨e, none⟩ c.ways }, 0)

def CK.point (c : CK) (e : Ev) : CK × Int :=
  match aget e.thread c.ways with
  | none => (c, 13)
  | some w =>
    if w.pt.isSome = true ∨ w.call.op ≠ e.op then (c, 13)
    else if (e.op = 1 ∨ e.op = 2) ∧ e.id ≠ w.call.id then (c, 17)
    else if (c.s.Point e.thread e.op e.id e.err).2 = 0 then ({ c with s := (c.s.Point e.thread e.op e.id e.err).1, ways := aput e.thread ⟨w.call, some e⟩ c.ways }, 0)
    else (c, (c.s.Point e.thread e.op e.id e.err).2)

def CK.answer (c : CK) (e : Ev) : CK × Int :=
  match aget e.thread c.ways with
  | none => (c, 13)
  | some w => match w.pt with
    | none => (c, 13)
    | some p =>
      if w.call.op ≠ e.op then (c, 13)
      else if p.id ≠ e.id ∨ p.err ≠ e.err then (c, 17)
      else ({ c with ways := adel e.thread c.ways }, 0)

def CK.retire (c : CK) (e : Ev) : CK × Int := ({ c with s := (c.s.Retire e.id).1 }, (c.s.Retire e.id).2)

def CK.bad (c : CK) (e : Ev) : Bool := decide (e.step < c.step) || decide (e.kind < 0) || decide (3 < e.kind) || decide (e.op < 0) || decide (4 < e.op)

def CK.one (c : CK) (e : Ev) : CK × Int :=
  if c.bad e = true then (c, 2)
  else if e.kind = 0 then CK.call { c with step := e.step } e
  else if e.kind = 1 then CK.point { c with step := e.step } e
  else if e.kind = 2 then CK.answer { c with step := e.step } e
  else CK.retire { c with step := e.step } e

/-- Up to the first that isn't in order: the checker; how many; the code. -/
def CK.run : CK → List Ev → CK × Nat × Int
  | c, [] => (c, 0, 0)
  | c, e :: l => if (c.one e).2 = 0 then (match CK.run (c.one e).1 l with | (c', n, x) => (c', n + 1, x)) else ((c.one e).1, 0, (c.one e).2)

theorem CK.run_cons_ok {c : CK} {e : Ev} {l : List Ev} (h : (c.one e).2 = 0) : c.run (e :: l) = ((CK.run (c.one e).1 l).1, (CK.run (c.one e).1 l).2.1 + 1, (CK.run (c.one e).1 l).2.2) := by
  rw [CK.run, if_pos h]

theorem CK.run_cons_bad {c : CK} {e : Ev} {l : List Ev} (h : ¬ (c.one e).2 = 0) : c.run (e :: l) = ((c.one e).1, 0, (c.one e).2) := by
  rw [CK.run, if_neg h]

theorem CK.run_le (l : List Ev) : ∀ c : CK, (c.run l).2.1 ≤ l.length ∧ ((c.run l).2.2 = 0 → (c.run l).2.1 = l.length) := by
  induction l with
  | nil => intro c; exact ⟨Nat.le_refl _, fun _ => rfl⟩
  | cons e l ih =>
    intro c
    by_cases h : (c.one e).2 = 0
    · rw [CK.run_cons_ok h]
      obtain ⟨h1, h2⟩ := ih (c.one e).1
      exact ⟨by simp only [List.length_cons]; omega, fun hx => by simp only [List.length_cons]; rw [h2 hx]⟩
    · rw [CK.run_cons_bad h]
      exact ⟨Nat.zero_le _, fun hx => absurd hx h⟩

/-- A beginning of what is in order is in order. -/
theorem CK.run_take (l : List Ev) : ∀ (c : CK) (k : Nat), k ≤ (c.run l).2.1 → (c.run (l.take k)).2 = (k, 0) := by
  induction l with
  | nil => intro c k hk; have : k = 0 := by simpa [CK.run] using hk
           subst this; rfl
  | cons e l ih =>
    intro c k hk
    cases k with
    | zero => rfl
    | succ k =>
      by_cases h : (c.one e).2 = 0
      · rw [CK.run_cons_ok h] at hk
        rw [List.take_succ_cons, CK.run_cons_ok h]
        have := ih (c.one e).1 k (by simpa using hk)
        rw [this]
      · rw [CK.run_cons_bad h] at hk
        simp at hk

theorem AuS.Point_code (s : AuS) (t op id e : Int) : (s.Point t op id e).2 = 0 ∨ s.Point t op id e = (s, 17) := by
  unfold AuS.Point
  split
  · exact .inl rfl
  · exact .inr rfl
theorem AuS.Retire_code (s : AuS) (id : Int) : (s.Retire id).2 = 0 ∨ s.Retire id = (s, 17) := by
  unfold AuS.Retire
  split
  · exact .inl rfl
  · exact .inr rfl

/-- What an event in order does. -/
def CK.Goes (c : CK) (e : Ev) (c' : CK) : Prop :=
  c.step ≤ e.step ∧ c'.step = e.step ∧
  ((e.kind = 0 ∧ c'.s = c.s ∧ aget e.thread c.ways = none ∧ c'.ways = aput e.thread ⟨e, none⟩ c.ways) ∨
   (e.kind = 1 ∧ ∃ w, aget e.thread c.ways = some w ∧ w.pt = none ∧ w.call.op = e.op ∧ c.s.Point e.thread e.op e.id e.err = (c'.s, 0) ∧ c'.ways = aput e.thread ⟨w.call, some e⟩ c.ways) ∨
   (e.kind = 2 ∧ ∃ w p, aget e.thread c.ways = some w ∧ w.pt = some p ∧ w.call.op = e.op ∧ p.id = e.id ∧ p.err = e.err ∧ c'.s = c.s ∧ c'.ways = adel e.thread c.ways) ∨
   (e.kind = 3 ∧ c.s.Retire e.id = (c'.s, 0) ∧ c'.ways = c.ways))

theorem CK.one_cases (c : CK) (e : Ev) : (¬ (c.one e).2 = 0 ∧ (c.one e).1.s = c.s) ∨ ((c.one e).2 = 0 ∧ c.Goes e (c.one e).1) := by
  unfold CK.one
  by_cases hb : c.bad e = true
  · rw [if_pos hb]; exact .inl ⟨by simp, rfl⟩
  · rw [if_neg hb]
    have hk : c.step ≤ e.step ∧ 0 ≤ e.kind ∧ e.kind ≤ 3 := by
      unfold CK.bad at hb
      simp only [Bool.or_eq_true, decide_eq_true_eq, not_or] at hb
      omega
    by_cases h0 : e.kind = 0
    · rw [if_pos h0]
      unfold CK.call
      split
      · exact .inl ⟨by simp, rfl⟩
      · rename_i hn
        exact .inr ⟨rfl, hk.1, rfl, .inl ⟨h0, rfl, by simpa using hn, rfl⟩⟩
    · rw [if_neg h0]
      by_cases h1 : e.kind = 1
      · rw [if_pos h1]
        unfold CK.point
        simp only
        cases hw : aget e.thread c.ways with
        | none => exact .inl ⟨by simp, rfl⟩
        | some w =>
          simp only
          by_cases hp : w.pt.isSome = true ∨ w.call.op ≠ e.op
          · rw [if_pos hp]; exact .inl ⟨by simp, rfl⟩
          · rw [if_neg hp]
            by_cases hi : (e.op = 1 ∨ e.op = 2) ∧ e.id ≠ w.call.id
            · rw [if_pos hi]; exact .inl ⟨by simp, rfl⟩
            · rw [if_neg hi]
              by_cases hz : (c.s.Point e.thread e.op e.id e.err).2 = 0
              · rw [if_pos hz]
                refine .inr ⟨rfl, hk.1, rfl, .inr (.inl ⟨h1, w, hw, ?_, ?_, ?_, rfl⟩)⟩
                · cases hwp : w.pt with
                  | none => rfl
                  | some p => exact absurd (.inl (by rw [hwp]; rfl)) hp
                · exact Classical.byContradiction fun h => hp (.inr h)
                · exact Prod.ext rfl hz
              · rw [if_neg hz]; exact .inl ⟨hz, rfl⟩
      · rw [if_neg h1]
        by_cases h2 : e.kind = 2
        · rw [if_pos h2]
          unfold CK.answer
          simp only
          cases hw : aget e.thread c.ways with
          | none => exact .inl ⟨by simp, rfl⟩
          | some w =>
            simp only
            cases hwp : w.pt with
            | none => exact .inl ⟨by simp, rfl⟩
            | some p =>
              simp only
              by_cases ho : w.call.op ≠ e.op
              · rw [if_pos ho]; exact .inl ⟨by simp, rfl⟩
              · rw [if_neg ho]
                by_cases hi : p.id ≠ e.id ∨ p.err ≠ e.err
                · rw [if_pos hi]; exact .inl ⟨by simp, rfl⟩
                · rw [if_neg hi]
                  refine .inr ⟨rfl, hk.1, rfl, .inr (.inr (.inl ⟨h2, w, p, hw, hwp, Classical.not_not.1 ho, ?_, ?_, rfl, rfl⟩))⟩
                  · exact Classical.byContradiction fun h => hi (.inl h)
                  · exact Classical.byContradiction fun h => hi (.inr h)
        · rw [if_neg h2]
          have h3 : e.kind = 3 := by omega
          unfold CK.retire
          rcases c.s.Retire_code e.id with h | h
          · exact .inr ⟨h, hk.1, rfl, .inr (.inr (.inr ⟨h3, Prod.ext rfl h, rfl⟩))⟩
          · refine .inl ⟨?_, ?_⟩
            · simp only; rw [h]; simp
            · simp only; rw [h]

/-! ### backward: a thread's points, up to its last call -/

def scan (t : Int) : List Ev → List Ev × Option Ev
  | [] => ([], none)
  | e :: l => if e.thread = t ∧ e.kind = 0 then ([], some e) else if e.thread = t ∧ e.kind = 1 then (e :: (scan t l).1, (scan t l).2) else scan t l

/-- What holds of a checker behind some events, the newest first. -/
structure CK.Inv (c : CK) (back : List Ev) : Prop where
  si : c.s.Inv
  keys : Keys1 c.ways
  way : ∀ t w, aget t c.ways = some w → scan t back = (w.pt.toList, some w.call) ∧ w.call.step ≤ c.step ∧ ∀ p, w.pt = some p → p.op = w.call.op

theorem CK.inv0 : CK.Inv CK.zero [] := ⟨AuS.inv0, List.Pairwise.nil, fun t w h => by simp [CK.zero, aget] at h⟩

theorem scan_other {t : Int} {e : Ev} {l : List Ev} (h : e.thread ≠ t) : scan t (e :: l) = scan t l := by
  rw [scan, if_neg (fun x => h x.1), if_neg (fun x => h x.1)]
theorem scan_kind {t : Int} {e : Ev} {l : List Ev} (h0 : e.kind ≠ 0) (h1 : e.kind ≠ 1) : scan t (e :: l) = scan t l := by
  rw [scan, if_neg (fun x => h0 x.2), if_neg (fun x => h1 x.2)]

theorem CK.Goes.inv {c c' : CK} {e : Ev} {back : List Ev} (h : c.Inv back) (g : c.Goes e c') : c'.Inv (e :: back) := by
  obtain ⟨hs, hs', hc⟩ := g
  have old : ∀ t w, aget t c.ways = some w → w.call.step ≤ c'.step := fun t w hw => by rw [hs']; exact Int.le_trans (h.way t w hw).2.1 hs
  rcases hc with ⟨hk, h1, hn, hw⟩ | ⟨hk, w0, h0, hpt, hop, hP, hw⟩ | ⟨hk, w0, p0, h0, hpt, hop, _, _, h1, hw⟩ | ⟨hk, hR, hw⟩
  · refine ⟨by rw [h1]; exact h.si, by rw [hw]; exact h.keys.put _ _, fun t w ht => ?_⟩
    rw [hw, aget_aput'] at ht
    by_cases e1 : t = e.thread
    · rw [if_pos e1] at ht
      obtain rfl := Option.some.inj ht
      refine ⟨?_, by rw [hs']; exact Int.le_refl _, fun p hp => by cases hp⟩
      rw [scan, if_pos ⟨e1.symm, hk⟩]; rfl
    · rw [if_neg e1] at ht
      rw [scan_other (fun x => e1 x.symm)]
      exact ⟨(h.way t w ht).1, old t w ht, (h.way t w ht).2.2⟩
  · have hI := h.si.Point e.thread e.op e.id e.err
    rw [hP] at hI
    refine ⟨hI, by rw [hw]; exact h.keys.put _ _, fun t w ht => ?_⟩
    rw [hw, aget_aput'] at ht
    by_cases e1 : t = e.thread
    · rw [if_pos e1] at ht
      obtain rfl := Option.some.inj ht
      subst e1
      have hb := h.way _ w0 h0
      refine ⟨?_, old _ w0 h0, fun p hp => by obtain rfl := Option.some.inj hp; exact hop.symm⟩
      rw [scan, if_neg (fun x => by rw [hk] at x; exact absurd x.2 (by decide)), if_pos ⟨rfl, hk⟩, hb.1, hpt]
      rfl
    · rw [if_neg e1] at ht
      rw [scan_other (fun x => e1 x.symm)]
      exact ⟨(h.way t w ht).1, old t w ht, (h.way t w ht).2.2⟩
  · refine ⟨by rw [h1]; exact h.si, by rw [hw]; exact h.keys.del _, fun t w ht => ?_⟩
    rw [hw, aget_adel h.keys] at ht
    by_cases e1 : t = e.thread
    · rw [if_pos e1] at ht; cases ht
    · rw [if_neg e1] at ht
      rw [scan_kind (by rw [hk]; decide) (by rw [hk]; decide)]
      exact ⟨(h.way t w ht).1, old t w ht, (h.way t w ht).2.2⟩
  · have hI := h.si.retire e.id
    rw [hR] at hI
    refine ⟨hI, by rw [hw]; exact h.keys, fun t w ht => ?_⟩
    rw [hw] at ht
    rw [scan_kind (by rw [hk]; decide) (by rw [hk]; decide)]
    exact ⟨(h.way t w ht).1, old t w ht, (h.way t w ht).2.2⟩

/-- Of an answer that is in order: its call; its one point. -/
theorem CK.Goes.answer {c c' : CK} {e : Ev} {back : List Ev} (h : c.Inv back) (g : c.Goes e c') (hk : e.kind = 2) :
    ∃ p q, scan e.thread back = ([p], some q) ∧ p.id = e.id ∧ p.err = e.err ∧ p.op = e.op ∧ q.op = e.op ∧ q.step ≤ e.step := by
  obtain ⟨hs, hs', hc⟩ := g
  rcases hc with ⟨h0, _⟩ | ⟨h0, _⟩ | ⟨_, w0, p0, h0, hpt, hop, h1, h2, _, _⟩ | ⟨h0, _⟩
  · rw [hk] at h0; exact absurd h0 (by decide)
  · rw [hk] at h0; exact absurd h0 (by decide)
  · obtain ⟨k1, k2, k3⟩ := h.way _ w0 h0
    refine ⟨p0, w0.call, by rw [k1, hpt]; rfl, h1, h2, by rw [k3 p0 hpt]; exact hop, hop, Int.le_trans k2 hs⟩
  · rw [hk] at h0; exact absurd h0 (by decide)

/-- A point, or a retirement, played again. -/
def replay : AuS → List Ev → Option AuS
  | s, [] => some s
  | s, e :: l => if e.kind = 3 then (if (s.Retire e.id).2 = 0 then replay (s.Retire e.id).1 l else none) else (if (s.Point e.thread e.op e.id e.err).2 = 0 then replay (s.Point e.thread e.op e.id e.err).1 l else none)

def marks (l : List Ev) : List Ev := l.filter fun e => e.kind == 1 || e.kind == 3

/-- Of events that are in order: they may be played again. -/
theorem CK.replays (l : List Ev) : ∀ (c : CK), (c.run l).2 = (l.length, 0) → replay c.s (marks l) = some (c.run l).1.s := by
  induction l with
  | nil => intro c _; rfl
  | cons e l ih =>
    intro c h
    rcases c.one_cases e with ⟨hb, _⟩ | ⟨h0, g⟩
    · rw [CK.run_cons_bad hb] at h
      simp at h
    · rw [CK.run_cons_ok h0] at h ⊢
      have h' : ((c.one e).1.run l).2 = (l.length, 0) := by
        simp only [List.length_cons, Prod.mk.injEq] at h
        exact Prod.ext (by simp only; omega) h.2
      have hi := ih (c.one e).1 h'
      obtain ⟨_, _, hc⟩ := g
      rcases hc with ⟨hk, h1, _⟩ | ⟨hk, w0, _, _, _, hP, _⟩ | ⟨hk, w0, p0, _, _, _, _, _, h1, _⟩ | ⟨hk, hR, _⟩
      · have : marks (e :: l) = marks l := by unfold marks; rw [List.filter_cons_of_neg]; rw [hk]; decide
        rw [this, ← h1]; exact hi
      · have : marks (e :: l) = e :: marks l := by unfold marks; rw [List.filter_cons_of_pos]; rw [hk]; decide
        rw [this, replay, if_neg (by rw [hk]; decide), hP, if_pos rfl]
        exact hi
      · have : marks (e :: l) = marks l := by unfold marks; rw [List.filter_cons_of_neg]; rw [hk]; decide
        rw [this, ← h1]; exact hi
      · have : marks (e :: l) = e :: marks l := by unfold marks; rw [List.filter_cons_of_pos]; rw [hk]; decide
        rw [this, replay, if_pos hk, hR, if_pos rfl]
        exact hi

/-- The state behind the first that isn't in order is that ahead of it. -/
theorem CK.run_state (l : List Ev) : ∀ (c : CK), (c.run l).1.s = (c.run (l.take (c.run l).2.1)).1.s := by
  induction l with
  | nil => intro c; rfl
  | cons e l ih =>
    intro c
    by_cases h : (c.one e).2 = 0
    · rw [CK.run_cons_ok h]
      simp only [List.take_succ_cons]
      rw [CK.run_cons_ok h]
      exact ih _
    · rw [CK.run_cons_bad h]
      simp only [List.take_zero]
      rcases c.one_cases e with ⟨_, hs⟩ | ⟨h0, _⟩
      · rw [hs]; rfl
      · exact absurd h0 h

/-- Behind k events in order the checker keeps its word. -/
theorem CK.inv_take (l : List Ev) : ∀ (c : CK) (back : List Ev), c.Inv back → ∀ k, k ≤ (c.run l).2.1 → (c.run (l.take k)).1.Inv ((l.take k).reverse ++ back) := by
  induction l with
  | nil => intro c back h k hk; simpa [CK.run] using h
  | cons e l ih =>
    intro c back h k hk
    cases k with
    | zero => simpa [CK.run] using h
    | succ k =>
      by_cases h0 : (c.one e).2 = 0
      · rw [CK.run_cons_ok h0] at hk
        rcases c.one_cases e with ⟨hb, _⟩ | ⟨_, g⟩
        · exact absurd h0 hb
        · rw [List.take_succ_cons, CK.run_cons_ok h0]
          have := ih (c.one e).1 (e :: back) (g.inv h) k (by simpa using hk)
          simpa using this
      · rw [CK.run_cons_bad h0] at hk
        simp at hk

/-- Of each answer among the events that are in order: its call; its one point. -/
theorem CK.answers (l : List Ev) {i : Nat} {e : Ev} (hi : i < (CK.zero.run l).2.1) (he : l[i]? = some e) (hk : e.kind = 2) :
    ∃ p q, scan e.thread (l.take i).reverse = ([p], some q) ∧ p.id = e.id ∧ p.err = e.err ∧ p.op = e.op ∧ q.op = e.op ∧ q.step ≤ e.step := by
  have hI := CK.inv_take l CK.zero [] CK.inv0 i (Nat.le_of_lt hi)
  rw [List.append_nil] at hI
  have hr := CK.run_take l CK.zero (i + 1) hi
  have e1 : l.take (i + 1) = l.take i ++ [e] := by rw [List.take_add_one, he]; rfl
  have happ : ∀ (a : List Ev) (c : CK), (c.run (a ++ [e])).2 = (a.length + 1, 0) → ((c.run a).1.one e).2 = 0 := by
    intro a
    induction a with
    | nil =>
      intro c h
      by_cases h0 : (c.one e).2 = 0
      · exact h0
      · rw [List.nil_append, CK.run_cons_bad h0] at h
        simp at h
    | cons x a ih =>
      intro c h
      by_cases h0 : (c.one x).2 = 0
      · rw [List.cons_append, CK.run_cons_ok h0] at h
        rw [CK.run_cons_ok h0]
        refine ih (c.one x).1 (Prod.ext ?_ ?_)
        · simp only [List.length_cons, Prod.mk.injEq] at h
          simp only; omega
        · simp only [Prod.mk.injEq] at h
          exact h.2
      · rw [List.cons_append, CK.run_cons_bad h0] at h
        simp at h
  have hl : (l.take i).length = i := by
    have := (List.getElem?_eq_some_iff.1 he).1
    simp only [List.length_take]; omega
  rw [e1] at hr
  have h0 := happ (l.take i) CK.zero (by rw [hr, hl])
  rcases CK.one_cases (CK.zero.run (l.take i)).1 e with ⟨hb, _⟩ | ⟨_, g⟩
  · exact absurd h0 hb
  · exact g.answer hI hk

end Go.Eng

namespace Go.Eng
open Go.ChangeShapes Go.WideShapes Go.RowKit Go.Deep

theorem read_list {α : Type} {p : Nat → α → Prop} : ∀ (n : Nat), (∀ i, i < n → ∃ x, p i x) → ∃ l : List α, l.length = n ∧ ∀ i x, l[i]? = some x → p i x
  | 0, _ => ⟨[], rfl, fun i x h => by simp at h⟩
  | n + 1, h => by
    obtain ⟨l, hl, hp⟩ := read_list n fun i hi => h i (by omega)
    obtain ⟨x, hx⟩ := h n (by omega)
    refine ⟨l ++ [x], by simp [hl], fun i y hy => ?_⟩
    by_cases e : i < n
    · rw [List.getElem?_append_left (by omega)] at hy
      exact hp i y hy
    · have hlt := (List.getElem?_eq_some_iff.1 hy).1
      simp only [List.length_append, List.length_singleton, hl] at hlt
      obtain rfl : i = n := by omega
      rw [List.getElem?_append_right (by omega), hl, Nat.sub_self] at hy
      simp at hy
      rw [← hy]; exact hx

/-- An event's cells. -/
def evV (e : Ev) : List Value := [.int .u64 e.step, .int .i64 e.thread, .int .i64 e.kind, .int .i64 e.op, .int .u64 e.id, .int .i64 e.err]

/-- An event lies at off. -/
def EvCells (w : World) (b off : Nat) (e : Ev) : Prop :=
  w.cell? ⟨b, off, none⟩ = some (.int .u64 e.step) ∧ w.cell? ⟨b, off + 1, none⟩ = some (.int .i64 e.thread) ∧ w.cell? ⟨b, off + 2, none⟩ = some (.int .i64 e.kind) ∧
  w.cell? ⟨b, off + 3, none⟩ = some (.int .i64 e.op) ∧ w.cell? ⟨b, off + 4, none⟩ = some (.int .u64 e.id) ∧ w.cell? ⟨b, off + 5, none⟩ = some (.int .i64 e.err)

/-- The events that a slice of structs of six numbers holds. -/
theorem events_of {w : World} {b off n : Nat} (h : ∀ i, i < n → SixAt w b (off + i * 6) .u64 .i64 .i64 .i64 .u64 .i64) :
    ∃ l : List Ev, l.length = n ∧ ∀ i e, l[i]? = some e → EvCells w b (off + i * 6) e ∧ (Lit.int .u64 e.step).wf = true ∧ (Lit.int .i64 e.thread).wf = true ∧ (Lit.int .i64 e.kind).wf = true ∧ (Lit.int .i64 e.op).wf = true ∧ (Lit.int .u64 e.id).wf = true ∧ (Lit.int .i64 e.err).wf = true :=
  read_list (p := fun i e => EvCells w b (off + i * 6) e ∧ (Lit.int .u64 e.step).wf = true ∧ (Lit.int .i64 e.thread).wf = true ∧ (Lit.int .i64 e.kind).wf = true ∧ (Lit.int .i64 e.op).wf = true ∧ (Lit.int .u64 e.id).wf = true ∧ (Lit.int .i64 e.err).wf = true) n fun i hi => by
    obtain ⟨x0, x1, x2, x3, x4, x5, hc, w0, w1, w2, w3, w4, w5⟩ := h i hi
    exact ⟨⟨x0, x1, x2, x3, x4, x5⟩, hc, w0, w1, w2, w3, w4, w5⟩

end Go.Eng

namespace Go.Proofs.YtigdkcpipiimnaaGreatDoor
open Go.ChangeShapes Go.WideShapes Go.ChangeAt Go.RowKit Go.Eng Go.Deep

/-! ### a checker in memory -/

/-- All that was there is as it was, but for the blocks that S names. -/
structure Upto (S : Nat → Prop) (w w' : World) : Prop where
  os : w'.os = w.os
  tape : w'.tape = w.tape
  output : w'.output = w.output
  size : w.heap.size ≤ w'.heap.size
  block : ∀ k, k < w.heap.size → ¬ S k → w'.heap[k]? = w.heap[k]?

theorem Upto.of_below {S : Nat → Prop} {w w' : World} (h : Below w.heap.size w w') : Upto S w w' := ⟨h.os, h.tape, h.output, h.size, fun k hk _ => h.block k hk⟩
theorem Upto.below {S : Nat → Prop} {w w' : World} {B : Nat} (h : Upto S w w') (hB : B ≤ w.heap.size) (hS : ∀ k, S k → B ≤ k) : Below B w w' :=
  ⟨h.os, h.tape, h.output, h.size, fun k hk => h.block k (by omega) (fun s => by have := hS k s; omega)⟩
theorem Upto.trans {S : Nat → Prop} {a b c : World} (h : Upto S a b) (k : Upto S b c) : Upto S a c :=
  ⟨k.os.trans h.os, k.tape.trans h.tape, k.output.trans h.output, Nat.le_trans h.size k.size, fun j hj hs => (k.block j (Nat.lt_of_lt_of_le hj h.size) hs).trans (h.block j hj hs)⟩
theorem Upto.mono {S T : Nat → Prop} {a b : World} (h : Upto S a b) (hs : ∀ k, S k → T k) : Upto T a b := ⟨h.os, h.tape, h.output, h.size, fun j hj ht => h.block j hj fun s => ht (hs j s)⟩
theorem Upto.alloc {S : Nat → Prop} {a b : World} (h : Upto S a b) (o : Obj) : Upto S a (b.alloc o) := h.trans (.of_below ((Below.refl _ _).alloc (Nat.le_refl _) o))
theorem Upto.drew {S : Nat → Prop} {a b : World} (h : Upto S a b) : Upto S a b.drew := ⟨h.os, h.tape, h.output, h.size, h.block⟩
theorem Upto.setCell {S : Nat → Prop} {a b : World} (h : Upto S a b) {p : Addr} (hp : S p.block ∨ a.heap.size ≤ p.block) (v : Value) : Upto S a (b.setCell p v) :=
  ⟨h.os, h.tape, h.output, by simpa using h.size, fun j hj hs => by
    rw [Below.heap_setCell b p v j (by rintro rfl; rcases hp with g | g; exact hs g; omega)]
    exact h.block j hj hs⟩
theorem Upto.put {S : Nat → Prop} {a b : World} (h : Upto S a b) {m : Nat} (hm : S m) (o : Obj) : Upto S a { b with heap := b.heap.setIfInBounds m o } :=
  ⟨h.os, h.tape, h.output, by simpa using h.size, fun j hj hs => by
    have hne : m ≠ j := by rintro rfl; exact hs hm
    simp only [Array.getElem?_setIfInBounds, if_neg hne]
    exact h.block j hj hs⟩

/-- An event as a value. -/
abbrev evA (e : Ev) : Value := .agg #[.int .u64 e.step, .int .i64 e.thread, .int .i64 e.kind, .int .i64 e.op, .int .u64 e.id, .int .i64 e.err]

/-- A way as a value: its call; where its point lies. -/
abbrev wayV (p : Ev × Option Nat) : Value := .agg #[.int .u64 p.1.step, .int .i64 p.1.thread, .int .i64 p.1.kind, .int .i64 p.1.op, .int .u64 p.1.id, .int .i64 p.1.err, .pointer (p.2.map fun b => ⟨b, 0, none⟩)]

/-- An event in a block of its own. -/
def EvBlk (w : World) (b : Nat) (e : Ev) : Prop := w.heap[b]? = some (.cells #[.int .u64 e.step, .int .i64 e.thread, .int .i64 e.kind, .int .i64 e.op, .int .u64 e.id, .int .i64 e.err] 34 (0, 0))

variable {w w' v v' : World} {b : Nat} {e : Ev}
theorem EvBlk.q0 (h : EvBlk w b e) : w.cell? ⟨b, 0, none⟩ = some (.int .u64 e.step) := by unfold EvBlk at h; simp [World.cell?, h]
theorem EvBlk.q1 (h : EvBlk w b e) : w.cell? ⟨b, 1, none⟩ = some (.int .i64 e.thread) := by unfold EvBlk at h; simp [World.cell?, h]
theorem EvBlk.q2 (h : EvBlk w b e) : w.cell? ⟨b, 2, none⟩ = some (.int .i64 e.kind) := by unfold EvBlk at h; simp [World.cell?, h]
theorem EvBlk.q3 (h : EvBlk w b e) : w.cell? ⟨b, 3, none⟩ = some (.int .i64 e.op) := by unfold EvBlk at h; simp [World.cell?, h]
theorem EvBlk.q4 (h : EvBlk w b e) : w.cell? ⟨b, 4, none⟩ = some (.int .u64 e.id) := by unfold EvBlk at h; simp [World.cell?, h]
theorem EvBlk.q5 (h : EvBlk w b e) : w.cell? ⟨b, 5, none⟩ = some (.int .i64 e.err) := by unfold EvBlk at h; simp [World.cell?, h]
theorem EvBlk.lt (h : EvBlk w b e) : b < w.heap.size := (Array.getElem?_eq_some_iff.1 h).1
theorem EvBlk.below {B : Nat} (h : EvBlk w b e) (hb : Below B w w') (hB : b < B) : EvBlk w' b e := (hb.block b hB).trans h
theorem EvBlk.new (w : World) (e : Ev) : EvBlk (w.alloc (.cells #[.int .u64 e.step, .int .i64 e.thread, .int .i64 e.kind, .int .i64 e.op, .int .u64 e.id, .int .i64 e.err] 34)) w.heap.size e := (Go.MapKept.heap_alloc w _).1

/-- A way in a map, and the way that it is. -/
def WayR (w : World) (p : Ev × Option Nat) (x : TWay) : Prop := p.1 = x.call ∧ ((p.2 = none ∧ x.pt = none) ∨ ∃ b q, p.2 = some b ∧ x.pt = some q ∧ EvBlk w b q)

/-- The map of ways. -/
def WaysAt (w : World) (wm : Nat) (ways : List (Int × TWay)) : Prop :=
  ∃ wl, MapSt .i64 wayV w wm wl ∧ Keys1 wl ∧ ∀ t, (aget t wl = none ∧ aget t ways = none) ∨ ∃ p x, aget t wl = some p ∧ aget t ways = some x ∧ WayR w p x

theorem WayR.below {p : Ev × Option Nat} {x : TWay} (h : WayR w p x) (hb : Below w.heap.size w w') : WayR w' p x := by
  obtain ⟨h1, h2⟩ := h
  refine ⟨h1, ?_⟩
  rcases h2 with h2 | ⟨b, q, h3, h4, h5⟩
  · exact .inl h2
  · exact .inr ⟨b, q, h3, h4, h5.below hb h5.lt⟩

theorem WaysAt.below {wm : Nat} {ways : List (Int × TWay)} (h : WaysAt w wm ways) (hb : Below w.heap.size w w') : WaysAt w' wm ways := by
  obtain ⟨wl, h1, h2, h3⟩ := h
  refine ⟨wl, h1.below hb h1.lt, h2, fun t => ?_⟩
  rcases h3 t with h | ⟨p, x, k1, k2, k3⟩
  · exact .inl h
  · exact .inr ⟨p, x, k1, k2, k3.below hb⟩

/-- A checker in block C. -/
structure CkAt (w : World) (C : Nat) (lm rm : Option Nat) (wm : Nat) (c : CK) : Prop where
  row : w.heap[C]? = some (.cells #[.map lm, .map rm, .bool c.s.c, .map (some wm), .int .u64 c.step] 75 (0, 0))
  st : StAt w lm rm c.s
  wy : WaysAt w wm c.ways
  nl : lm ≠ some wm
  nr : rm ≠ some wm

variable {C wm : Nat} {lm rm : Option Nat} {c : CK}
theorem CkAt.q0 (h : CkAt w C lm rm wm c) : w.cell? ⟨C, 0, none⟩ = some (.map lm) := by simp [World.cell?, h.row]
theorem CkAt.q1 (h : CkAt w C lm rm wm c) : w.cell? ⟨C, 1, none⟩ = some (.map rm) := by simp [World.cell?, h.row]
theorem CkAt.q2 (h : CkAt w C lm rm wm c) : w.cell? ⟨C, 2, none⟩ = some (.bool c.s.c) := by simp [World.cell?, h.row]
theorem CkAt.q3 (h : CkAt w C lm rm wm c) : w.cell? ⟨C, 3, none⟩ = some (.map (some wm)) := by simp [World.cell?, h.row]
theorem CkAt.q4 (h : CkAt w C lm rm wm c) : w.cell? ⟨C, 4, none⟩ = some (.int .u64 c.step) := by simp [World.cell?, h.row]
theorem CkAt.f0 (h : CkAt w C lm rm wm c) : w.frozen? ⟨C, 0, none⟩ = false := by simp [World.frozen?, h.row]
theorem CkAt.f1 (h : CkAt w C lm rm wm c) : w.frozen? ⟨C, 1, none⟩ = false := by simp [World.frozen?, h.row]
theorem CkAt.f2 (h : CkAt w C lm rm wm c) : w.frozen? ⟨C, 2, none⟩ = false := by simp [World.frozen?, h.row]
theorem CkAt.f4 (h : CkAt w C lm rm wm c) : w.frozen? ⟨C, 4, none⟩ = false := by simp [World.frozen?, h.row]
theorem CkAt.lt (h : CkAt w C lm rm wm c) : C < w.heap.size := (Array.getElem?_eq_some_iff.1 h.row).1
theorem CkAt.below (h : CkAt w C lm rm wm c) (hb : Below w.heap.size w w') : CkAt w' C lm rm wm c := ⟨(hb.block C h.lt).trans h.row, h.st.below hb, h.wy.below hb, h.nl, h.nr⟩

/-- A look-up among the ways. -/
theorem ways_look {ways : List (Int × TWay)} (h : WaysAt w wm ways) (t : Int) :
    (aget t ways = none ∧ (Instr.lookup 73 (.map (some wm)) (.int .i64 t) true).run Tryz.prog w = .ok (.tuple #[.agg #[.int .u64 0, .int .i64 0, .int .i64 0, .int .i64 0, .int .u64 0, .int .i64 0, .pointer none], .bool false]) w) ∨
    ∃ p x, aget t ways = some x ∧ WayR w p x ∧ (Instr.lookup 73 (.map (some wm)) (.int .i64 t) true).run Tryz.prog w = .ok (.tuple #[wayV p, .bool true]) w := by
  obtain ⟨wl, h1, h2, h3⟩ := h
  have := run_lookup_ents (P := Tryz.prog) Tryz.underlying73 Tryz.underlying3 Tryz.zeroValue89 h1.is t true
  rcases h3 t with ⟨k1, k2⟩ | ⟨p, x, k1, k2, k3⟩
  · rw [k1] at this
    exact .inl ⟨k2, this⟩
  · rw [k1] at this
    exact .inr ⟨p, x, k2, k3, this⟩

/-- What is on no way. -/
def p0 : Ev × Option Nat := (⟨0, 0, 0, 0, 0, 0⟩, none)

/-- A look-up among the ways, in every later world. -/
theorem ways_looks {ways : List (Int × TWay)} (h : WaysAt w wm ways) (t : Int) :
    ∃ (p : Ev × Option Nat) (ok : Bool), (∀ w', Below w.heap.size w w' → (Instr.lookup 73 (.map (some wm)) (.int .i64 t) true).run Tryz.prog w' = .ok (.tuple #[wayV p, .bool ok]) w') ∧
      ((aget t ways = none ∧ ok = false ∧ p = p0) ∨ ∃ x, aget t ways = some x ∧ ok = true ∧ ∀ w', Below w.heap.size w w' → WayR w' p x) := by
  obtain ⟨wl, h1, h2, h3⟩ := h
  have run := fun (w' : World) (hb : Below w.heap.size w w') => run_lookup_ents (P := Tryz.prog) Tryz.underlying73 Tryz.underlying3 Tryz.zeroValue89 (h1.below hb h1.lt).is t true
  rcases h3 t with ⟨k1, k2⟩ | ⟨p, x, k1, k2, k3⟩
  · rw [k1] at run
    exact ⟨p0, false, run, .inl ⟨k2, rfl, rfl⟩⟩
  · rw [k1] at run
    exact ⟨p, true, run, .inr ⟨x, k2, rfl, fun w' hb => k3.below hb⟩⟩

theorem EvBlk.put {ms : List MapEntry} {ck : Nat} {β : Type} {V : β → Value} {es : List (Int × β)} {k : IntKind} (h : EvBlk w b e) (hm : MapSt k V w wm es) : EvBlk { w with heap := w.heap.setIfInBounds wm (.map ms.toArray ck) } b e := by
  unfold EvBlk at h ⊢
  show (w.heap.setIfInBounds wm _)[b]? = _
  rw [Array.getElem?_setIfInBounds, if_neg]
  · exact h
  · rintro rfl
    obtain ⟨ms', c', h1, _⟩ := hm
    rw [h] at h1; simp at h1

theorem WayR.put {ms : List MapEntry} {ck : Nat} {β : Type} {V : β → Value} {es : List (Int × β)} {k : IntKind} {p : Ev × Option Nat} {x : TWay} (h : WayR w p x) (hm : MapSt k V w wm es) : WayR { w with heap := w.heap.setIfInBounds wm (.map ms.toArray ck) } p x := by
  obtain ⟨h1, h2⟩ := h
  refine ⟨h1, ?_⟩
  rcases h2 with h2 | ⟨b, q, h3, h4, h5⟩
  · exact .inl h2
  · exact .inr ⟨b, q, h3, h4, h5.put hm⟩

/-- A way is put. -/
theorem ways_put {ways : List (Int × TWay)} (h : WaysAt w wm ways) (t : Int) {p : Ev × Option Nat} {x : TWay} (hr : WayR w p x) :
    ∃ (ms : List MapEntry) (ck : Nat), (Instr.mapUpdate 73 (.map (some wm)) (.int .i64 t) (wayV p)).run Tryz.prog w = .ok () { w with heap := w.heap.setIfInBounds wm (.map ms.toArray ck) } ∧
      WaysAt { w with heap := w.heap.setIfInBounds wm (.map ms.toArray ck) } wm (aput t x ways) := by
  obtain ⟨wl, h1, h2, h3⟩ := h
  obtain ⟨ms, ck, hmu, he, hs⟩ := run_mapUpdate_st (P := Tryz.prog) Tryz.underlying73 Tryz.underlying3 h1 t p
  refine ⟨ms, ck, hmu, aput t p wl, MapSt.put h1.lt he hs, h2.put _ _, fun u => ?_⟩
  rw [aget_aput', aget_aput']
  by_cases e : u = t
  · rw [if_pos e, if_pos e]
    exact .inr ⟨p, x, rfl, rfl, hr.put h1⟩
  · rw [if_neg e, if_neg e]
    rcases h3 u with h | ⟨p', x', k1, k2, k3⟩
    · exact .inl h
    · exact .inr ⟨p', x', k1, k2, k3.put h1⟩

/-- A way is gone. -/
theorem ways_del {ways : List (Int × TWay)} (h : WaysAt w wm ways) (hk : Keys1 ways) (t : Int) :
    ∃ (ms : List MapEntry) (ck : Nat), (Builtin.delete_ #[73, 3] 0 #[.map (some wm), .int .i64 t]).run Tryz.prog w = .ok (.tuple #[]) { w with heap := w.heap.setIfInBounds wm (.map ms.toArray ck) } ∧
      WaysAt { w with heap := w.heap.setIfInBounds wm (.map ms.toArray ck) } wm (adel t ways) := by
  obtain ⟨wl, h1, h2, h3⟩ := h
  obtain ⟨ms, ck, hmu, he, hs⟩ := run_delete_st (P := Tryz.prog) (s := 3) (ty := 0) Tryz.underlying73 Tryz.underlying3 h1 t
  refine ⟨ms, ck, hmu, adel t wl, MapSt.put h1.lt he hs, h2.del _, fun u => ?_⟩
  rw [aget_adel h2, aget_adel hk]
  by_cases e : u = t
  · rw [if_pos e, if_pos e]; exact .inl ⟨rfl, rfl⟩
  · rw [if_neg e, if_neg e]
    rcases h3 u with h | ⟨p', x', k1, k2, k3⟩
    · exact .inl h
    · exact .inr ⟨p', x', k1, k2, k3.put h1⟩

theorem StAt.put' {ms : List MapEntry} {ck : Nat} {s : AuS} (h : StAt w lm rm s) (hl : lm ≠ some wm) (hr : rm ≠ some wm) : StAt { w with heap := w.heap.setIfInBounds wm (.map ms.toArray ck) } lm rm s := by
  have keep : ∀ {β : Type} {V : β → Value} {mv : Option Nat} {es : List (Int × β)}, MapV .u64 V w mv es → mv ≠ some wm → MapV .u64 V { w with heap := w.heap.setIfInBounds wm (.map ms.toArray ck) } mv es := by
    intro β V mv es hm hne
    rcases hm with h | ⟨m, rfl, h2⟩
    · exact .inl h
    · refine .inr ⟨m, rfl, h2.same ?_⟩
      show (w.heap.setIfInBounds wm _)[m]? = _
      rw [Array.getElem?_setIfInBounds, if_neg]
      rintro rfl
      exact hne rfl
  obtain ⟨⟨ls0, l1, l2, l3⟩, rs0, r1, r2, r3⟩ := h
  exact ⟨⟨ls0, keep l1 hl, l2, l3⟩, rs0, keep r1 hr, r2, r3⟩

/-- Where a checker's cells are turned, no event, and no map, turns. -/
theorem WaysAt.off {ways : List (Int × TWay)} {cs : Array Value} {fr : Nat × Nat} (h : WaysAt w wm ways) (hx : w.heap[C]? = some (.cells cs 75 fr)) (n : Nat) (u : Value) : WaysAt (w.setCell ⟨C, n, none⟩ u) wm ways := by
  obtain ⟨wl, h1, h2, h3⟩ := h
  have hm : (w.setCell ⟨C, n, none⟩ u).heap[wm]? = w.heap[wm]? := by
    refine Below.heap_setCell _ _ _ _ ?_
    rintro rfl
    obtain ⟨ms, ck, k1, _⟩ := h1
    rw [hx] at k1; simp at k1
  refine ⟨wl, h1.same hm, h2, fun t => ?_⟩
  rcases h3 t with h | ⟨p, x, k1, k2, k3, k4⟩
  · exact .inl h
  · refine .inr ⟨p, x, k1, k2, k3, ?_⟩
    rcases k4 with k4 | ⟨b, q, k5, k6, k7⟩
    · exact .inl k4
    · refine .inr ⟨b, q, k5, k6, ?_⟩
      unfold EvBlk at k7 ⊢
      rw [Below.heap_setCell _ _ _ _ ?_]
      · exact k7
      · rintro rfl
        rw [hx] at k7; simp at k7

theorem StAt.offC {cs : Array Value} {fr : Nat × Nat} {s : AuS} (h : StAt w lm rm s) (hx : w.heap[C]? = some (.cells cs 75 fr)) (n : Nat) (u : Value) : StAt (w.setCell ⟨C, n, none⟩ u) lm rm s := by
  have ne : ∀ {β : Type} {V : β → Value} {mv : Option Nat} {es : List (Int × β)} {m : Nat}, MapV .u64 V w mv es → mv = some m → m ≠ C := by
    intro β V mv es m hm e
    rcases hm with ⟨h, _⟩ | ⟨m', h, ms, ck, hm, _⟩
    · rw [e] at h; cases h
    · rw [e] at h
      obtain rfl := Option.some.inj h
      rintro rfl
      rw [hx] at hm; simp at hm
  refine h.set (p := ⟨C, n, none⟩) (fun m e => ?_) (fun m e => ?_) u
  · obtain ⟨⟨_, l1, _⟩, _⟩ := h; exact ne l1 e
  · obtain ⟨_, _, l1, _⟩ := h; exact ne l1 e

/-- The state of a checker is stored. -/
theorem CkAt.putS {lm' rm' : Option Nat} {s' : AuS} (h : CkAt w C lm rm wm c) (st : StAt w lm' rm' s') (nl : lm' ≠ some wm) (nr : rm' ≠ some wm) :
    CkAt (((w.setCell ⟨C, 0, none⟩ (.map lm')).setCell ⟨C, 1, none⟩ (.map rm')).setCell ⟨C, 2, none⟩ (.bool s'.c)) C lm' rm' wm { c with s := s' } := by
  have hl := h.lt
  have e0 := h.row
  have e1 : (w.setCell ⟨C, 0, none⟩ (.map lm')).heap[C]? = some (.cells #[.map lm', .map rm, .bool c.s.c, .map (some wm), .int .u64 c.step] 75 (0, 0)) := by rw [setCell_cells e0]; simp [hl]
  have e2 : ((w.setCell ⟨C, 0, none⟩ (.map lm')).setCell ⟨C, 1, none⟩ (.map rm')).heap[C]? = some (.cells #[.map lm', .map rm', .bool c.s.c, .map (some wm), .int .u64 c.step] 75 (0, 0)) := by rw [setCell_cells e1]; simp [hl]
  refine ⟨by rw [setCell_cells e2]; simp [hl], ((st.offC e0 0 _).offC e1 1 _).offC e2 2 _, ((h.wy.off e0 0 _).off e1 1 _).off e2 2 _, nl, nr⟩

/-- The step of a checker is stored. -/
theorem CkAt.putStep (h : CkAt w C lm rm wm c) (n : Int) : CkAt (w.setCell ⟨C, 4, none⟩ (.int .u64 n)) C lm rm wm { c with step := n } := by
  have hl := h.lt
  have e0 := h.row
  exact ⟨by rw [setCell_cells e0]; simp [hl], h.st.offC e0 4 _, h.wy.off e0 4 _, h.nl, h.nr⟩

/-- A map of ways is turned. -/
theorem CkAt.putW {ms : List MapEntry} {ck : Nat} {ways : List (Int × TWay)} (h : CkAt w C lm rm wm c) (hw : WaysAt { w with heap := w.heap.setIfInBounds wm (.map ms.toArray ck) } wm ways) :
    CkAt { w with heap := w.heap.setIfInBounds wm (.map ms.toArray ck) } C lm rm wm { c with ways := ways } := by
  refine ⟨?_, h.st.put' h.nl h.nr, hw, h.nl, h.nr⟩
  show (w.heap.setIfInBounds wm _)[C]? = _
  rw [Array.getElem?_setIfInBounds, if_neg]
  · exact h.row
  · rintro rfl
    obtain ⟨wl, ⟨ms', ck', k1, _⟩, _⟩ := h.wy
    rw [h.row] at k1; simp at k1

end Go.Proofs.YtigdkcpipiimnaaGreatDoor

namespace Go.Proofs.YtigdkcpipiimnaaGreatDoor
open Go.ChangeShapes Go.WideShapes Go.ChangeAt Go.RowKit Go.Eng Go.Deep

variable {w v v' : World} {C E wm : Nat} {lm rm : Option Nat} {c : CK} {e : Ev}

/-- What a checker's method hands back. -/
def CkOut (w : World) (C wm : Nat) (p : CK × Int) (x : Ending) (w' : World) : Prop :=
  x = .returned (.int .i64 p.2) ∧ ∃ lm' rm', CkAt w' C lm' rm' wm p.1 ∧ Upto (fun k => k = C ∨ k = wm) w w'

/-- Inside a method: the event lies in E. -/
structure In (w : World) (C E : Nat) (lm rm : Option Nat) (wm : Nat) (c : CK) (e : Ev) (v : World) : Prop where
  up : Upto (fun k => k = C ∨ k = wm) w v
  ck : CkAt v C lm rm wm c
  ev : EvBlk v E e

theorem In.below (h : In w C E lm rm wm c e v) (hb : Below v.heap.size v v') : In w C E lm rm wm c e v' :=
  ⟨h.up.trans (.of_below hb), h.ck.below hb, h.ev.below hb h.ev.lt⟩
theorem In.drew (h : In w C E lm rm wm c e v) : In w C E lm rm wm c e v.drew := h.below ⟨rfl, rfl, rfl, Nat.le_refl _, fun _ _ => rfl⟩
theorem In.grow (h : In w C E lm rm wm c e v) (o : Obj) : In w C E lm rm wm c e (v.alloc o) := h.below (below_alloc v o)
theorem In.start (h : CkAt w C lm rm wm c) (e : Ev) :
    In w C w.heap.size lm rm wm c e (w.alloc (.cells #[.int .u64 e.step, .int .i64 e.thread, .int .i64 e.kind, .int .i64 e.op, .int .u64 e.id, .int .i64 e.err] 34)) :=
  ⟨.of_below (below_alloc w _), h.below (below_alloc w _), EvBlk.new w e⟩

theorem EvBlk.offC {cs : Array Value} {fr : Nat × Nat} (h : EvBlk v E e) (hx : v.heap[C]? = some (.cells cs 75 fr)) (n : Nat) (u : Value) : EvBlk (v.setCell ⟨C, n, none⟩ u) E e := by
  unfold EvBlk at h ⊢
  rw [Below.heap_setCell _ _ _ _ ?_]
  · exact h
  · rintro rfl
    rw [hx] at h; simp at h

theorem In.out (h : In w C E lm rm wm c e v) (n : Int) : CkOut w C wm (c, n) (.returned (.int .i64 n)) v := ⟨rfl, lm, rm, h.ck, h.up⟩

theorem In.six (h : In w C E lm rm wm c e v) : v.cell? ⟨C, 0, none⟩ = some (.map lm) ∧ v.cell? ⟨C, 1, none⟩ = some (.map rm) ∧ v.cell? ⟨C, 2, none⟩ = some (.bool c.s.c) ∧ v.cell? ⟨E, 1, none⟩ = some (.int .i64 e.thread) ∧ v.cell? ⟨E, 3, none⟩ = some (.int .i64 e.op) ∧ v.cell? ⟨E, 4, none⟩ = some (.int .u64 e.id) ∧ v.cell? ⟨E, 5, none⟩ = some (.int .i64 e.err) :=
  ⟨h.ck.q0, h.ck.q1, h.ck.q2, h.ev.q1, h.ev.q3, h.ev.q4, h.ev.q5⟩

/-- The state is stored. -/
theorem In.putS {lm' rm' : Option Nat} {s' : AuS} (h : In w C E lm rm wm c e v) (st : StAt v lm' rm' s') (nl : lm' ≠ some wm) (nr : rm' ≠ some wm) :
    In w C E lm' rm' wm { c with s := s' } e (((v.setCell ⟨C, 0, none⟩ (.map lm')).setCell ⟨C, 1, none⟩ (.map rm')).setCell ⟨C, 2, none⟩ (.bool s'.c)) := by
  have hl := h.ck.lt
  have e0 := h.ck.row
  have e1 : (v.setCell ⟨C, 0, none⟩ (.map lm')).heap[C]? = some (.cells #[.map lm', .map rm, .bool c.s.c, .map (some wm), .int .u64 c.step] 75 (0, 0)) := by rw [setCell_cells e0]; simp [hl]
  have e2 : ((v.setCell ⟨C, 0, none⟩ (.map lm')).setCell ⟨C, 1, none⟩ (.map rm')).heap[C]? = some (.cells #[.map lm', .map rm', .bool c.s.c, .map (some wm), .int .u64 c.step] 75 (0, 0)) := by rw [setCell_cells e1]; simp [hl]
  exact ⟨((h.up.setCell (.inl (.inl rfl)) _).setCell (.inl (.inl rfl)) _).setCell (.inl (.inl rfl)) _, h.ck.putS st nl nr, ((h.ev.offC e0 0 _).offC e1 1 _).offC e2 2 _⟩

theorem In.putStep (h : In w C E lm rm wm c e v) (n : Int) : In w C E lm rm wm { c with step := n } e (v.setCell ⟨C, 4, none⟩ (.int .u64 n)) :=
  ⟨h.up.setCell (.inl (.inl rfl)) _, h.ck.putStep n, h.ev.offC h.ck.row 4 _⟩

theorem In.putW {ms : List MapEntry} {k : Nat} {ways : List (Int × TWay)} (h : In w C E lm rm wm c e v) (hw : WaysAt { v with heap := v.heap.setIfInBounds wm (.map ms.toArray k) } wm ways) :
    In w C E lm rm wm { c with ways := ways } e { v with heap := v.heap.setIfInBounds wm (.map ms.toArray k) } := by
  obtain ⟨_, h1, _⟩ := h.ck.wy
  exact ⟨h.up.put (.inr rfl) _, h.ck.putW hw, h.ev.put h1⟩

theorem OldNew.nw {l l' : Option Nat} (h : OldNew v l l') (hn : l ≠ some wm) (hw : wm < v.heap.size) : l' ≠ some wm := by
  intro e
  rcases h wm e with h | h
  · exact hn h
  · omega

theorem WaysAt.lt {ways : List (Int × TWay)} (h : WaysAt v wm ways) : wm < v.heap.size := by
  obtain ⟨_, h1, _⟩ := h
  exact h1.lt

theorem in_retire (h : In w C E lm rm wm c e v) (id : Int) :
    Calls Tryz.prog 8 #[stV lm rm c.s.c, .int .u64 id] v fun x w' => ∃ lm' rm', x = .returned (.tuple #[stV lm' rm' (c.s.Retire id).1.c, .int .i64 (c.s.Retire id).2]) ∧ StAt w' lm' rm' (c.s.Retire id).1 ∧ lm' ≠ some wm ∧ rm' ≠ some wm ∧ Below v.heap.size v w' ∧ In w C E lm rm wm c e w' :=
  (Retire_calls h.ck.st id).mono fun _ _ ⟨lm', rm', he, hs, hb, n1, n2⟩ => ⟨lm', rm', he, hs, n1.nw h.ck.nl h.ck.wy.lt, n2.nw h.ck.nr h.ck.wy.lt, hb, h.below hb⟩
theorem in_point (h : In w C E lm rm wm c e v) (hI : c.s.Inv) (t op id er : Int) :
    Calls Tryz.prog 9 #[stV lm rm c.s.c, .int .i64 t, .int .i64 op, .int .u64 id, .int .i64 er] v fun x w' => ∃ lm' rm', x = .returned (.tuple #[stV lm' rm' (c.s.Point t op id er).1.c, .int .i64 (c.s.Point t op id er).2]) ∧ StAt w' lm' rm' (c.s.Point t op id er).1 ∧ lm' ≠ some wm ∧ rm' ≠ some wm ∧ Below v.heap.size v w' ∧ In w C E lm rm wm c e w' :=
  (Point_calls h.ck.st hI t op id er).mono fun _ _ ⟨lm', rm', he, hs, hb, n1, n2⟩ => ⟨lm', rm', he, hs, n1.nw h.ck.nl h.ck.wy.lt, n2.nw h.ck.nr h.ck.wy.lt, hb, h.below hb⟩

/-- And a state of its own in block N. -/
structure InR (w : World) (C E N : Nat) (lm rm : Option Nat) (wm : Nat) (c : CK) (e : Ev) (l r : Option Nat) (b : Bool) (v : World) : Prop where
  i : In w C E lm rm wm c e v
  row : RowS v N l r b
  hN : w.heap.size ≤ N

variable {N : Nat} {l r l' r' : Option Nat} {b b' : Bool}
theorem In.rowed (h : In w C E lm rm wm c e v) (l r : Option Nat) (b : Bool) : InR w C E v.heap.size lm rm wm c e l r b (v.alloc (.cells #[.map l, .map r, .bool b] 30)) :=
  ⟨h.grow _, RowS.new v l r b, h.up.size⟩
theorem InR.below (h : InR w C E N lm rm wm c e l r b v) (hb : Below v.heap.size v v') : InR w C E N lm rm wm c e l r b v' :=
  ⟨h.i.below hb, h.row.below hb h.row.lt, h.hN⟩
theorem RowS.other {X : Nat} {cs : Array Value} {fr : Nat × Nat} {ty : Nat} (hx : RowS v N l r b) (h : v.heap[X]? = some (.cells cs ty fr)) (hs : ty ≠ 30) : X ≠ N := by
  rintro rfl
  unfold RowS at hx
  rw [hx] at h
  simp at h
  exact hs h.2.1.symm
theorem CkAt.offN {n : Nat} (h : CkAt v C lm rm wm c) (hx : RowS v N l r b) (u : Value) : CkAt (v.setCell ⟨N, n, none⟩ u) C lm rm wm c := by
  have hne := hx.other h.row (by decide)
  refine ⟨(Below.heap_setCell _ _ _ _ hne).trans h.row, h.st.set (p := ⟨N, n, none⟩) (fun _ e => h.st.neL hx e) (fun _ e => h.st.neR hx e) u, ?_, h.nl, h.nr⟩
  obtain ⟨wl, h1, h2, h3⟩ := h.wy
  have hm : (v.setCell ⟨N, n, none⟩ u).heap[wm]? = v.heap[wm]? := by
    refine Below.heap_setCell _ _ _ _ ?_
    rintro rfl
    obtain ⟨ms, ck, k1, _⟩ := h1
    unfold RowS at hx
    rw [hx] at k1; simp at k1
  refine ⟨wl, h1.same hm, h2, fun t => ?_⟩
  rcases h3 t with h | ⟨p, x, k1, k2, k3, k4⟩
  · exact .inl h
  · refine .inr ⟨p, x, k1, k2, k3, ?_⟩
    rcases k4 with k4 | ⟨b, q, k5, k6, k7⟩
    · exact .inl k4
    · exact .inr ⟨b, q, k5, k6, (Below.heap_setCell _ _ _ _ (hx.other k7 (by decide))).trans k7⟩
theorem In.offN {n : Nat} (h : In w C E lm rm wm c e v) (hx : RowS v N l r b) (hN : w.heap.size ≤ N) (u : Value) : In w C E lm rm wm c e (v.setCell ⟨N, n, none⟩ u) :=
  ⟨h.up.setCell (.inr hN) _, h.ck.offN hx u, (Below.heap_setCell _ _ _ _ (hx.other h.ev (by decide))).trans h.ev⟩

/-- The state of its own is stored. -/
theorem InR.put (h : InR w C E N lm rm wm c e l r b v) (l' r' : Option Nat) (b' : Bool) :
    InR w C E N lm rm wm c e l' r' b' (((v.setCell ⟨N, 0, none⟩ (.map l')).setCell ⟨N, 1, none⟩ (.map r')).setCell ⟨N, 2, none⟩ (.bool b')) := by
  have hl := h.row.lt
  have r0 := h.row
  have r1 : RowS (v.setCell ⟨N, 0, none⟩ (.map l')) N l' r b := by unfold RowS at r0 ⊢; rw [setCell_cells r0]; simp [hl]
  have r2 : RowS ((v.setCell ⟨N, 0, none⟩ (.map l')).setCell ⟨N, 1, none⟩ (.map r')) N l' r' b := by unfold RowS at r1 ⊢; rw [setCell_cells r1]; simp [hl]
  exact ⟨((h.i.offN r0 h.hN _).offN r1 h.hN _).offN r2 h.hN _, h.row.set l' r' b', h.hN⟩
theorem InR.put1 (h : InR w C E N lm rm wm c e l r b v) (l' : Option Nat) : InR w C E N lm rm wm c e l' r b (v.setCell ⟨N, 0, none⟩ (.map l')) := by
  have hl := h.row.lt
  have r0 := h.row
  have r1 : RowS (v.setCell ⟨N, 0, none⟩ (.map l')) N l' r b := by unfold RowS at r0 ⊢; rw [setCell_cells r0]; simp [hl]
  exact ⟨h.i.offN r0 h.hN _, r1, h.hN⟩
theorem InR.put2 (h : InR w C E N lm rm wm c e l r b v) (l' r' : Option Nat) : InR w C E N lm rm wm c e l' r' b ((v.setCell ⟨N, 0, none⟩ (.map l')).setCell ⟨N, 1, none⟩ (.map r')) := by
  have h1 := h.put1 l'
  have hl := h.row.lt
  have r1 := h1.row
  have r2 : RowS ((v.setCell ⟨N, 0, none⟩ (.map l')).setCell ⟨N, 1, none⟩ (.map r')) N l' r' b := by unfold RowS at r1 ⊢; rw [setCell_cells r1]; simp [hl]
  exact ⟨h1.i.offN r1 h1.hN _, r2, h1.hN⟩
theorem StAt.offRow3 {s' : AuS} (st : StAt v l' r' s') (hx : RowS v N l r b) (x y z : Value) : StAt (((v.setCell ⟨N, 0, none⟩ x).setCell ⟨N, 1, none⟩ y).setCell ⟨N, 2, none⟩ z) l' r' s' :=
  ((st.set (p := ⟨N, 0, none⟩) (fun _ e => st.neL hx e) (fun _ e => st.neR hx e) _).set (p := ⟨N, 1, none⟩) (fun _ e => st.neL hx e) (fun _ e => st.neR hx e) _).set (p := ⟨N, 2, none⟩) (fun _ e => st.neL hx e) (fun _ e => st.neR hx e) _

/-- A way in a block of its own. -/
def WBox (v : World) (N : Nat) (p : Ev × Option Nat) : Prop := v.heap[N]? = some (.cells #[.int .u64 p.1.step, .int .i64 p.1.thread, .int .i64 p.1.kind, .int .i64 p.1.op, .int .u64 p.1.id, .int .i64 p.1.err, .pointer (p.2.map fun b => ⟨b, 0, none⟩)] 89 (0, 0))
variable {p : Ev × Option Nat}
theorem WBox.q0 (h : WBox v N p) : v.cell? ⟨N, 0, none⟩ = some (.int .u64 p.1.step) := by unfold WBox at h; simp [World.cell?, h]
theorem WBox.q1 (h : WBox v N p) : v.cell? ⟨N, 1, none⟩ = some (.int .i64 p.1.thread) := by unfold WBox at h; simp [World.cell?, h]
theorem WBox.q2 (h : WBox v N p) : v.cell? ⟨N, 2, none⟩ = some (.int .i64 p.1.kind) := by unfold WBox at h; simp [World.cell?, h]
theorem WBox.q3 (h : WBox v N p) : v.cell? ⟨N, 3, none⟩ = some (.int .i64 p.1.op) := by unfold WBox at h; simp [World.cell?, h]
theorem WBox.q4 (h : WBox v N p) : v.cell? ⟨N, 4, none⟩ = some (.int .u64 p.1.id) := by unfold WBox at h; simp [World.cell?, h]
theorem WBox.q5 (h : WBox v N p) : v.cell? ⟨N, 5, none⟩ = some (.int .i64 p.1.err) := by unfold WBox at h; simp [World.cell?, h]
theorem WBox.q6 (h : WBox v N p) : v.cell? ⟨N, 6, none⟩ = some (.pointer (p.2.map fun b => ⟨b, 0, none⟩)) := by unfold WBox at h; simp [World.cell?, h]
theorem WBox.f0 (h : WBox v N p) : v.frozen? ⟨N, 0, none⟩ = false := by unfold WBox at h; simp [World.frozen?, h]
theorem WBox.f1 (h : WBox v N p) : v.frozen? ⟨N, 1, none⟩ = false := by unfold WBox at h; simp [World.frozen?, h]
theorem WBox.f2 (h : WBox v N p) : v.frozen? ⟨N, 2, none⟩ = false := by unfold WBox at h; simp [World.frozen?, h]
theorem WBox.f3 (h : WBox v N p) : v.frozen? ⟨N, 3, none⟩ = false := by unfold WBox at h; simp [World.frozen?, h]
theorem WBox.f4 (h : WBox v N p) : v.frozen? ⟨N, 4, none⟩ = false := by unfold WBox at h; simp [World.frozen?, h]
theorem WBox.f5 (h : WBox v N p) : v.frozen? ⟨N, 5, none⟩ = false := by unfold WBox at h; simp [World.frozen?, h]
theorem WBox.f6 (h : WBox v N p) : v.frozen? ⟨N, 6, none⟩ = false := by unfold WBox at h; simp [World.frozen?, h]
theorem WBox.lt (h : WBox v N p) : N < v.heap.size := (Array.getElem?_eq_some_iff.1 h).1
theorem WBox.below (h : WBox v N p) (hb : Below v.heap.size v v') : WBox v' N p := (hb.block N h.lt).trans h
theorem WBox.new (v : World) (p : Ev × Option Nat) : WBox (v.alloc (.cells #[.int .u64 p.1.step, .int .i64 p.1.thread, .int .i64 p.1.kind, .int .i64 p.1.op, .int .u64 p.1.id, .int .i64 p.1.err, .pointer (p.2.map fun b => ⟨b, 0, none⟩)] 89)) v.heap.size p := (Go.MapKept.heap_alloc v _).1
theorem WBox.offRow {n X : Nat} (h : WBox v N p) (hx : RowS v X l r b) (u : Value) : WBox (v.setCell ⟨X, n, none⟩ u) N p :=
  (Below.heap_setCell _ _ _ _ (hx.other h (by decide))).trans h

theorem WBox.offC {cs : Array Value} {fr : Nat × Nat} (h : WBox v N p) (hx : v.heap[C]? = some (.cells cs 75 fr)) (n : Nat) (u : Value) : WBox (v.setCell ⟨C, n, none⟩ u) N p := by
  unfold WBox at h ⊢
  rw [Below.heap_setCell _ _ _ _ ?_]
  · exact h
  · rintro rfl
    rw [hx] at h; simp at h
theorem WBox.putS {lm' rm' : Option Nat} {s' : AuS} (h : WBox v N p) (hc : CkAt v C lm rm wm c) : WBox (((v.setCell ⟨C, 0, none⟩ (.map lm')).setCell ⟨C, 1, none⟩ (.map rm')).setCell ⟨C, 2, none⟩ (.bool s'.c)) N p := by
  have hl := hc.lt
  have e0 := hc.row
  have e1 : (v.setCell ⟨C, 0, none⟩ (.map lm')).heap[C]? = some (.cells #[.map lm', .map rm, .bool c.s.c, .map (some wm), .int .u64 c.step] 75 (0, 0)) := by rw [setCell_cells e0]; simp [hl]
  have e2 : ((v.setCell ⟨C, 0, none⟩ (.map lm')).setCell ⟨C, 1, none⟩ (.map rm')).heap[C]? = some (.cells #[.map lm', .map rm', .bool c.s.c, .map (some wm), .int .u64 c.step] 75 (0, 0)) := by rw [setCell_cells e1]; simp [hl]
  exact ((h.offC e0 0 _).offC e1 1 _).offC e2 2 _

theorem In.quiet (h : In w C E lm rm wm c e v) (n : Nat) : In w C E lm rm wm c e (v.drewN n) := h.below ⟨rfl, rfl, rfl, Nat.le_refl _, fun _ _ => rfl⟩
theorem In.after {lm' rm' : Option Nat} {c' : CK} (h : In w C E lm rm wm c e v) (k : CkAt v' C lm' rm' wm c') (u : Upto (fun k => k = C ∨ k = wm) v v') : In w C E lm' rm' wm c' e v' := by
  refine ⟨h.up.trans u, k, (u.block E h.ev.lt ?_).trans h.ev⟩
  rintro (rfl | rfl)
  · have h1 := h.ck.row
    have h2 := h.ev
    unfold EvBlk at h2
    rw [h1] at h2; simp at h2
  · obtain ⟨_, ⟨_, _, h1, _⟩, _⟩ := h.ck.wy
    have h2 := h.ev
    unfold EvBlk at h2
    rw [h1] at h2; simp at h2

end Go.Proofs.YtigdkcpipiimnaaGreatDoor

namespace Go.Proofs.YtigdkcpipiimnaaGreatDoor
open Go.ChangeShapes Go.WideShapes Go.ChangeAt Go.RowKit Go.Eng Go.Deep

variable {w v v' : World} {C E wm : Nat} {lm rm : Option Nat} {c : CK} {e : Ev}

set_option maxHeartbeats 1000000 in
set_option maxRecDepth 1000000 in
theorem ck_retire (h : CkAt w C lm rm wm c) (e : Ev) :
    Calls Tryz.prog 58 #[.pointer (some ⟨C, 0, none⟩), evA e] w fun x w' => CkOut w C wm (c.retire e) x w' := by
  have F1 := In.start h e
  unfold CK.retire
  obtain ⟨s', f, hR⟩ : ∃ s' f, c.s.Retire e.id = (s', f) := ⟨_, _, rfl⟩
  have hr := fun (v : World) (F : In w C w.heap.size lm rm wm c e v) => in_retire F e.id
  rw [hR] at hr ⊢
  simp only at hr ⊢
  clear hR h
  go_enter Tryz.func58, Tryz.ntmps58
  go_upto_region 1 with fail
  generalize w.alloc (.cells #[.int .u64 e.step, .int .i64 e.thread, .int .i64 e.kind, .int .i64 e.op, .int .u64 e.id, .int .i64 e.err] 34) = w1 at F1 ⊢
  generalize w.heap.size = E at F1 hr ⊢
  have Fd := F1.drew
  have Fn := (F1.rowed none none false).below (Below.refl _ _).drew
  have q0 := F1.ck.q0
  have q1 := F1.ck.q1
  have q2 := F1.ck.q2
  have e4 := F1.ev.q4
  go_cut [5, 6] (fun s5 s6 wx => ∃ N lm' rm', s5 = .pointer (some ⟨N, 0, none⟩) ∧ s6 = .int .i64 f ∧ InR w C E N lm rm wm c e lm' rm' s'.c wx ∧ StAt wx lm' rm' s' ∧ lm' ≠ some wm ∧ rm' ≠ some wm)
  case first =>
    go_region_held3 (fun w' => w'.cell? ⟨C, 0, none⟩ = some (.map lm) ∧ w'.cell? ⟨C, 1, none⟩ = some (.map rm) ∧ w'.cell? ⟨C, 2, none⟩ = some (.bool c.s.c) ∧ w'.cell? ⟨E, 4, none⟩ = some (.int .u64 e.id))
      (first
        | exact ⟨Fn.i.ck.q0, Fn.i.ck.q1, Fn.i.ck.q2, Fn.i.ev.q4⟩ | exact ⟨F2.ck.q0, F2.ck.q1, F2.ck.q2, F2.ev.q4⟩ | exact ⟨(F2.grow _).ck.q0, (F2.grow _).ck.q1, (F2.grow _).ck.q2, (F2.grow _).ev.q4⟩
        | exact ⟨(Fo.put lm' rm' s'.c).i.ck.q0, (Fo.put lm' rm' s'.c).i.ck.q1, (Fo.put lm' rm' s'.c).i.ck.q2, (Fo.put lm' rm' s'.c).i.ev.q4⟩
        | exact ⟨((F2.rowed none none false).put lm' rm' s'.c).i.ck.q0, ((F2.rowed none none false).put lm' rm' s'.c).i.ck.q1, ((F2.rowed none none false).put lm' rm' s'.c).i.ck.q2, ((F2.rowed none none false).put lm' rm' s'.c).i.ev.q4⟩
        | go_keep)
      (first
        | (go_at_call 8; with_reducible refine (hr _ Fd).mono ?_; rintro x w2 ⟨lm', rm', hx, st2, nl, nr, b2, F2⟩; subst hx)
        | (go_at_call 8; with_reducible refine (hr _ Fn.i).mono ?_; rintro x w2 ⟨lm', rm', hx, st2, nl, nr, b2, F2⟩; subst hx; have Fo := Fn.below b2; have o0 := Fo.row.f0; have o1 := Fo.row.f1; have o2 := Fo.row.f2; have p0 := Fo.row.q0; have p1 := Fo.row.q1; have p2 := Fo.row.q2))
    · go_wp2_with fail
      go_meet
      exact ⟨w2.heap.size, lm', rm', rfl, rfl, F2.rowed lm' rm' s'.c, st2.grow _, nl, nr⟩
    · go_wp2_with fail
      go_meet
      exact ⟨w1.heap.size, lm', rm', rfl, rfl, Fo.put lm' rm' s'.c, st2.offRow3 Fo.row _ _ _, nl, nr⟩
  case rest =>
    obtain ⟨N, lm', rm', rfl, rfl, F3, st3, nl, nr⟩ := hcut
    clear hr F1 Fd Fn q0 q1 q2 e4
    have q0 := F3.row.q0
    have q1 := F3.row.q1
    have q2 := F3.row.q2
    have c0 := F3.i.ck.q0
    have c1 := F3.i.ck.q1
    have c2 := F3.i.ck.q2
    have f0 := F3.i.ck.f0
    have f1 := F3.i.ck.f1
    have f2 := F3.i.ck.f2
    go_wp2
    go_ret
    exact (F3.i.putS st3 nl nr).out f

end Go.Proofs.YtigdkcpipiimnaaGreatDoor

namespace Go.Proofs.YtigdkcpipiimnaaGreatDoor
open Go.ChangeShapes Go.WideShapes Go.ChangeAt Go.RowKit Go.Eng Go.Deep

variable {w v v' : World} {C E wm : Nat} {lm rm : Option Nat} {c : CK} {e : Ev}

set_option maxHeartbeats 1000000 in
set_option maxRecDepth 1000000 in
theorem ck_call (h : CkAt w C lm rm wm c) (e : Ev) :
    Calls Tryz.prog 55 #[.pointer (some ⟨C, 0, none⟩), evA e] w fun x w' => CkOut w C wm (c.call e) x w' := by
  have F1 := In.start h e
  clear h
  go_enter Tryz.func55, Tryz.ntmps55
  go_upto_region 1 with fail
  generalize w.alloc (.cells #[.int .u64 e.step, .int .i64 e.thread, .int .i64 e.kind, .int .i64 e.op, .int .u64 e.id, .int .i64 e.err] 34) = w1 at F1 ⊢
  generalize w.heap.size = E at F1 ⊢
  obtain ⟨p, ok, hl, hp⟩ := ways_looks F1.ck.wy e.thread
  go_cut [5, 6] (fun s5 s6 wx => ∃ N, s5 = .pointer (some ⟨N, 0, none⟩) ∧ s6 = .bool ok ∧ In w C E lm rm wm c e wx ∧ Below w1.heap.size w1 wx)
  case first =>
    clear hp
    have q3 := F1.ck.q3
    have e1 := F1.ev.q1
    have l1 := hl _ (Below.refl _ w1).drew
    have l2 := hl _ ((below_alloc w1 (.cells #[.int .u64 0, .int .i64 0, .int .i64 0, .int .i64 0, .int .u64 0, .int .i64 0, .pointer none] 89)).drew)
    have Wn : WBox (w1.alloc (.cells #[.int .u64 0, .int .i64 0, .int .i64 0, .int .i64 0, .int .u64 0, .int .i64 0, .pointer none] 89)).drew w1.heap.size p0 := (WBox.new w1 p0).below (Below.refl _ _).drew
    have o0 : (w1.alloc (.cells #[.int .u64 0, .int .i64 0, .int .i64 0, .int .i64 0, .int .u64 0, .int .i64 0, .pointer none] 89)).drew.frozen? ⟨w1.heap.size, 0, none⟩ = false := Wn.f0
    have r0 : (w1.alloc (.cells #[.int .u64 0, .int .i64 0, .int .i64 0, .int .i64 0, .int .u64 0, .int .i64 0, .pointer none] 89)).drew.cell? ⟨w1.heap.size, 0, none⟩ = some (.int .u64 0) := Wn.q0
    have o1 : (w1.alloc (.cells #[.int .u64 0, .int .i64 0, .int .i64 0, .int .i64 0, .int .u64 0, .int .i64 0, .pointer none] 89)).drew.frozen? ⟨w1.heap.size, 1, none⟩ = false := Wn.f1
    have r1 : (w1.alloc (.cells #[.int .u64 0, .int .i64 0, .int .i64 0, .int .i64 0, .int .u64 0, .int .i64 0, .pointer none] 89)).drew.cell? ⟨w1.heap.size, 1, none⟩ = some (.int .i64 0) := Wn.q1
    have o2 : (w1.alloc (.cells #[.int .u64 0, .int .i64 0, .int .i64 0, .int .i64 0, .int .u64 0, .int .i64 0, .pointer none] 89)).drew.frozen? ⟨w1.heap.size, 2, none⟩ = false := Wn.f2
    have r2 : (w1.alloc (.cells #[.int .u64 0, .int .i64 0, .int .i64 0, .int .i64 0, .int .u64 0, .int .i64 0, .pointer none] 89)).drew.cell? ⟨w1.heap.size, 2, none⟩ = some (.int .i64 0) := Wn.q2
    have o3 : (w1.alloc (.cells #[.int .u64 0, .int .i64 0, .int .i64 0, .int .i64 0, .int .u64 0, .int .i64 0, .pointer none] 89)).drew.frozen? ⟨w1.heap.size, 3, none⟩ = false := Wn.f3
    have r3 : (w1.alloc (.cells #[.int .u64 0, .int .i64 0, .int .i64 0, .int .i64 0, .int .u64 0, .int .i64 0, .pointer none] 89)).drew.cell? ⟨w1.heap.size, 3, none⟩ = some (.int .i64 0) := Wn.q3
    have o4 : (w1.alloc (.cells #[.int .u64 0, .int .i64 0, .int .i64 0, .int .i64 0, .int .u64 0, .int .i64 0, .pointer none] 89)).drew.frozen? ⟨w1.heap.size, 4, none⟩ = false := Wn.f4
    have r4 : (w1.alloc (.cells #[.int .u64 0, .int .i64 0, .int .i64 0, .int .i64 0, .int .u64 0, .int .i64 0, .pointer none] 89)).drew.cell? ⟨w1.heap.size, 4, none⟩ = some (.int .u64 0) := Wn.q4
    have o5 : (w1.alloc (.cells #[.int .u64 0, .int .i64 0, .int .i64 0, .int .i64 0, .int .u64 0, .int .i64 0, .pointer none] 89)).drew.frozen? ⟨w1.heap.size, 5, none⟩ = false := Wn.f5
    have r5 : (w1.alloc (.cells #[.int .u64 0, .int .i64 0, .int .i64 0, .int .i64 0, .int .u64 0, .int .i64 0, .pointer none] 89)).drew.cell? ⟨w1.heap.size, 5, none⟩ = some (.int .i64 0) := Wn.q5
    have o6 : (w1.alloc (.cells #[.int .u64 0, .int .i64 0, .int .i64 0, .int .i64 0, .int .u64 0, .int .i64 0, .pointer none] 89)).drew.frozen? ⟨w1.heap.size, 6, none⟩ = false := Wn.f6
    have r6 : (w1.alloc (.cells #[.int .u64 0, .int .i64 0, .int .i64 0, .int .i64 0, .int .u64 0, .int .i64 0, .pointer none] 89)).drew.cell? ⟨w1.heap.size, 6, none⟩ = some (.pointer none) := Wn.q6
    go_region_held3 (fun w' => w'.cell? ⟨C, 3, none⟩ = some (.map (some wm)) ∧ w'.cell? ⟨E, 1, none⟩ = some (.int .i64 e.thread))
      (first
        | go_keep)
      (fail)
    all_goals
      go_wp2_with fail
      go_meet
      exact ⟨w1.heap.size, rfl, rfl, (F1.grow _).drew, (below_alloc w1 _).drew⟩
  case rest =>
    obtain ⟨N, rfl, rfl, F3, b3⟩ := hcut
    clear hl
    rcases hp with ⟨hn, rfl, rfl⟩ | ⟨x, hx, rfl, hp⟩
    · have hR : c.call e = ({ c with ways := aput e.thread ⟨e, none⟩ c.ways }, 0) := by unfold CK.call; simp [hn]
      clear hn
      obtain ⟨ms, ck, hmu, hw⟩ := ways_put (F3.below (Below.refl _ _).drew).ck.wy e.thread (p := (e, none)) (x := ⟨e, none⟩) ⟨rfl, .inl ⟨rfl, rfl⟩⟩
      change Sem.run Tryz.prog (Instr.mapUpdate 73 (.map (some wm)) (.int .i64 e.thread) (.agg #[.int .u64 e.step, .int .i64 e.thread, .int .i64 e.kind, .int .i64 e.op, .int .u64 e.id, .int .i64 e.err, .pointer none])) wc.drew = _ at hmu
      have F4 := F3.drew.putW hw
      generalize hw4 : ({ wc.drew with heap := wc.drew.heap.setIfInBounds wm (.map ms.toArray ck) } : World) = w4 at hmu F4
      have q3 := F3.ck.q3
      have e0 := F3.ev.q0
      have e1 := F3.ev.q1
      have e2 := F3.ev.q2
      have e3 := F3.ev.q3
      have e4 := F3.ev.q4
      have e5 := F3.ev.q5
      clear hw hw4
      go_upto_region 4 with fail
      go_region_held3 (fun w' => w'.cell? ⟨C, 3, none⟩ = some (.map (some wm)) ∧ w'.cell? ⟨E, 0, none⟩ = some (.int .u64 e.step) ∧ w'.cell? ⟨E, 1, none⟩ = some (.int .i64 e.thread) ∧ w'.cell? ⟨E, 2, none⟩ = some (.int .i64 e.kind) ∧ w'.cell? ⟨E, 3, none⟩ = some (.int .i64 e.op) ∧ w'.cell? ⟨E, 4, none⟩ = some (.int .u64 e.id) ∧ w'.cell? ⟨E, 5, none⟩ = some (.int .i64 e.err))
        (first
          | exact ⟨F4.ck.q3, F4.ev.q0, F4.ev.q1, F4.ev.q2, F4.ev.q3, F4.ev.q4, F4.ev.q5⟩
          | go_keep)
        (fail)
      go_wp2
      go_ret
      rw [hR]
      exact F4.out 0
    · have hR : c.call e = (c, 12) := by unfold CK.call; simp [hx]
      clear hx hp
      go_wp2
      go_ret
      rw [hR]
      exact F3.out 12

end Go.Proofs.YtigdkcpipiimnaaGreatDoor
