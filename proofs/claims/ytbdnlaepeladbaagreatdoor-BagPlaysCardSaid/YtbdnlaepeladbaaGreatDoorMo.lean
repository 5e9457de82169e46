/- Maps from numbers: what a look-up, a store, a delete and a range do; slices of structs of five, opened. Conditions: none. -/
import Derived.Test.YtbdnlaepeladbaaGreatDoorEngB
import Derived.Test.YtbdnlaepeladbaaGreatDoorEngC
import Derived.Test.YtbdnlaepeladbaaGreatDoorEngA
import Derived.Deep.Slices
import Derived.ProofKit
import Derived.Lib.SmallJoins
import Derived.Sort.OwnSorted
import Derived.ChangeSame
set_option linter.unusedSimpArgs false
set_option linter.unusedVariables false
namespace Go.Eng
open Go.RowKit

/-! ### ranging over a map from numbers, whatever the order -/

variable {P : Program} {w : World} {β : Type} {V : β → Value} {k : IntKind}

/-- Block Z goes over the map in block m, which has not grown since; these stamps were seen. -/
def Goes (w : World) (Z m since : Nat) (seen : List Nat) (ms : List MapEntry) (clock : Nat) : Prop :=
  w.heap[m]? = some (.map ms.toArray clock) ∧ w.heap[Z]? = some (.mapIter (some m) since seen.toArray clock) ∧ Stamped ms clock ∧ Z ≠ m

theorem ccands_some {ms : List MapEntry} {since : Nat} {seen : List Nat} {i : Nat} {e : MapEntry} (h : (ccands ms since seen)[i]? = some (some e)) : e ∈ ms ∧ ¬ e.born ∈ seen := by
  have hm := List.mem_of_getElem? h
  unfold ccands at hm
  simp only [List.mem_append, List.mem_map, Option.some.injEq] at hm
  rcases hm with hm | ⟨e', hm, rfl⟩
  · split at hm
    · simp at hm
    · cases hm
  · rcases hm with hm | hm
    · simp only [List.mem_filter, Bool.not_eq_true', List.contains_eq_mem, decide_eq_false_iff_not] at hm
      exact ⟨hm.1.1, hm.1.2⟩
    · simp only [List.mem_filter, Bool.not_eq_true', List.contains_eq_mem, decide_eq_false_iff_not] at hm
      exact ⟨hm.1.1, hm.1.2⟩

/-- A step: it is over, or an entry that was not seen comes. -/
theorem run_next_goes {Z m since clock : Nat} {seen : List Nat} {ms : List MapEntry} {ty : TypeId} (h : Goes w Z m since seen ms clock) :
    (∃ d, (Instr.next (.pointer (some ⟨Z, 0, none⟩)) false ty).run P w = .ok (.tuple #[.bool false]) { w with drawn := d }) ∨
    ∃ e ∈ ms, ¬ e.born ∈ seen ∧ ∃ w', (Instr.next (.pointer (some ⟨Z, 0, none⟩)) false ty).run P w = .ok (.tuple #[.bool true, e.key, e.val]) w' ∧ Goes w' Z m since (seen ++ [e.born]) ms clock ∧
      w'.os = w.os ∧ w'.tape = w.tape ∧ w'.output = w.output ∧ w'.heap.size = w.heap.size ∧ ∀ j, j ≠ Z → w'.heap[j]? = w.heap[j]? := by
  obtain ⟨k2, g3, hst, hne⟩ := h
  have hg : (!seen.toArray.isEmpty && !ms.toArray.isEmpty && ms.toArray.all (fun e => decide (e.born ≥ clock))) = false := by
    cases ms with
    | nil => simp
    | cons e l =>
      have := hst.2 e (List.mem_cons_self ..)
      have : decide (e.born ≥ clock) = false := by simpa using this
      simp [this]
  obtain ⟨i, dr, hk, hch⟩ := run_mapNext (P := P) (w := w) (ccands_ne ms since seen)
  obtain ⟨cm, hcm⟩ : ∃ cm, (ccands ms since seen)[i]? = some cm := ⟨_, List.getElem?_eq_getElem hk⟩
  have hcc : ((if (((ms.toArray.filter fun e => !seen.toArray.contains e.born).filter fun e => decide (e.born < since)).isEmpty) = true then #[none] else #[]) ++
      (((ms.toArray.filter fun e => !seen.toArray.contains e.born).filter fun e => decide (e.born < since)) ++ ((ms.toArray.filter fun e => !seen.toArray.contains e.born).filter fun e => decide (e.born ≥ since))).map some : Array (Option MapEntry)) = (ccands ms since seen).toArray := by
    simp only [ccands, List.filter_toArray, List.isEmpty_toArray, List.contains_toArray]
    split <;> simp
  have hcc0 : ((if (((ms.toArray.filter (fun e => !seen.toArray.contains e.born) 0 ms.length).filter fun e => decide (e.born < since)).isEmpty) = true then #[none] else #[]) ++
      (((ms.toArray.filter (fun e => !seen.toArray.contains e.born) 0 ms.length).filter fun e => decide (e.born < since)) ++ ((ms.toArray.filter (fun e => !seen.toArray.contains e.born) 0 ms.length).filter fun e => decide (e.born ≥ since))).map some : Array (Option MapEntry)) = (ccands ms since seen).toArray := hcc
  have g3' : ({ w with drawn := dr } : World).heap[Z]? = some (.mapIter (some m) since seen.toArray clock) := g3
  have hZ : Z < w.heap.size := (Array.getElem?_eq_some_iff.1 g3).1
  cases cm with
  | none =>
    left
    refine ⟨dr, ?_⟩
    simp only [Instr.next, Sem.run_bind, run_getObj_iter g3, Result.andThen_ok, run_getObj_map k2, hg, Bool.false_eq_true, if_false]
    simp only [hcc0, List.size_toArray, hch, Result.andThen_ok, List.getElem?_toArray, hcm, Sem.run_pure]
  | some e =>
    right
    obtain ⟨he, hs⟩ := ccands_some hcm
    refine ⟨e, he, hs, { w with drawn := dr, heap := w.heap.setIfInBounds Z (.mapIter (some m) since (seen ++ [e.born]).toArray clock) }, ?_, ⟨?_, ?_, hst, hne⟩, rfl, rfl, rfl, by simp, fun j hj => ?_⟩
    · simp only [Instr.next, Sem.run_bind, run_getObj_iter g3, Result.andThen_ok, run_getObj_map k2, hg, Bool.false_eq_true, if_false]
      simp only [hcc0, List.size_toArray, hch, Result.andThen_ok, List.getElem?_toArray, hcm, Sem.run_bind, run_setObj_iter g3', Sem.run_pure]
      simp
    · show (w.heap.setIfInBounds Z _)[m]? = _
      rw [Array.getElem?_setIfInBounds, if_neg hne]; exact k2
    · show (w.heap.setIfInBounds Z _)[Z]? = _
      simp [hZ]
    · show (w.heap.setIfInBounds Z _)[j]? = _
      rw [Array.getElem?_setIfInBounds, if_neg (fun h => hj h.symm)]

theorem find_stamp : ∀ {ms : List MapEntry} {e : MapEntry}, ms.Pairwise (fun a b => a.born ≠ b.born) → e ∈ ms → ms.find? (fun x => x.born == e.born) = some e
  | [], e, _, h => by cases h
  | x :: l, e, h, hm => by
    rw [List.pairwise_cons] at h
    rcases List.mem_cons.1 hm with rfl | hm
    · simp
    · have : (x.born == e.born) = false := by simpa using h.1 e hm
      simp only [List.find?_cons, this]
      exact find_stamp h.2 hm

/-- The entry of the last step. -/
theorem run_entry_goes {Z m since clock : Nat} {seen : List Nat} {ms : List MapEntry} {e : MapEntry} (h : Goes w Z m since (seen ++ [e.born]) ms clock) (he : e ∈ ms) :
    (Instr.entry (.pointer (some ⟨Z, 0, none⟩))).run P w = .ok (.tuple #[e.key, e.val]) w := by
  obtain ⟨k2, g3, hst, hne⟩ := h
  have hb : (seen ++ [e.born]).toArray.back? = some e.born := by simp
  have hf : ms.toArray.find? (fun x => x.born == e.born) = some e := by
    rw [List.find?_toArray]; exact find_stamp hst.1 he
  simp only [Instr.entry, Sem.run_bind, run_getObj_iter g3, Result.andThen_ok, hb, run_getObj_map k2, hf]
  simp

/-- How many are left. -/
def leftOf (ms : List MapEntry) (seen : List Nat) : Nat := (ms.filter fun e => !seen.contains e.born).length

theorem leftOf_lt {ms : List MapEntry} {seen : List Nat} {e : MapEntry} (he : e ∈ ms) (hs : ¬ e.born ∈ seen) : leftOf ms (seen ++ [e.born]) < leftOf ms seen := by
  unfold leftOf
  induction ms with
  | nil => cases he
  | cons x l ih =>
    have sub : (l.filter fun x => !(seen ++ [e.born]).contains x.born).length ≤ (l.filter fun x => !seen.contains x.born).length := by
      have : ∀ l : List MapEntry, (l.filter fun x => !(seen ++ [e.born]).contains x.born).length ≤ (l.filter fun x => !seen.contains x.born).length := by
        intro l
        induction l with
        | nil => simp
        | cons y r ihr =>
          simp only [List.filter_cons]
          by_cases h1 : y.born ∈ seen
          · simp [h1]; simpa using ihr
          · by_cases h2 : y.born = e.born
            · have h3 : ¬ e.born ∈ seen := by rw [← h2]; exact h1
              simp [h2, h3]; simp at ihr; omega
            · simp [h1, h2]; simpa using ihr
      exact this l
    simp only [List.filter_cons]
    rcases List.mem_cons.1 he with rfl | he
    · have h1 : (!(seen ++ [e.born]).contains e.born) = false := by simp
      have h2 : (!seen.contains e.born) = true := by simpa using hs
      rw [h1, h2]
      simp only [Bool.false_eq_true, if_false, if_true, List.length_cons]
      omega
    · have := ih he
      by_cases h1 : x.born ∈ seen
      · simp [h1]; simpa using this
      · by_cases h2 : x.born = e.born
        · have h3 : ¬ e.born ∈ seen := by rw [← h2]; exact h1
          simp [h2, h3]; simp at sub; simp at this; omega
        · simp [h1, h2]; simpa using this

end Go.Eng

namespace Go.Eng
open Go.RowKit

variable {P : Program} {w : World} {β : Type} {V : β → Value} {k : IntKind}

/-- A range begins. -/
theorem run_range_st {t kt et : TypeId} {m : Nat} {es : List (Int × β)} (ht : P.underlying t = some (.map kt et)) (h : MapSt k V w m es) :
    ∃ ms clock, EntsR k V ms es ∧ (Instr.range t (.map (some m))).run P w = .ok (.pointer (some ⟨w.heap.size, 0, none⟩)) (w.alloc (.mapIter (some m) clock #[] clock)) ∧
      Goes (w.alloc (.mapIter (some m) clock #[] clock)) w.heap.size m clock [] ms clock := by
  obtain ⟨ms, c, h1, h2, h3⟩ := h
  have hm : m < w.heap.size := (Array.getElem?_eq_some_iff.1 h1).1
  refine ⟨ms, c, h2, ?_, ⟨?_, (Go.MapKept.heap_alloc w _).1, h3, by omega⟩⟩
  · simp [Instr.range, run_underlying' ht, run_getObj_map h1]
  · rw [Below.heap_alloc _ _ _ hm]; exact h1

end Go.Eng

namespace Go.Eng
open Go.RowKit

variable {P : Program} {w : World} {β : Type} {V : β → Value} {k : IntKind}

/-- A step, of a range over a map that does not turn: it is over, and all were seen; or one that was not comes. -/
theorem run_next_all {Z m clock : Nat} {seen : List Nat} {ms : List MapEntry} {ty : TypeId} (h : Goes w Z m clock seen ms clock) :
    (∃ d, (Instr.next (.pointer (some ⟨Z, 0, none⟩)) false ty).run P w = .ok (.tuple #[.bool false]) { w with drawn := d } ∧ ∀ e ∈ ms, e.born ∈ seen) ∨
    ∃ e ∈ ms, ¬ e.born ∈ seen ∧ ∃ w', (Instr.next (.pointer (some ⟨Z, 0, none⟩)) false ty).run P w = .ok (.tuple #[.bool true, e.key, e.val]) w' ∧ Goes w' Z m clock (seen ++ [e.born]) ms clock ∧
      w'.os = w.os ∧ w'.tape = w.tape ∧ w'.output = w.output ∧ w'.heap.size = w.heap.size ∧ ∀ j, j ≠ Z → w'.heap[j]? = w.heap[j]? := by
  rcases run_next_goes (P := P) (ty := ty) h with ⟨d, hd⟩ | hx
  · by_cases hall : ∀ e ∈ ms, e.born ∈ seen
    · exact .inl ⟨d, hd, hall⟩
    · exfalso
      simp only [Classical.not_forall] at hall
      obtain ⟨e, he, hs⟩ := hall
      obtain ⟨k2, g3, hst, hne⟩ := h
      have hb := hst.2 e he
      have hg : (!seen.toArray.isEmpty && !ms.toArray.isEmpty && ms.toArray.all (fun e => decide (e.born ≥ clock))) = false := by
        have : ms.toArray.all (fun e => decide (e.born ≥ clock)) = false := by
          rw [Array.all_eq_false]
          obtain ⟨i, hi, rfl⟩ := List.getElem_of_mem he
          exact ⟨i, by simpa using hi, by simpa using hb⟩
        simp only [this, Bool.and_false]
      have hold : ((ms.filter fun e => !seen.contains e.born).filter fun e => decide (e.born < clock)) ≠ [] := by
        intro h0
        have : e ∈ ((ms.filter fun e => !seen.contains e.born).filter fun e => decide (e.born < clock)) := by simp [he, hs, hb]
        rw [h0] at this; cases this
      have hcn : ∀ x ∈ ccands ms clock seen, x ≠ none := by
        intro x hx
        unfold ccands at hx
        simp only [List.mem_append, List.mem_map] at hx
        rcases hx with hx | ⟨y, _, rfl⟩
        · rw [if_neg (by simpa [List.isEmpty_iff] using hold)] at hx; cases hx
        · simp
      obtain ⟨i, dr, hk, hch⟩ := run_mapNext (P := P) (w := w) (ccands_ne ms clock seen)
      obtain ⟨cm, hcm⟩ : ∃ cm, (ccands ms clock seen)[i]? = some cm := ⟨_, List.getElem?_eq_getElem hk⟩
      have hcc : ((if (((ms.toArray.filter fun e => !seen.toArray.contains e.born).filter fun e => decide (e.born < clock)).isEmpty) = true then #[none] else #[]) ++
          (((ms.toArray.filter fun e => !seen.toArray.contains e.born).filter fun e => decide (e.born < clock)) ++ ((ms.toArray.filter fun e => !seen.toArray.contains e.born).filter fun e => decide (e.born ≥ clock))).map some : Array (Option MapEntry)) = (ccands ms clock seen).toArray := by
        simp only [ccands, List.filter_toArray, List.isEmpty_toArray, List.contains_toArray]
        split <;> simp
      have hcc0 : ((if (((ms.toArray.filter (fun e => !seen.toArray.contains e.born) 0 ms.length).filter fun e => decide (e.born < clock)).isEmpty) = true then #[none] else #[]) ++
          (((ms.toArray.filter (fun e => !seen.toArray.contains e.born) 0 ms.length).filter fun e => decide (e.born < clock)) ++ ((ms.toArray.filter (fun e => !seen.toArray.contains e.born) 0 ms.length).filter fun e => decide (e.born ≥ clock))).map some : Array (Option MapEntry)) = (ccands ms clock seen).toArray := hcc
      have g3' : ({ w with drawn := dr } : World).heap[Z]? = some (.mapIter (some m) clock seen.toArray clock) := g3
      cases cm with
      | none => exact hcn none (List.mem_of_getElem? hcm) rfl
      | some e' =>
        simp only [Instr.next, Sem.run_bind, run_getObj_iter g3, Result.andThen_ok, run_getObj_map k2, hg, Bool.false_eq_true, if_false] at hd
        simp only [hcc0, List.size_toArray, hch, Result.andThen_ok, List.getElem?_toArray, hcm, Sem.run_bind, run_setObj_iter g3', Sem.run_pure] at hd
        simp at hd
  · exact .inr hx

end Go.Eng

namespace Go.Eng
open Go.RowKit

variable {P : Program} {w : World} {β : Type} {V : β → Value} {k : IntKind}

/-- The same at every key. -/
def PEq (xs ys : List (Int × β)) : Prop := ∀ i, aget i xs = aget i ys

theorem aget_head_none {q : Int × β} {l : List (Int × β)} (h : Keys1 (q :: l)) : aget q.1 l = none := by
  unfold Keys1 at h
  rw [List.pairwise_cons] at h
  exact aget_not fun p hp => h.1 p hp

theorem Keys1.tail {q : Int × β} {l : List (Int × β)} (h : Keys1 (q :: l)) : Keys1 l := by
  unfold Keys1 at h
  rw [List.pairwise_cons] at h
  exact h.2

theorem PEq.length : ∀ {xs ys : List (Int × β)}, Keys1 xs → Keys1 ys → PEq xs ys → xs.length = ys.length
  | [], [], _, _, _ => rfl
  | [], q :: l, _, _, h => by
    have := h q.1
    simp [aget] at this
  | q :: l, ys, hx, hy, h => by
    have h1 : aget q.1 ys = some q.2 := by rw [← h q.1]; simp [aget]
    have h2 : PEq l (adel q.1 ys) := by
      intro i
      rw [aget_adel hy]
      by_cases e : i = q.1
      · rw [if_pos e, e, aget_head_none hx]
      · rw [if_neg e, ← h i]
        simp [aget, e]
    have h3 := PEq.length hx.tail (hy.del q.1) h2
    rw [length_adel, h1] at h3
    have h4 : 0 < ys.length := by
      cases ys with
      | nil => simp [aget] at h1
      | cons => simp
    simp only [Option.isSome_some, if_true] at h3
    simp only [List.length_cons]
    omega

theorem aget_append (i : Int) (ys : List (Int × β)) : ∀ xs : List (Int × β), aget i (xs ++ ys) = (aget i xs).or (aget i ys)
  | [] => rfl
  | p :: l => by
    have h : ∀ (q : Int × β) (r : List (Int × β)), aget i (q :: r) = if i = q.1 then some q.2 else aget i r := fun _ _ => rfl
    rw [List.cons_append, h, h]
    split
    · rfl
    · exact aget_append i ys l

theorem Keys1.append_one {xs : List (Int × β)} (h : Keys1 xs) {id : Int} (hn : aget id xs = none) (v : β) : Keys1 (xs ++ [(id, v)]) := by
  unfold Keys1
  rw [List.pairwise_append]
  refine ⟨h, List.pairwise_singleton _ _, fun a ha b hb => ?_⟩
  rw [List.mem_singleton] at hb
  subst hb
  rintro e
  have := h.get ha
  rw [e, hn] at this
  cases this

theorem ents_mem' {p : Int × β} : ∀ {ms : List MapEntry} {es : List (Int × β)}, EntsR k V ms es → p ∈ es → ∃ e ∈ ms, e.key = .int k p.1 ∧ e.val = V p.2
  | [], [], _, h => by cases h
  | x :: l, q :: r, h, he => by
    obtain ⟨h1, h3⟩ := h
    rcases List.mem_cons.1 he with rfl | he
    · exact ⟨x, List.mem_cons_self .., h1⟩
    · obtain ⟨e, hq, hk⟩ := ents_mem' h3 he
      exact ⟨e, List.mem_cons_of_mem _ hq, hk⟩
  | [], q :: r, h, _ => by cases h
  | x :: l, [], h, _ => by cases h

/-- What has been copied so far: all of what was seen. -/
def Copied (k : IntKind) (ms : List MapEntry) (ss ds : List (Int × β)) (seen : List Nat) (ds' : List (Int × β)) : Prop :=
  ∀ i, ((∃ e ∈ ms, e.born ∈ seen ∧ e.key = .int k i) ∧ aget i ds' = aget i ss) ∨ ((¬ ∃ e ∈ ms, e.born ∈ seen ∧ e.key = .int k i) ∧ aget i ds' = aget i ds)

theorem Copied.nil {ms : List MapEntry} {ss ds : List (Int × β)} : Copied k ms ss ds [] ds :=
  fun _ => .inr ⟨(fun ⟨_, _, h, _⟩ => by cases h), rfl⟩

theorem stamp_one : ∀ {ms : List MapEntry} {a b : MapEntry}, ms.Pairwise (fun a b => a.born ≠ b.born) → a ∈ ms → b ∈ ms → a.born = b.born → a = b
  | [], _, _, _, h, _, _ => by cases h
  | x :: l, a, b, h, ha, hb, e => by
    rw [List.pairwise_cons] at h
    rcases List.mem_cons.1 ha with rfl | ha
    · rcases List.mem_cons.1 hb with rfl | hb
      · rfl
      · exact absurd e (h.1 b hb)
    · rcases List.mem_cons.1 hb with hx | hb
      · rw [hx] at e; exact absurd e.symm (h.1 a ha)
      · exact stamp_one h.2 ha hb e

theorem Copied.step {ms : List MapEntry} {clock : Nat} {ss ds ds' : List (Int × β)} {seen : List Nat} (h : Copied k ms ss ds seen ds') (hst : Stamped ms clock) (hk : Keys1 ss) {e : MapEntry} {p : Int × β} (he : e ∈ ms) (hp : p ∈ ss) (hkey : e.key = .int k p.1) :
    Copied k ms ss ds (seen ++ [e.born]) (aput p.1 p.2 ds') := by
  intro i
  by_cases hi : i = p.1
  · subst hi
    exact .inl ⟨⟨e, he, by simp, hkey⟩, by rw [aget_aput', if_pos rfl, hk.get hp]⟩
  · rw [aget_aput', if_neg hi]
    rcases h i with ⟨⟨e', h1, h2, h3⟩, h4⟩ | ⟨h1, h2⟩
    · exact .inl ⟨⟨e', h1, List.mem_append_left _ h2, h3⟩, h4⟩
    · refine .inr ⟨?_, h2⟩
      rintro ⟨e', h3, h4, h5⟩
      rcases List.mem_append.1 h4 with h4 | h4
      · exact h1 ⟨e', h3, h4, h5⟩
      · rw [List.mem_singleton] at h4
        have := stamp_one hst.1 h3 he h4
        subst this
        rw [hkey] at h5
        simp at h5
        exact hi h5.symm

theorem Copied.all {ms : List MapEntry} {ss ds ds' : List (Int × β)} {seen : List Nat} (h : Copied k ms ss ds seen ds') (hents : EntsR k V ms ss) (hk : Keys1 ss) (hall : ∀ e ∈ ms, e.born ∈ seen) (i : Int) : aget i ds' = (aget i ss).or (aget i ds) := by
  rcases h i with ⟨⟨e, h1, _, h3⟩, h4⟩ | ⟨h1, h2⟩
  · obtain ⟨p, hp, hkey, _⟩ := ents_mem hents h1
    rw [h3] at hkey
    simp at hkey
    subst hkey
    rw [h4, hk.get hp]; rfl
  · cases hs : aget i ss with
    | none => rw [h2]; rfl
    | some v =>
      exfalso
      obtain ⟨e, he, hkey, _⟩ := ents_mem' hents (aget_mem hs)
      exact h1 ⟨e, he, hall e he, hkey⟩

/-- A map value: none, or a block. -/
def MapV (k : IntKind) (V : β → Value) (w : World) (mv : Option Nat) (es : List (Int × β)) : Prop :=
  (mv = none ∧ es = []) ∨ ∃ m, mv = some m ∧ MapSt k V w m es

theorem MapV.below {w' : World} {mv : Option Nat} {es : List (Int × β)} (h : MapV k V w mv es) (hb : Below w.heap.size w w') : MapV k V w' mv es := by
  rcases h with h | ⟨m, h1, h2⟩
  · exact .inl h
  · exact .inr ⟨m, h1, h2.below hb h2.lt⟩

theorem run_lookup_v {t kt et : TypeId} {q : IntKind} {z : Value} {mv : Option Nat} {es : List (Int × β)} (ht : P.underlying t = some (.map kt et)) (hk : P.underlying kt = some (.int q))
    (hz : ∀ w, (zeroValue et).run P w = .ok z w) (h : MapV k V w mv es) (id : Int) (ok : Bool) :
    (Instr.lookup t (.map mv) (.int k id) ok).run P w = .ok (if ok then .tuple #[((aget id es).map V).getD z, .bool (aget id es).isSome] else ((aget id es).map V).getD z) w := by
  rcases h with ⟨rfl, rfl⟩ | ⟨m, rfl, h⟩
  · simp [Instr.lookup, run_underlying' ht, run_checkKey_int hk, Instr.findKey, run_underlying' hk, Instr.findNow, hz, aget]
  · exact run_lookup_ents ht hk hz h.is id ok

theorem run_len_v {t ty : TypeId} {kt et : TypeId} {mv : Option Nat} {es : List (Int × β)} (ht : P.underlying t = some (.map kt et)) (h : MapV k V w mv es) :
    (Builtin.len_ #[t] ty #[.map mv]).run P w = .ok (.int .i64 es.length) w := by
  rcases h with ⟨rfl, rfl⟩ | ⟨m, rfl, ms, c, h1, h2, h3⟩
  · simp [Builtin.len_, run_underlying' ht, goInt]
  · have := ents_length h2
    simp [Builtin.len_, run_underlying' ht, run_getObj_map h1, this, goInt]

end Go.Eng

namespace Go.Eng
open Go.RowKit

variable {P : Program} {w w' wr : World} {β : Type} {V : β → Value} {k : IntKind}

theorem run_range_nil {t kt et : TypeId} (ht : P.underlying t = some (.map kt et)) : (Instr.range t (.map none)).run P w = .ok (.pointer (some ⟨w.heap.size, 0, none⟩)) (w.alloc (.mapIter none 0 #[] 0)) := by
  simp [Instr.range, run_underlying' ht]

theorem run_next_nil {Z x y : Nat} {sn : Array Nat} {ty : TypeId} (h : w.heap[Z]? = some (.mapIter none x sn y)) : (Instr.next (.pointer (some ⟨Z, 0, none⟩)) false ty).run P w = .ok (.tuple #[.bool false]) w := by
  simp only [Instr.next, Sem.run_bind, run_getObj_iter h, Result.andThen_ok, Sem.run_pure]

theorem below_iter {B Z : Nat} (h : Below B w wr) (hZ : B ≤ Z) (hos : w'.os = wr.os) (ht : w'.tape = wr.tape) (ho : w'.output = wr.output) (hs : w'.heap.size = wr.heap.size) (hk : ∀ j, j ≠ Z → w'.heap[j]? = wr.heap[j]?) : Below B w w' :=
  ⟨hos.trans h.os, ht.trans h.tape, ho.trans h.output, by rw [hs]; exact h.size, fun j hj => (hk j (by omega)).trans (h.block j hj)⟩

theorem below_put {B d : Nat} (h : Below B w wr) (hd : B ≤ d) (o : Obj) : Below B w { wr with heap := wr.heap.setIfInBounds d o } :=
  ⟨h.os, h.tape, h.output, by simpa using h.size, fun j hj => by
    show (wr.heap.setIfInBounds d o)[j]? = _
    rw [Array.getElem?_setIfInBounds, if_neg (by omega)]
    exact h.block j hj⟩

theorem below_drawn {B : Nat} (h : Below B w wr) (d : Nat) : Below B w { wr with drawn := d } := ⟨h.os, h.tape, h.output, h.size, h.block⟩

theorem Goes.put {Z m d since clock : Nat} {seen : List Nat} {ms : List MapEntry} (h : Goes w Z m since seen ms clock) (hz : Z ≠ d) (hm : m ≠ d) (o : Obj) : Goes { w with heap := w.heap.setIfInBounds d o } Z m since seen ms clock := by
  obtain ⟨h1, h2, h3⟩ := h
  refine ⟨?_, ?_, h3⟩
  · show (w.heap.setIfInBounds d o)[m]? = _
    rw [Array.getElem?_setIfInBounds, if_neg (fun e => hm e.symm)]; exact h1
  · show (w.heap.setIfInBounds d o)[Z]? = _
    rw [Array.getElem?_setIfInBounds, if_neg (fun e => hz e.symm)]; exact h2

theorem MapSt.ne_iter {m Z x y : Nat} {sn : Array Nat} {i : Option Nat} {es : List (Int × β)} (h : MapSt k V w m es) (hz : w.heap[Z]? = some (.mapIter i x sn y)) : m ≠ Z := by
  rintro rfl
  obtain ⟨ms, c, h1, _⟩ := h
  rw [hz] at h1; simp at h1

end Go.Eng

namespace Go.Eng
open Go.RowKit

variable {P : Program} {w : World} {β : Type} {V : β → Value} {k : IntKind}

/-- What an entry is known by. -/
def sig (e : MapEntry) : Nat × Value := (e.born, e.key)

theorem sig_modify {id : Int} {v : β} : ∀ {ms : List MapEntry} {es : List (Int × β)} {v0 : β}, EntsR k V ms es → aget id es = some v0 →
    (ms.modify (es.findIdx (fun p => id == p.1)) fun e => { e with key := .int k id, val := V v }).map sig = ms.map sig
  | [], [], _, _, h => by simp [aget] at h
  | e :: l, p :: r, v0, h, hv => by
    obtain ⟨⟨h1, h2⟩, h3⟩ := h
    unfold aget at hv
    by_cases e1 : id = p.1
    · subst e1
      simp [List.findIdx_cons, sig, h1]
    · have e2 : (id == p.1) = false := by simpa using e1
      rw [if_neg e1] at hv
      have ih := sig_modify (v := v) h3 hv
      simp only [List.findIdx_cons, e2, cond_false, List.modify_succ_cons, List.map_cons, ih]
  | [], p :: r, _, h, _ => by cases h
  | e :: l, [], _, h, _ => by cases h

/-- A store to a key that is there: the entries stay in their places. -/
theorem run_mapUpdate_in {t kt et : TypeId} {q : IntKind} {m c : Nat} {ms : List MapEntry} {es : List (Int × β)} (ht : P.underlying t = some (.map kt et)) (hk : P.underlying kt = some (.int q))
    (h1 : w.heap[m]? = some (.map ms.toArray c)) (h2 : EntsR k V ms es) (h3 : Stamped ms c) (id : Int) (v : β) {v0 : β} (hv : aget id es = some v0) :
    ∃ ms', (Instr.mapUpdate t (.map (some m)) (.int k id) (V v)).run P w = .ok () { w with heap := w.heap.setIfInBounds m (.map ms'.toArray c) } ∧ EntsR k V ms' (aput id v es) ∧ Stamped ms' c ∧ ms'.map sig = ms.map sig := by
  simp only [Instr.mapUpdate, Sem.run_bind, run_underlying' ht, Result.andThen_ok, run_getObj_map h1, run_checkKey_int hk, Instr.findKey, run_underlying' hk, findNow_ents h2, Sem.run_pure]
  obtain ⟨e, g1, g2⟩ := ents_get h2 hv
  refine ⟨ms.modify (es.findIdx (fun p => id == p.1)) fun e => { e with key := .int k id, val := V v }, ?_, ents_modify h2 hv, h3.modify (f := fun e => { e with key := .int k id, val := V v }) (fun _ => rfl) _, sig_modify h2 hv⟩
  have g1' : ms.toArray[0 + es.findIdx (fun p => id == p.1)]? = some e := by simpa using g1
  simp only [hv, g1', Option.map_some, Option.getD_some, g2, Instr.keyThatStays, sameBits_int, if_true, Sem.run_pure, Sem.run_bind, Result.andThen_ok, run_setObj_map h1]
  simp

theorem sig_mem {ms ms' : List MapEntry} (h : ms'.map sig = ms.map sig) {e : MapEntry} (he : e ∈ ms') : ∃ e0 ∈ ms, e0.born = e.born ∧ e0.key = e.key := by
  have : sig e ∈ ms'.map sig := List.mem_map_of_mem he
  rw [h] at this
  obtain ⟨e0, h0, h1⟩ := List.mem_map.1 this
  simp only [sig, Prod.mk.injEq] at h1
  exact ⟨e0, h0, h1.1, h1.2⟩

end Go.Eng

namespace Go.Eng
open Go.ChangeShapes Go.WideShapes Go.RowKit Go.Deep

/-! ### a slice of structs of five numbers -/
variable {H : Type} {enc : TypeId × Value → H} {P : Program} {w : World} {base : Nat} {spare : Nat → Bool} {held : Bool}

theorem trod_struct5 {t : TypeId} {f0 f1 f2 f3 f4 : Field} {fuel : Nat} {cs : List Value} {x : DataW H × List MemPlace} (ht : P.underlying t = some (.struct #[f0, f1, f2, f3, f4])) (h : DataW.trod enc P w base spare held fuel t cs = some x) :
    ∃ y0 y1 y2 y3 y4 n, cs.length = P.cellsOf t ∧ DataW.trod enc P w base spare held n f0.type ((cs.drop f0.offset).take (P.cellsOf f0.type)) = some y0 ∧
      DataW.trod enc P w base spare held n f1.type ((cs.drop f1.offset).take (P.cellsOf f1.type)) = some y1 ∧ DataW.trod enc P w base spare held n f2.type ((cs.drop f2.offset).take (P.cellsOf f2.type)) = some y2 ∧
      DataW.trod enc P w base spare held n f3.type ((cs.drop f3.offset).take (P.cellsOf f3.type)) = some y3 ∧ DataW.trod enc P w base spare held n f4.type ((cs.drop f4.offset).take (P.cellsOf f4.type)) = some y4 := by
  obtain ⟨xs, n, _, rfl, hl, hlen, hf⟩ := DataW.trod_struct ht h
  match xs, hlen with
  | [y0, y1, y2, y3, y4], _ => exact ⟨y0, y1, y2, y3, y4, n, hl, by simpa using hf 0 f0 rfl, by simpa using hf 1 f1 rfl, by simpa using hf 2 f2 rfl, by simpa using hf 3 f3 rfl, by simpa using hf 4 f4 rfl⟩

structure Five (P : Program) (e : TypeId) (k0 k1 k2 k3 k4 : IntKind) : Prop where
  ex : ∃ f0 f1 f2 f3 f4, P.underlying e = some (.struct #[f0, f1, f2, f3, f4]) ∧ f0.offset = 0 ∧ f1.offset = 1 ∧ f2.offset = 2 ∧ f3.offset = 3 ∧ f4.offset = 4 ∧
    P.underlying f0.type = some (.int k0) ∧ P.underlying f1.type = some (.int k1) ∧ P.underlying f2.type = some (.int k2) ∧ P.underlying f3.type = some (.int k3) ∧ P.underlying f4.type = some (.int k4) ∧
    P.cellsOf f0.type = 1 ∧ P.cellsOf f1.type = 1 ∧ P.cellsOf f2.type = 1 ∧ P.cellsOf f3.type = 1 ∧ P.cellsOf f4.type = 1
  size : P.cellsOf e = 5

/-- Five numbers, each fitting its kind, lie at off. -/
def FiveAt (w : World) (b off : Nat) (k0 k1 k2 k3 k4 : IntKind) : Prop :=
  ∃ x0 x1 x2 x3 x4, (w.cell? ⟨b, off, none⟩ = some (.int k0 x0) ∧ w.cell? ⟨b, off + 1, none⟩ = some (.int k1 x1) ∧ w.cell? ⟨b, off + 2, none⟩ = some (.int k2 x2) ∧ w.cell? ⟨b, off + 3, none⟩ = some (.int k3 x3) ∧ w.cell? ⟨b, off + 4, none⟩ = some (.int k4 x4)) ∧
    (Lit.int k0 x0).wf = true ∧ (Lit.int k1 x1).wf = true ∧ (Lit.int k2 x2).wf = true ∧ (Lit.int k3 x3).wf = true ∧ (Lit.int k4 x4).wf = true

theorem one_int {t : TypeId} {k : IntKind} {n : Nat} {cs : List Value} {y : DataW H × List MemPlace} {i : Nat} {v : Value} (hu : P.underlying t = some (.int k)) (hc : P.cellsOf t = 1) (hv : cs[i]? = some v)
    (h : DataW.trod enc P w base spare held n t ((cs.drop i).take (P.cellsOf t)) = some y) : ∃ x, v = .int k x ∧ (Lit.int k x).wf = true := by
  have e : (cs.drop i).take 1 = [v] := by
    rw [List.take_one, List.head?_drop, hv]; rfl
  rw [hc, e] at h
  obtain ⟨a, e0, _, wa⟩ := DataW.trod_int hu h
  simp at e0
  exact ⟨a, e0, wa⟩

theorem open_fives {t e : TypeId} {k0 k1 k2 k3 k4 : IntKind} {fuel : Nat} {a0 : Option Addr} {len cap : Nat} {x : DataW H × List MemPlace} (ht : P.underlying t = some (.slice e)) (hF : Five P e k0 k1 k2 k3 k4)
    (h : DataW.trod enc P w base spare held fuel t [.slice a0 len cap] = some x) :
    len = 0 ∨ ∃ b off, a0 = some ⟨b, off, none⟩ ∧ b < w.heap.size ∧ ∀ i, i < len → FiveAt w b (off + i * 5) k0 k1 k2 k3 k4 := by
  rcases open_slice ht h with ⟨hn, _⟩ | ⟨a, len', cap', m, n, D, Pl, hcs, _, hl, hm, hmm, _, hx⟩
  · simp only [List.cons.injEq, Value.slice.injEq, and_true] at hn
    exact .inl hn.2.1
  · simp only [List.cons.injEq, Value.slice.injEq, and_true] at hcs
    obtain ⟨rfl, rfl, rfl⟩ := hcs
    rcases Nat.eq_zero_or_pos len with h0 | h0
    · exact .inl h0
    · right
      have hle : len ≤ m := by rw [hmm]; split <;> omega
      obtain ⟨b, off, spot⟩ := a
      have get : ∀ i, i < len → ∃ cs' y, w.cells? base ((⟨b, off, spot⟩ : Addr).add (i * 5)) 5 = some cs' ∧ DataW.trod enc P w base spare held n e cs' = some y := by
        intro i hi
        obtain ⟨cs', h1, h2⟩ := hx i (by omega)
        rw [hF.size] at h1
        exact ⟨cs', _, h1, h2⟩
      have hsp : spot = none := by
        obtain ⟨cs', y, h1, _⟩ := get 0 h0
        obtain ⟨_, h3, h4⟩ := World.cells?_some h1
        have := h4 0 (by omega)
        rw [List.getElem?_eq_getElem (by omega)] at this
        simpa [Addr.add] using World.cell?_spot this
      subst hsp
      have cell : ∀ i, i < len → FiveAt w b (off + i * 5) k0 k1 k2 k3 k4 := by
        intro i hi
        obtain ⟨cs', y, h1, h2⟩ := get i hi
        obtain ⟨_, h3, h4⟩ := World.cells?_some h1
        obtain ⟨f0, f1, f2, f3, f4, hu, o0, o1, o2, o3, o4, u0, u1, u2, u3, u4, c0, c1, c2, c3, c4⟩ := hF.ex
        obtain ⟨y0, y1, y2, y3, y4, nn, _, g0, g1, g2, g3, g4⟩ := trod_struct5 hu h2
        rw [o0] at g0; rw [o1] at g1; rw [o2] at g2; rw [o3] at g3; rw [o4] at g4
        match cs', h3, h4, g0, g1, g2, g3, g4 with
        | [v0, v1, v2, v3, v4], _, h4, g0, g1, g2, g3, g4 =>
          obtain ⟨x0, rfl, w0⟩ := one_int u0 c0 (v := v0) rfl g0
          obtain ⟨x1, rfl, w1⟩ := one_int u1 c1 (v := v1) rfl g1
          obtain ⟨x2, rfl, w2⟩ := one_int u2 c2 (v := v2) rfl g2
          obtain ⟨x3, rfl, w3⟩ := one_int u3 c3 (v := v3) rfl g3
          obtain ⟨x4, rfl, w4⟩ := one_int u4 c4 (v := v4) rfl g4
          have q : ∀ j, j < 5 → w.cell? ⟨b, off + i * 5 + j, none⟩ = ([Value.int k0 x0, .int k1 x1, .int k2 x2, .int k3 x3, .int k4 x4] : List Value)[j]? := by
            intro j hj
            have := h4 j hj
            rwa [add_plain, add_plain] at this
          exact ⟨x0, x1, x2, x3, x4, ⟨q 0 (by omega), q 1 (by omega), q 2 (by omega), q 3 (by omega), q 4 (by omega)⟩, w0, w1, w2, w3, w4⟩
      refine ⟨b, off, rfl, ?_, cell⟩
      obtain ⟨x0, _, _, _, _, ⟨h1, _⟩, _⟩ := cell 0 h0
      exact World.block_lt_of_cell? _ _ h1

end Go.Eng

namespace Go.Eng
open Go.Sort Go.Proofs Go.ChangeShapes Go.WideShapes

theorem holds_of_blockU {w : World} {g : Nat} {cur : Array Value} {e : TypeId} {ss : List Int} (hb : w.heap[g]? = some (.cells cur e (0, 0))) (ht : cur.toList.take ss.length = ss.map (Value.int .u64)) : Holds (Value.int .u64) w g 0 ss.toArray := by
  intro j hj
  have hj' : j < ss.length := by simpa using hj
  refine ⟨?_, by simp [World.frozen?, hb]⟩
  have h1 : (cur.toList.take ss.length)[j]? = (ss.map (Value.int .u64))[j]? := by rw [ht]
  rw [List.getElem?_take_of_lt hj'] at h1
  simp only [World.cell?, hb, Nat.zero_add]
  simp only [Option.isSome_none, Bool.false_eq_true, if_false]
  rw [← Array.getElem?_toList, h1]
  simp [hj']

theorem heap_sortedU {w : World} {g n : Nat} {os : Array Obj} {cur : Array Value} {e : TypeId} {fr : Nat × Nat} (d : Array Int) (hb : w.heap[g]? = some (.cells cur e fr)) :
    (grow (putRow (Value.int .u64) (Sort.ahead w n) g 0 d) os).heap[g]? = some (.cells (putCells (Value.int .u64) 0 d cur) e fr) := by
  have hg : g < w.heap.size := (Array.getElem?_eq_some_iff.1 hb).1
  rw [heap_grow_old _ _ (by simpa using hg)]
  simp [putRow, mapBlock, Sort.ahead, Array.getElem?_modify, hb, onCells]

theorem grownBy_sortedU {w : World} {g n : Nat} {os : Array Obj} (d : Array Int) : w.grownBy (grow (putRow (Value.int .u64) (Sort.ahead w n) g 0 d) os) (some g) := by
  refine ⟨rfl, rfl, rfl, by simp, fun k hk hne => ?_⟩
  rw [heap_grow_old _ _ (by simpa using hk)]
  have : g ≠ k := fun e => hne (by rw [e])
  simp [putRow, mapBlock, Sort.ahead, Array.getElem?_modify, this]

theorem take_putCellsU (cur : Array Value) (ts : List Int) (h : ts.length ≤ cur.size) : (putCells (Value.int .u64) 0 ts.toArray cur).toList.take ts.length = ts.map (Value.int .u64) := by
  apply List.ext_getElem?
  intro j
  by_cases hj : j < ts.length
  · rw [List.getElem?_take_of_lt hj, Array.getElem?_toList]
    simp [putCells, hj, show j < cur.size by omega]
  · rw [List.getElem?_take_eq_none (by omega), List.getElem?_eq_none (by simp; omega)]

theorem ownsRow_sortedU {w : World} {base g cap n : Nat} {e : TypeId} {os : Array Obj} {cur : Array Value} {ss ts : List Int} (hl : ts.length = ss.length) (hbase : base ≤ g) (hb : w.heap[g]? = some (.cells cur e (0, 0)))
    (h1 : ss.length ≤ cap) (h2 : cap ≤ maxLen) (h3 : cur.size = cap * 1) :
    (grow (putRow (Value.int .u64) (Sort.ahead w n) g 0 ts.toArray) os).ownsRow base e 1 (.slice (some ⟨g, 0, none⟩) ss.length cap) ss.length (ts.map (Value.int .u64)) :=
  ⟨by simp [hl], .inr ⟨g, cap, _, rfl, hbase, heap_sortedU _ hb, h1, h2, by simp [putCells, h3], by rw [Nat.mul_one, ← hl]; exact take_putCellsU cur ts (by omega)⟩⟩

end Go.Eng
