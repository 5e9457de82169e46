/- A machine that runs closed code, part 2 of 4: append, maps, operations in order. Conditions: none. -/
import Derived.Test.YtbdnlaepeladbaaGreatDoorEngA
import Derived.Below
import Derived.ProofKit
import Derived.Laws.BytesArg
namespace Go.Eng
open Go.RowKit

/-! ### maps from numbers: what a look-up and a store do -/

variable {P : Program} {w : World} {β : Type} {V : β → Value} {k : IntKind}

theorem run_setObj_map {P : Program} {w : World} {m : Nat} {es : Array MapEntry} {c : Nat} {o : Obj} (h : w.heap[m]? = some (.map es c)) : (setObj m o).run P w = .ok () { w with heap := w.heap.setIfInBounds m o } := by
  simp [setObj, Sem.run, h]

def aget (id : Int) : List (Int × β) → Option β
  | [] => none
  | p :: l => if id = p.1 then some p.2 else aget id l

/-- The value of a key: where it is, in its place; else behind all. -/
def aput (id : Int) (v : β) : List (Int × β) → List (Int × β)
  | [] => [(id, v)]
  | p :: l => if id = p.1 then (id, v) :: l else p :: aput id v l

def EntR (k : IntKind) (V : β → Value) (e : MapEntry) (p : Int × β) : Prop := e.key = .int k p.1 ∧ e.val = V p.2

def EntsR (k : IntKind) (V : β → Value) : List MapEntry → List (Int × β) → Prop
  | [], [] => True
  | e :: l, p :: r => EntR k V e p ∧ EntsR k V l r
  | _, _ => False

/-- Block m is a map of these entries. -/
def MapIs (k : IntKind) (V : β → Value) (w : World) (m : Nat) (es : List (Int × β)) : Prop :=
  ∃ ms clock, w.heap[m]? = some (.map ms clock) ∧ EntsR k V ms.toList es

theorem MapIs.below {w' : World} {B m : Nat} {es : List (Int × β)} (h : MapIs k V w m es) (hb : Below B w w') (hm : m < B) : MapIs k V w' m es := by
  obtain ⟨ms, c, h1, h2⟩ := h
  exact ⟨ms, c, (hb.block m hm).trans h1, h2⟩
theorem MapIs.same {w' : World} {m : Nat} {es : List (Int × β)} (h : MapIs k V w m es) (hb : w'.heap[m]? = w.heap[m]?) : MapIs k V w' m es := by
  obtain ⟨ms, c, h1, h2⟩ := h
  exact ⟨ms, c, hb.trans h1, h2⟩
theorem MapIs.lt {m : Nat} {es : List (Int × β)} (h : MapIs k V w m es) : m < w.heap.size := by
  obtain ⟨ms, c, h1, _⟩ := h
  exact (Array.getElem?_eq_some_iff.1 h1).1

theorem findNow_ents {q : IntKind} {id : Int} : ∀ {ms : List MapEntry} {es : List (Int × β)} {i : Nat}, EntsR k V ms es →
    Instr.findNow (.int q) (.int k id) ms i = some (match aget id es with
      | some v => some (i + (es.findIdx (fun p => id == p.1)), V v)
      | none => none)
  | [], [], i, _ => by simp [Instr.findNow, aget]
  | e :: l, p :: r, i, h => by
    obtain ⟨⟨h1, h2⟩, h3⟩ := h
    unfold Instr.findNow aget
    rw [h1]
    simp only [Instr.sameNow, if_true]
    by_cases e1 : id = p.1
    · subst e1
      simp [h2, List.findIdx_cons]
    · have e2 : (id == p.1) = false := by simpa using e1
      simp only [e2, if_neg e1]
      rw [findNow_ents h3]
      simp only [List.findIdx_cons, e2, cond_false]
      cases aget id r with
      | none => rfl
      | some v => simp only [Option.some.injEq, Prod.mk.injEq, and_true]; omega
  | [], p :: r, i, h => by cases h
  | e :: l, [], i, h => by cases h

theorem run_checkKey_int {kt : TypeId} {q : IntKind} (hk : P.underlying kt = some (.int q)) (b : Bool) (id : Int) (w : World) : (Instr.checkKey b 10000 kt (.int k id)).run P w = .ok () w := by
  have h : ∀ n, (Instr.checkKey b (n + 1) kt (.int k id)).run P w = .ok () w := by
    intro n
    unfold Instr.checkKey
    simp only [Sem.run_bind, run_underlying' hk, Result.andThen_ok, Sem.run_pure]
  exact h 9999

theorem run_lookup_ents {t kt et : TypeId} {q : IntKind} {z : Value} {m : Nat} {es : List (Int × β)} (ht : P.underlying t = some (.map kt et)) (hk : P.underlying kt = some (.int q))
    (hz : ∀ w, (zeroValue et).run P w = .ok z w) (h : MapIs k V w m es) (id : Int) (ok : Bool) :
    (Instr.lookup t (.map (some m)) (.int k id) ok).run P w = .ok (if ok then .tuple #[((aget id es).map V).getD z, .bool (aget id es).isSome] else ((aget id es).map V).getD z) w := by
  obtain ⟨ms, c, h1, h2⟩ := h
  simp only [Instr.lookup, Sem.run_bind, run_underlying' ht, Result.andThen_ok, run_getObj_map h1, Sem.run_pure, run_checkKey_int hk, Instr.findKey, run_underlying' hk, findNow_ents h2]
  cases aget id es with
  | none => simp [hz]
  | some v => simp

theorem sameBits_int (n : Nat) (a : Int) : Instr.sameBits n (.int k a) (.int k a) = true := by
  unfold Instr.sameBits; simp

theorem ents_get {id : Int} {v : β} : ∀ {ms : List MapEntry} {es : List (Int × β)}, EntsR k V ms es → aget id es = some v →
    ∃ e, ms[es.findIdx (fun p => id == p.1)]? = some e ∧ e.key = .int k id
  | [], [], _, h => by simp [aget] at h
  | e :: l, p :: r, h, hv => by
    obtain ⟨⟨h1, h2⟩, h3⟩ := h
    unfold aget at hv
    by_cases e1 : id = p.1
    · subst e1
      exact ⟨e, by simp [List.findIdx_cons], h1⟩
    · have e2 : (id == p.1) = false := by simpa using e1
      rw [if_neg e1] at hv
      obtain ⟨x, g1, g2⟩ := ents_get h3 hv
      exact ⟨x, by simp only [List.findIdx_cons, e2, cond_false, List.getElem?_cons_succ]; exact g1, g2⟩
  | [], p :: r, h, _ => by cases h
  | e :: l, [], h, _ => by cases h

theorem ents_modify {id : Int} {v0 v : β} : ∀ {ms : List MapEntry} {es : List (Int × β)}, EntsR k V ms es → aget id es = some v0 →
    EntsR k V (ms.modify (es.findIdx (fun p => id == p.1)) fun e => { e with key := .int k id, val := V v }) (aput id v es)
  | [], [], _, h => by simp [aget] at h
  | e :: l, p :: r, h, hv => by
    obtain ⟨h1, h3⟩ := h
    unfold aget at hv
    unfold aput
    by_cases e1 : id = p.1
    · subst e1
      simp only [List.findIdx_cons, beq_self_eq_true, cond_true, List.modify_zero_cons, if_true]
      exact ⟨⟨rfl, rfl⟩, h3⟩
    · have e2 : (id == p.1) = false := by simpa using e1
      rw [if_neg e1] at hv ⊢
      simp only [List.findIdx_cons, e2, cond_false, List.modify_succ_cons]
      exact ⟨h1, ents_modify h3 hv⟩
  | [], p :: r, h, _ => by cases h
  | e :: l, [], h, _ => by cases h

theorem ents_push {id : Int} {v : β} {c : Nat} : ∀ {ms : List MapEntry} {es : List (Int × β)}, EntsR k V ms es → aget id es = none →
    EntsR k V (ms ++ [⟨.int k id, V v, c⟩]) (aput id v es)
  | [], [], _, _ => ⟨⟨rfl, rfl⟩, trivial⟩
  | e :: l, p :: r, h, hv => by
    obtain ⟨h1, h3⟩ := h
    unfold aget at hv
    unfold aput
    by_cases e1 : id = p.1
    · rw [if_pos e1] at hv; cases hv
    · rw [if_neg e1] at hv ⊢
      exact ⟨h1, ents_push h3 hv⟩
  | [], p :: r, h, _ => by cases h
  | e :: l, [], h, _ => by cases h

theorem run_mapUpdate_ents {t kt et : TypeId} {q : IntKind} {m : Nat} {es : List (Int × β)} (ht : P.underlying t = some (.map kt et)) (hk : P.underlying kt = some (.int q))
    (h : MapIs k V w m es) (id : Int) (v : β) :
    ∃ ms c, (Instr.mapUpdate t (.map (some m)) (.int k id) (V v)).run P w = .ok () { w with heap := w.heap.setIfInBounds m (.map ms c) } ∧ EntsR k V ms.toList (aput id v es) := by
  obtain ⟨ms, c, h1, h2⟩ := h
  simp only [Instr.mapUpdate, Sem.run_bind, run_underlying' ht, Result.andThen_ok, run_getObj_map h1, run_checkKey_int hk, Instr.findKey, run_underlying' hk, findNow_ents h2, Sem.run_pure]
  cases hv : aget id es with
  | none =>
    refine ⟨ms.push ⟨.int k id, V v, c⟩, c + 1, ?_, ?_⟩
    · simp only [run_setObj_map h1]
    · rw [Array.toList_push]; exact ents_push h2 hv
  | some v0 =>
    obtain ⟨e, g1, g2⟩ := ents_get h2 hv
    refine ⟨ms.modify (es.findIdx (fun p => id == p.1)) fun e => { e with key := .int k id, val := V v }, c, ?_, ?_⟩
    · rw [Array.getElem?_toList] at g1
      simp only [Nat.zero_add, g1, Option.map_some, Option.getD_some, g2, Instr.keyThatStays, sameBits_int, if_true, Sem.run_pure, Sem.run_bind, Result.andThen_ok, run_setObj_map h1]
    · rw [Array.toList_modify]; exact ents_modify h2 hv

theorem MapIs.put {m c : Nat} {ms : Array MapEntry} {es : List (Int × β)} (hm : m < w.heap.size) (h : EntsR k V ms.toList es) : MapIs k V { w with heap := w.heap.setIfInBounds m (.map ms c) } m es :=
  ⟨ms, c, by simp [hm], h⟩

end Go.Eng

namespace Go.Eng
open Go.RowKit

variable {P : Program} {w : World} {β : Type} {V : β → Value} {k : IntKind}

/-- No two entries bear one stamp; all are older than the clock. -/
def Stamped (ms : List MapEntry) (clock : Nat) : Prop := ms.Pairwise (fun a b => a.born ≠ b.born) ∧ ∀ e ∈ ms, e.born < clock

/-- Block m is a map of these entries, each with a stamp of its own. -/
def MapSt (k : IntKind) (V : β → Value) (w : World) (m : Nat) (es : List (Int × β)) : Prop :=
  ∃ ms clock, w.heap[m]? = some (.map ms.toArray clock) ∧ EntsR k V ms es ∧ Stamped ms clock

theorem MapSt.is {m : Nat} {es : List (Int × β)} (h : MapSt k V w m es) : MapIs k V w m es := by
  obtain ⟨ms, c, h1, h2, _⟩ := h
  exact ⟨ms.toArray, c, h1, h2⟩
theorem MapSt.same {w' : World} {m : Nat} {es : List (Int × β)} (h : MapSt k V w m es) (hb : w'.heap[m]? = w.heap[m]?) : MapSt k V w' m es := by
  obtain ⟨ms, c, h1, h2, h3⟩ := h
  exact ⟨ms, c, hb.trans h1, h2, h3⟩
theorem MapSt.lt {m : Nat} {es : List (Int × β)} (h : MapSt k V w m es) : m < w.heap.size := h.is.lt
theorem MapSt.below {w' : World} {B m : Nat} {es : List (Int × β)} (h : MapSt k V w m es) (hb : Below B w w') (hm : m < B) : MapSt k V w' m es := h.same (hb.block m hm)

theorem Stamped.push {ms : List MapEntry} {c : Nat} (h : Stamped ms c) (key val : Value) : Stamped (ms ++ [⟨key, val, c⟩]) (c + 1) := by
  refine ⟨?_, fun e he => ?_⟩
  · rw [List.pairwise_append]
    refine ⟨h.1, List.pairwise_singleton _ _, fun a ha b hb => ?_⟩
    rw [List.mem_singleton] at hb; subst hb
    have := h.2 a ha
    show a.born ≠ c
    omega
  · rcases List.mem_append.1 he with he | he
    · have := h.2 e he; omega
    · rw [List.mem_singleton] at he; subst he; show c < c + 1; omega

theorem born_modify {f : MapEntry → MapEntry} (hf : ∀ e, (f e).born = e.born) (i : Nat) : ∀ ms : List MapEntry, (ms.modify i f).map (·.born) = ms.map (·.born) := by
  intro ms
  induction ms generalizing i with
  | nil => cases i <;> rfl
  | cons e l ih =>
    cases i with
    | zero => simp [hf]
    | succ i => simp [ih]

theorem Stamped.modify {ms : List MapEntry} {c : Nat} (h : Stamped ms c) {f : MapEntry → MapEntry} (hf : ∀ e, (f e).born = e.born) (i : Nat) : Stamped (ms.modify i f) c := by
  have e := born_modify hf i ms
  have pw : ∀ l : List MapEntry, l.Pairwise (fun a b => a.born ≠ b.born) ↔ (l.map (·.born)).Pairwise (· ≠ ·) := fun l => by rw [List.pairwise_map]
  refine ⟨?_, fun x hx => ?_⟩
  · rw [pw, e, ← pw]; exact h.1
  · have : x.born ∈ (ms.modify i f).map (·.born) := List.mem_map.2 ⟨x, hx, rfl⟩
    rw [e] at this
    obtain ⟨y, hy, e2⟩ := List.mem_map.1 this
    rw [← e2]; exact h.2 y hy

theorem run_mapUpdate_st {t kt et : TypeId} {q : IntKind} {m : Nat} {es : List (Int × β)} (ht : P.underlying t = some (.map kt et)) (hk : P.underlying kt = some (.int q))
    (h : MapSt k V w m es) (id : Int) (v : β) :
    ∃ ms c, (Instr.mapUpdate t (.map (some m)) (.int k id) (V v)).run P w = .ok () { w with heap := w.heap.setIfInBounds m (.map ms.toArray c) } ∧ EntsR k V ms (aput id v es) ∧ Stamped ms c := by
  obtain ⟨ms, c, h1, h2, h3⟩ := h
  simp only [Instr.mapUpdate, Sem.run_bind, run_underlying' ht, Result.andThen_ok, run_getObj_map h1, run_checkKey_int hk, Instr.findKey, run_underlying' hk, findNow_ents h2, Sem.run_pure]
  cases hv : aget id es with
  | none =>
    refine ⟨ms ++ [⟨.int k id, V v, c⟩], c + 1, ?_, ents_push h2 hv, h3.push _ _⟩
    simp only [run_setObj_map h1]
    simp
  | some v0 =>
    obtain ⟨e, g1, g2⟩ := ents_get h2 hv
    refine ⟨ms.modify (es.findIdx (fun p => id == p.1)) fun e => { e with key := .int k id, val := V v }, c, ?_, ents_modify h2 hv, h3.modify (f := fun e => { e with key := .int k id, val := V v }) (fun _ => rfl) _⟩
    have g1' : ms.toArray[0 + es.findIdx (fun p => id == p.1)]? = some e := by simpa using g1
    simp only [g1', Option.map_some, Option.getD_some, g2, Instr.keyThatStays, sameBits_int, if_true, Sem.run_pure, Sem.run_bind, Result.andThen_ok, run_setObj_map h1]
    simp

theorem MapSt.put {m c : Nat} {ms : List MapEntry} {es : List (Int × β)} (hm : m < w.heap.size) (h : EntsR k V ms es) (h2 : Stamped ms c) : MapSt k V { w with heap := w.heap.setIfInBounds m (.map ms.toArray c) } m es :=
  ⟨ms, c, by simp [hm], h, h2⟩

/-- An entry's key and value. -/
theorem ents_mem {e : MapEntry} : ∀ {ms : List MapEntry} {es : List (Int × β)}, EntsR k V ms es → e ∈ ms → ∃ p ∈ es, e.key = .int k p.1 ∧ e.val = V p.2
  | [], [], _, h => by cases h
  | x :: l, p :: r, h, he => by
    obtain ⟨h1, h3⟩ := h
    rcases List.mem_cons.1 he with rfl | he
    · exact ⟨p, List.mem_cons_self .., h1⟩
    · obtain ⟨q, hq, hk⟩ := ents_mem h3 he
      exact ⟨q, List.mem_cons_of_mem _ hq, hk⟩
  | [], p :: r, h, _ => by cases h
  | x :: l, [], h, _ => by cases h

theorem aget_aput' {β : Type} (i id : Int) (v : β) : ∀ es : List (Int × β), aget i (aput id v es) = if i = id then some v else aget i es := by
  intro es
  induction es with
  | nil => simp [aput, aget]
  | cons p l ih =>
    unfold aput
    by_cases h : id = p.1
    · rw [if_pos h]
      unfold aget
      by_cases e : i = id
      · rw [if_pos e, if_pos e]
      · rw [if_neg e, if_neg e, if_neg (by rw [← h]; exact e)]
    · rw [if_neg h]
      unfold aget
      rw [ih]
      by_cases e : i = id
      · subst e; rw [if_neg h, if_pos rfl, if_pos rfl]
      · rw [if_neg e]; simp [e]

/-- Without a key. -/
def adel (id : Int) : List (Int × β) → List (Int × β)
  | [] => []
  | p :: l => if id = p.1 then l else p :: adel id l

/-- No key twice. -/
def Keys1 (es : List (Int × β)) : Prop := es.Pairwise (fun a b => a.1 ≠ b.1)

theorem aget_mem {i : Int} {v : β} : ∀ {es : List (Int × β)}, aget i es = some v → (i, v) ∈ es
  | [], h => by simp [aget] at h
  | p :: l, h => by
    unfold aget at h
    split at h
    · rename_i e; rw [Option.some.inj h.symm, e]; exact List.mem_cons_self ..
    · exact List.mem_cons_of_mem _ (aget_mem h)

theorem aget_not {i : Int} : ∀ {es : List (Int × β)}, (∀ p ∈ es, i ≠ p.1) → aget i es = none
  | [], _ => rfl
  | p :: l, h => by
    unfold aget
    rw [if_neg (h p (List.mem_cons_self ..))]
    exact aget_not fun q hq => h q (List.mem_cons_of_mem _ hq)

theorem Keys1.get {q : Int × β} : ∀ {es : List (Int × β)}, Keys1 es → q ∈ es → aget q.1 es = some q.2
  | [], _, h => by cases h
  | p :: l, hk, h => by
    unfold Keys1 at hk
    rw [List.pairwise_cons] at hk
    unfold aget
    rcases List.mem_cons.1 h with rfl | h
    · rw [if_pos rfl]
    · rw [if_neg (fun e => hk.1 q h e.symm)]
      exact Keys1.get hk.2 h

theorem aget_adel {es : List (Int × β)} (hk : Keys1 es) (i id : Int) : aget i (adel id es) = if i = id then none else aget i es := by
  induction es with
  | nil => simp [adel, aget]
  | cons p l ih =>
    unfold Keys1 at hk
    rw [List.pairwise_cons] at hk
    unfold adel
    by_cases h : id = p.1
    · rw [if_pos h]
      by_cases e : i = id
      · rw [if_pos e]
        exact aget_not fun q hq e2 => hk.1 q hq (by rw [← e2, e, h])
      · rw [if_neg e]
        conv => rhs; unfold aget
        rw [if_neg (by rw [← h]; exact e)]
    · rw [if_neg h]
      unfold aget
      rw [ih hk.2]
      by_cases e : i = id
      · subst e; rw [if_neg h, if_pos rfl, if_pos rfl]
      · rw [if_neg e, if_neg e]

theorem mem_adel {q : Int × β} {id : Int} : ∀ {es : List (Int × β)}, q ∈ adel id es → q ∈ es
  | [], h => h
  | p :: l, h => by
    unfold adel at h
    split at h
    · exact List.mem_cons_of_mem _ h
    · rcases List.mem_cons.1 h with rfl | h
      · exact List.mem_cons_self ..
      · exact List.mem_cons_of_mem _ (mem_adel h)

theorem mem_aput' {q : Int × β} {id : Int} {v : β} : ∀ {es : List (Int × β)}, q ∈ aput id v es → q = (id, v) ∨ q ∈ es
  | [], h => by simp only [aput, List.mem_singleton] at h; exact .inl h
  | p :: l, h => by
    unfold aput at h
    split at h
    · rcases List.mem_cons.1 h with h | h
      · exact .inl h
      · exact .inr (List.mem_cons_of_mem _ h)
    · rcases List.mem_cons.1 h with h | h
      · exact .inr (by rw [h]; exact List.mem_cons_self ..)
      · rcases mem_aput' h with h | h
        · exact .inl h
        · exact .inr (List.mem_cons_of_mem _ h)

theorem Keys1.put {es : List (Int × β)} (hk : Keys1 es) (id : Int) (v : β) : Keys1 (aput id v es) := by
  induction es with
  | nil => exact List.pairwise_singleton _ _
  | cons p l ih =>
    unfold Keys1 at hk
    rw [List.pairwise_cons] at hk
    unfold aput
    by_cases h : id = p.1
    · rw [if_pos h]
      exact List.pairwise_cons.2 ⟨fun q hq => by rw [h]; exact hk.1 q hq, hk.2⟩
    · rw [if_neg h]
      refine List.pairwise_cons.2 ⟨fun q hq => ?_, ih hk.2⟩
      rcases mem_aput' hq with rfl | hq
      · exact fun e => h e.symm
      · exact hk.1 q hq

theorem Keys1.del {es : List (Int × β)} (hk : Keys1 es) (id : Int) : Keys1 (adel id es) := by
  induction es with
  | nil => exact hk
  | cons p l ih =>
    unfold Keys1 at hk
    rw [List.pairwise_cons] at hk
    unfold adel
    by_cases h : id = p.1
    · rw [if_pos h]; exact hk.2
    · rw [if_neg h]
      exact List.pairwise_cons.2 ⟨fun q hq => hk.1 q (mem_adel hq), ih hk.2⟩

theorem length_aput (id : Int) (v : β) : ∀ es : List (Int × β), (aput id v es).length = if (aget id es).isSome then es.length else es.length + 1 := by
  intro es
  induction es with
  | nil => simp [aput, aget]
  | cons p l ih =>
    unfold aput aget
    by_cases h : id = p.1
    · simp [h]
    · simp only [if_neg h, List.length_cons, ih]
      split <;> rfl

theorem length_adel (id : Int) : ∀ es : List (Int × β), (adel id es).length = if (aget id es).isSome then es.length - 1 else es.length := by
  intro es
  induction es with
  | nil => simp [adel, aget]
  | cons p l ih =>
    unfold adel aget
    by_cases h : id = p.1
    · simp [h]
    · simp only [if_neg h, List.length_cons, ih]
      split
      · rename_i e
        have : 0 < l.length := by
          cases l with
          | nil => simp [aget] at e
          | cons => simp
        omega
      · rfl

theorem ents_length : ∀ {ms : List MapEntry} {es : List (Int × β)}, EntsR k V ms es → ms.length = es.length
  | [], [], _ => rfl
  | e :: l, p :: r, h => by rw [List.length_cons, List.length_cons, ents_length h.2]
  | [], p :: r, h => by cases h
  | e :: l, [], h => by cases h

theorem ents_erase {id : Int} {v0 : β} : ∀ {ms : List MapEntry} {es : List (Int × β)}, EntsR k V ms es → aget id es = some v0 →
    EntsR k V (ms.eraseIdx (es.findIdx (fun p => id == p.1))) (adel id es)
  | [], [], _, h => by simp [aget] at h
  | e :: l, p :: r, h, hv => by
    obtain ⟨h1, h3⟩ := h
    unfold aget at hv
    unfold adel
    by_cases e1 : id = p.1
    · subst e1
      simp only [List.findIdx_cons, beq_self_eq_true, cond_true, if_true, List.eraseIdx_cons_zero]
      exact h3
    · have e2 : (id == p.1) = false := by simpa using e1
      rw [if_neg e1] at hv ⊢
      simp only [List.findIdx_cons, e2, cond_false, List.eraseIdx_cons_succ]
      exact ⟨h1, ents_erase h3 hv⟩
  | [], p :: r, h, _ => by cases h
  | e :: l, [], h, _ => by cases h

theorem adel_none {id : Int} : ∀ {es : List (Int × β)}, aget id es = none → adel id es = es
  | [], _ => rfl
  | p :: l, h => by
    unfold aget at h
    split at h
    · cases h
    · rename_i e
      unfold adel
      rw [if_neg e, adel_none h]

theorem Stamped.erase {ms : List MapEntry} {c : Nat} (h : Stamped ms c) (i : Nat) : Stamped (ms.eraseIdx i) c :=
  ⟨h.1.sublist (List.eraseIdx_sublist ..), fun e he => h.2 e (List.mem_of_mem_eraseIdx he)⟩

theorem run_delete_st {t kt et s ty : TypeId} {q : IntKind} {m : Nat} {es : List (Int × β)} (ht : P.underlying t = some (.map kt et)) (hk : P.underlying kt = some (.int q))
    (h : MapSt k V w m es) (id : Int) :
    ∃ ms c, (Builtin.delete_ #[t, s] ty #[.map (some m), .int k id]).run P w = .ok (.tuple #[]) { w with heap := w.heap.setIfInBounds m (.map ms.toArray c) } ∧ EntsR k V ms (adel id es) ∧ Stamped ms c := by
  obtain ⟨ms, c, h1, h2, h3⟩ := h
  simp only [Builtin.delete_]
  cases hv : aget id es with
  | none =>
    refine ⟨ms, c, ?_, by rw [adel_none hv]; exact h2, h3⟩
    simp [run_underlying' ht, run_getObj_map h1, run_checkKey_int hk, Instr.findKey, run_underlying' hk, findNow_ents h2, hv, run_setObj_map h1]
  | some v0 =>
    refine ⟨_, c, ?_, ents_erase h2 hv, h3.erase _⟩
    simp [run_underlying' ht, run_getObj_map h1, run_checkKey_int hk, Instr.findKey, run_underlying' hk, findNow_ents h2, hv, run_setObj_map h1]

end Go.Eng

namespace Go.Eng
open Go.RowKit

variable {P : Program} {K : Fix} {E F : Env} {S S' : St} {X : List (List Value)} {w w' : World} {a b v : AVal} {x y : Value} {t s : TypeId}

/-! ### maps that are objects -/

def rowPair (r : List Int) : Int × List Int := (r.headD 0, r.tail)

theorem aget_rows (k : Int) : ∀ l : List (List Int), aget k (l.map rowPair) = rfind k l
  | [] => rfl
  | r :: l => by simp only [List.map_cons, aget, rfind, rowPair, aget_rows k l]

def SortedR (l : List (List Int)) : Prop := l.Pairwise fun a b => a.headD 0 < b.headD 0

theorem aget_rput (i k : Int) (zs : List Int) : ∀ l : List (List Int), aget i ((rput k zs l).map rowPair) = if i = k then some zs else aget i (l.map rowPair)
  | [] => by simp [rput, aget, rowPair]
  | r :: l => by
    unfold rput
    split
    · simp only [List.map_cons, aget, rowPair, List.headD_cons, List.tail_cons]
    · split
      · rename_i h
        simp only [List.map_cons, aget, rowPair, List.headD_cons, List.tail_cons, h]
        split <;> rfl
      · rename_i h1 h2
        simp only [List.map_cons, aget, aget_rput i k zs l]
        by_cases e : i = (rowPair r).1
        · have : i ≠ k := by rw [e]; exact fun h => h2 h.symm
          simp only [e, if_true, if_neg (e ▸ this)]
        · simp only [if_neg e]

theorem rput_head (k : Int) (zs : List Int) : ∀ {l : List (List Int)} {r : List Int}, r ∈ rput k zs l → r = k :: zs ∨ r ∈ l
  | [], r, h => by simp [rput] at h; exact .inl h
  | q :: l, r, h => by
    unfold rput at h
    split at h
    · rcases List.mem_cons.1 h with h | h
      · exact .inl h
      · exact .inr h
    · split at h
      · rcases List.mem_cons.1 h with h | h
        · exact .inl h
        · exact .inr (List.mem_cons_of_mem _ h)
      · rcases List.mem_cons.1 h with rfl | h
        · exact .inr (List.mem_cons_self ..)
        · exact (rput_head k zs h).imp id (List.mem_cons_of_mem _)

theorem rput_sorted (k : Int) (zs : List Int) : ∀ {l : List (List Int)}, SortedR l → SortedR (rput k zs l)
  | [], _ => List.pairwise_singleton _ _
  | q :: l, h => by
    have hh := List.pairwise_cons.1 h
    unfold rput
    split
    · rename_i hlt
      refine List.pairwise_cons.2 ⟨fun b hb => ?_, h⟩
      rcases List.mem_cons.1 hb with rfl | hb
      · exact hlt
      · have := hh.1 b hb
        simp only [List.headD_cons]; omega
    · split
      · rename_i he
        exact List.pairwise_cons.2 ⟨fun b hb => by have := hh.1 b hb; simp only [List.headD_cons]; omega, hh.2⟩
      · rename_i h1 h2
        refine List.pairwise_cons.2 ⟨fun b hb => ?_, rput_sorted k zs hh.2⟩
        rcases rput_head k zs hb with rfl | hb
        · simp only [List.headD_cons]; omega
        · exact hh.1 b hb

theorem rdel_sub (k : Int) : ∀ l : List (List Int), (rdel k l).Sublist l
  | [] => List.Sublist.slnil
  | r :: l => by
    unfold rdel
    split
    · exact List.sublist_cons_self _ _
    · exact (rdel_sub k l).cons_cons _

theorem rfind_none {k : Int} : ∀ {l : List (List Int)}, (∀ r ∈ l, k ≠ r.headD 0) → rfind k l = none
  | [], _ => rfl
  | r :: l, h => by
    unfold rfind
    rw [if_neg (h r (List.mem_cons_self ..))]
    exact rfind_none fun q hq => h q (List.mem_cons_of_mem _ hq)

theorem aget_rdel (i k : Int) : ∀ {l : List (List Int)}, SortedR l → aget i ((rdel k l).map rowPair) = if i = k then none else aget i (l.map rowPair)
  | [], _ => by simp [rdel, aget]
  | r :: l, h => by
    have hh := List.pairwise_cons.1 h
    unfold rdel
    split
    · rename_i he
      by_cases e : i = k
      · rw [if_pos e, aget_rows]
        exact rfind_none fun q hq => by have := hh.1 q hq; omega
      · rw [if_neg e]
        simp only [List.map_cons, aget]
        rw [if_neg (by simp only [rowPair]; omega)]
    · rename_i he
      simp only [List.map_cons, aget, aget_rdel i k hh.2]
      by_cases e : i = (rowPair r).1
      · have : i ≠ k := by rw [e]; exact fun h => he h.symm
        simp only [e, if_true, if_neg (e ▸ this)]
      · simp only [if_neg e]

theorem keys1_rows {l : List (List Int)} (h : SortedR l) : Keys1 (l.map rowPair) := by
  unfold Keys1
  rw [List.pairwise_map]
  exact h.imp fun h => by simp only [rowPair]; omega

theorem Keys1.perm {β : Type} {p q : List (Int × β)} (h : Keys1 p) (hp : p.Perm q) : Keys1 q :=
  (hp.pairwise_iff fun {_ _} h => Ne.symm h).1 h

theorem mem_aget {β : Type} {p : List (Int × β)} (h : Keys1 p) {x : Int × β} : x ∈ p ↔ aget x.1 p = some x.2 :=
  ⟨fun hm => h.get hm, fun ha => aget_mem ha⟩

theorem Keys1.nodup {β : Type} {p : List (Int × β)} (h : Keys1 p) : p.Nodup := h.imp fun h e => h (by rw [e])

theorem perm_of_aget {β : Type} {p q : List (Int × β)} (hp : Keys1 p) (hq : Keys1 q) (h : ∀ i, aget i p = aget i q) : p.Perm q := by
  rw [List.perm_ext_iff_of_nodup hp.nodup hq.nodup]
  intro x
  rw [mem_aget hp, mem_aget hq, h]

theorem aget_perm {β : Type} {p q : List (Int × β)} (hp : Keys1 p) (h : p.Perm q) (i : Int) : aget i p = aget i q := by
  have hq := hp.perm h
  cases ha : aget i p with
  | some v =>
    have := h.mem_iff.1 (aget_mem ha)
    exact (hq.get this).symm
  | none =>
    cases hb : aget i q with
    | none => rfl
    | some v =>
      have := h.mem_iff.2 (aget_mem hb)
      rw [hp.get this] at ha; cases ha

theorem entsR_iff {q : IntKind} {V : List Int → Value} : ∀ {ms : List MapEntry} {p : List (Int × List Int)}, EntsR q V ms p ↔ ms.map (fun e => (e.key, e.val)) = p.map (fun x => (.int q x.1, V x.2))
  | [], [] => by simp [EntsR]
  | e :: l, x :: r => by
    simp only [EntsR, EntR, List.map_cons, List.cons.injEq, Prod.mk.injEq, entsR_iff (ms := l) (p := r)]
  | [], x :: r => by simp [EntsR]
  | e :: l, [] => by simp [EntsR]

/-- A map that is an object, as the maps' laws have it. -/
theorem MapR.open {q : IntKind} {cols : List TK} {sg : Bool} {v : Value} {gs : List U} {D : Nat → Prop} (h : MapR q cols sg v gs w D) :
    ∃ l m p, gs = [.rows l] ∧ v = .map (some m) ∧ D m ∧ MapSt q (rowVal cols sg) w m p ∧ Keys1 p ∧ p.Perm (l.map rowPair) ∧ SortedR l ∧ ∀ r ∈ l, colWfs (.int q :: cols) r = true := by
  obtain ⟨l, m, ms, ck, p, h1, h2, h3, h4, h5, h6, h7, h8, h9, h10⟩ := h
  have hk : Keys1 p := (keys1_rows h9).perm h5.symm
  exact ⟨l, m, p, h1, h2, h3, ⟨ms, ck, h4, entsR_iff.2 h6, h7, h8⟩, hk, h5, h9, h10⟩

theorem MapR.mk {q : IntKind} {cols : List TK} {sg : Bool} {D : Nat → Prop} {l : List (List Int)} {m : Nat} {p : List (Int × List Int)} (hD : D m) (h : MapSt q (rowVal cols sg) w m p) (hp : p.Perm (l.map rowPair)) (hs : SortedR l)
    (hw : ∀ r ∈ l, colWfs (.int q :: cols) r = true) : MapR q cols sg (.map (some m)) [.rows l] w D := by
  obtain ⟨ms, ck, h1, h2, h3, h4⟩ := h
  exact ⟨l, m, ms, ck, p, rfl, rfl, hD, h1, hp, entsR_iff.1 h2, h3, h4, hs, hw⟩

/-- The terms of a row that is looked up. -/
def getTms (g k : Tm) : Nat → List TK → Option (List AVal)
  | _, [] => some []
  | c, .int q :: l => (getTms g k (c + 1) l).map (.tm (.int q) (.bin (.mget c) g k) :: ·)
  | c, .bool :: l => (getTms g k (c + 1) l).map (.tm .bool (.bin (.mgetB c) g k) :: ·)
  | _, _ => none

theorem zero_wf (k : IntKind) : (Lit.int k 0).wf = true := by cases k <;> decide

/-- A row, or noughts. -/
def rowOr (cols : List TK) : Option (List Int) → List Int
  | some zs => zs
  | none => cols.map fun _ => 0

theorem colWfs_zero : ∀ {cols : List TK}, (∀ q ∈ cols, q = .bool ∨ ∃ k, q = .int k) → colWfs cols (cols.map fun _ => 0) = true
  | [], _ => rfl
  | q :: l, h => by
    simp only [List.map_cons, colWfs, Bool.and_eq_true]
    refine ⟨?_, colWfs_zero fun r hr => h r (List.mem_cons_of_mem _ hr)⟩
    rcases h q (List.mem_cons_self ..) with rfl | ⟨k, rfl⟩
    · rfl
    · exact zero_wf k

theorem getTms_kinds {g k : Tm} : ∀ {cols : List TK} {c : Nat} {r : List AVal}, getTms g k c cols = some r → ∀ q ∈ cols, q = .bool ∨ ∃ k, q = .int k
  | [], c, r, _, q, h => by simp at h
  | .int k' :: l, c, r, h, q, hq => by
    simp only [getTms, Option.map_eq_some_iff] at h
    obtain ⟨r', h1, _⟩ := h
    rcases List.mem_cons.1 hq with rfl | hq
    · exact .inr ⟨_, rfl⟩
    · exact getTms_kinds h1 q hq
  | .bool :: l, c, r, h, q, hq => by
    simp only [getTms, Option.map_eq_some_iff] at h
    obtain ⟨r', h1, _⟩ := h
    rcases List.mem_cons.1 hq with rfl | hq
    · exact .inl rfl
    · exact getTms_kinds h1 q hq
  | .str :: l, c, r, h, _, _ => by simp [getTms] at h
  | .ptr :: l, c, r, h, _, _ => by simp [getTms] at h
  | .any :: l, c, r, h, _, _ => by simp [getTms] at h

theorem getTms_sound {g k : Tm} {l : List (List Int)} {kz : Int} {zs : List Int} (hg : g.den E = some (.rows l)) (hk : k.den E = some (.int kz)) (hz : ∀ c : Nat, (((rfind kz l).getD [])[c]?).getD 0 = zs[c]?.getD 0) :
    ∀ {cols : List TK} {c : Nat} {r : List AVal} {ys : List Int}, zs.drop c = ys → colWfs cols ys = true → getTms g k c cols = some r → VRs E r (colVs cols ys)
  | [], c, r, ys, hd, hw, h => by
    simp only [getTms, Option.some.injEq] at h; subst h
    cases ys with
    | nil => exact VRs.nil
    | cons => simp [colWfs] at hw
  | .int q :: l', c, r, [], hd, hw, h => by simp [colWfs] at hw
  | .bool :: l', c, r, [], hd, hw, h => by simp [colWfs] at hw
  | .int q :: l', c, r, y :: ys, hd, hw, h => by
    simp only [getTms, Option.map_eq_some_iff] at h
    obtain ⟨r', h1, rfl⟩ := h
    simp only [colWfs, Bool.and_eq_true] at hw
    have hc : zs[c]? = some y := by
      have := congrArg (·[0]?) hd
      simpa [List.getElem?_drop] using this
    have hd' : zs.drop (c + 1) = ys := by rw [← List.drop_drop, hd]; rfl
    simp only [colVs, colV, Option.getD_some]
    refine VRs.cons ?_ (getTms_sound hg hk hz hd' hw.2 h1)
    simp only [VR]
    refine ⟨y, ?_, hw.1, rfl⟩
    simp only [Tm.den, hg, hk, TOp.den, hz, hc, Option.getD_some]
  | .bool :: l', c, r, y :: ys, hd, hw, h => by
    simp only [getTms, Option.map_eq_some_iff] at h
    obtain ⟨r', h1, rfl⟩ := h
    simp only [colWfs, Bool.and_eq_true] at hw
    have hc : zs[c]? = some y := by
      have := congrArg (·[0]?) hd
      simpa [List.getElem?_drop] using this
    have hd' : zs.drop (c + 1) = ys := by rw [← List.drop_drop, hd]; rfl
    simp only [colVs, colV, Option.getD_some]
    refine VRs.cons ?_ (getTms_sound hg hk hz hd' hw.2 h1)
    simp only [VR]
    refine ⟨decide (y ≠ 0), ?_, rfl⟩
    simp only [Tm.den, hg, hk, TOp.den, hz, hc, Option.getD_some]
  | .str :: l', c, r, ys, hd, hw, h => by simp [getTms] at h
  | .ptr :: l', c, r, ys, hd, hw, h => by simp [getTms] at h
  | .any :: l', c, r, ys, hd, hw, h => by simp [getTms] at h

/-- A map among the objects. -/
def mapOf (G : Glb) (h : Tm) : List AOb → Nat → Option (Nat × Nat × IntKind × List TK × Bool × Tm)
  | [], _ => none
  | o :: l, i => match G.fmt o.kind, beqT o.h h, o.gs with
    | .map q cols sg, true, [g] => some (i, o.kind, q, cols, sg, g)
    | _, _, _ => mapOf G h l (i + 1)

theorem mapOf_sound {G : Glb} {h : Tm} : ∀ {objs : List AOb} {i j κ : Nat} {q : IntKind} {cols : List TK} {sg : Bool} {g : Tm}, mapOf G h objs i = some (j, κ, q, cols, sg, g) →
    i ≤ j ∧ objs[j - i]? = some ⟨κ, h, [g]⟩ ∧ G.fmt κ = .map q cols sg
  | [], i, j, κ, q, cols, sg, g, hm => by simp [mapOf] at hm
  | o :: l, i, j, κ, q, cols, sg, g, hm => by
    unfold mapOf at hm
    split at hm
    · rename_i q' cols' sg' g' h1 h2 h3
      simp only [Option.some.injEq, Prod.mk.injEq] at hm
      obtain ⟨rfl, rfl, rfl, rfl, rfl, rfl⟩ := hm
      refine ⟨Nat.le_refl _, ?_, h1⟩
      have := beqT_eq _ _ h2
      cases o
      simp only at this h3
      simp [this, h3]
    · obtain ⟨g1, g2, g3⟩ := mapOf_sound hm
      refine ⟨by omega, ?_, g3⟩
      have : j - i = (j - (i + 1)) + 1 := by omega
      rw [this]; simpa using g2

theorem mapOf_open {h g : Tm} {j κ : Nat} {q : IntKind} {cols : List TK} {sg : Bool} (hx : XOk K E S.x w) (ho : mapOf K h S.x.objs 0 = some (j, κ, q, cols, sg, g)) :
    S.x.objs[j]? = some ⟨κ, h, [g]⟩ ∧ K.ob.fmt κ = .map q cols sg ∧ ∃ l m p, h.den E = some (.val (.map (some m))) ∧ g.den E = some (.rows l) ∧ E.fp j m ∧ MapSt q (rowVal cols sg) w m p ∧ Keys1 p ∧ p.Perm (l.map rowPair) ∧ SortedR l ∧ ∀ r ∈ l, colWfs (.int q :: cols) r = true := by
  obtain ⟨_, h1, h2⟩ := mapOf_sound ho
  simp only [Nat.sub_zero] at h1
  refine ⟨h1, h2, ?_⟩
  obtain ⟨v, gs, e1, e2, e3⟩ := hx.objs j _ h1
  unfold Objs.obj at e3
  have h2' : K.ob.fmt κ = .map q cols sg := h2
  simp only [h2'] at e3
  obtain ⟨l, m, p, rfl, rfl, g3, g4, g5, g6, g7, g8⟩ := e3.open
  simp only [dens] at e2
  split at e2
  · rename_i x1 x2 hx1 hx2
    simp only [Option.some.injEq, List.cons.injEq] at e2
    rw [e2.1] at hx1
    exact ⟨l, m, p, e1, hx1, g3, g4, g5, g6, g7, g8⟩
  · cases e2

def alookupS (P : Program) (G : Glb) (S : St) (t : TypeId) (a k : AVal) (ok : Bool) : Option AVal :=
  match a, tmInt k, P.underlying t with
  | .tm .any h, some (q', kt), some (.map kty et) =>
    match mapOf G h S.x.objs 0, P.underlying kty, still P (zeroValue et) with
    | some (_, _, q, cols, sg, g), some (.int _), some z =>
      if q = q' ∧ beqV 100 z (rowVal cols sg (cols.map fun _ => 0)) = true then
        match getTms g kt 0 cols with
        | some r => match sg, r with
          | true, [v] => some (if ok then .tuple [v, mkB S.x.conds (.bin .mhas g kt)] else v)
          | false, r => some (if ok then .tuple [.agg r, mkB S.x.conds (.bin .mhas g kt)] else .agg r)
          | _, _ => none
        | none => none
      else none
    | _, _, _ => none
  | _, _, _ => none

theorem alookupS_sound {u : AVal} {z : Value} {ok : Bool} (hx : XOk K E S.x w) (ha : VR E a x) (hk : VR E u z) (hv : alookupS P K S t a u ok = some v) :
    ∃ y, (Instr.lookup t x z ok).run P w = .ok y w ∧ VR E v y := by
  unfold alookupS at hv
  split at hv
  · rename_i h q' kt kty et hkt hu
    split at hv
    · rename_i j κ q cols sg g kq z0 hmo hkty hz0
      split at hv
      · rename_i hc
        obtain ⟨rfl, hz1⟩ := hc
        have hz1 := beqV_eq _ _ _ hz1
        obtain ⟨h1, h2, l, m, p, e1, e2, e3, e4, e5, e6, e7, e8⟩ := mapOf_open hx hmo
        obtain ⟨kz, f1, f2, rfl⟩ := tmInt_sound hk hkt
        simp only [VR] at ha
        have hxe := ha.1
        rw [e1] at hxe
        simp only [Option.some.injEq, U.val.injEq] at hxe
        subst hxe
        split at hv
        · rename_i r hr
          have hkinds := getTms_kinds hr
          have hrun := run_lookup_ents (P := P) (w := w) (q := kq) (z := z0) hu hkty (fun w => still_run hz0 w) e4.is kz ok
          have hget : aget kz p = rfind kz l := by rw [aget_perm e5 e6, aget_rows]
          have hV : ((aget kz p).map (rowVal cols sg)).getD z0 = rowVal cols sg (rowOr cols (rfind kz l)) := by
            rw [hget]
            cases rfind kz l with
            | none => rw [hz1]; rfl
            | some zs => rfl
          have hwf : colWfs cols (rowOr cols (rfind kz l)) = true := by
            cases hf : rfind kz l with
            | none => exact colWfs_zero hkinds
            | some zs =>
              rw [← hget, aget_perm e5 e6] at hf
              have hm := aget_mem hf
              obtain ⟨row, hrow, he⟩ := List.mem_map.1 hm
              have := e8 row hrow
              cases row with
              | nil => simp [colWfs] at this
              | cons r0 rs =>
                simp only [colWfs, Bool.and_eq_true] at this
                simp only [rowPair, List.headD_cons, List.tail_cons, Prod.mk.injEq] at he
                simp only [rowOr]
                rw [← he.2]; exact this.2
          have hcol : ∀ c : Nat, (((rfind kz l).getD [])[c]?).getD 0 = (rowOr cols (rfind kz l))[c]?.getD 0 := by
            intro c
            cases rfind kz l with
            | none =>
              simp only [Option.getD_none, List.getElem?_nil, rowOr, List.getElem?_map]
              cases cols[c]? <;> rfl
            | some zs => rfl
          have hvrs := getTms_sound e2 f1 hcol (ys := rowOr cols (rfind kz l)) rfl hwf hr
          rw [hV] at hrun
          have hhas : VR E (mkB S.x.conds (.bin .mhas g kt)) (.bool (aget kz p).isSome) := mkB_sound hx.conds (by simp only [Tm.den, e2, f1, TOp.den, hget])
          split at hv
          · rename_i v1
            obtain rfl := Option.some.inj hv
            simp only [VRs] at hvrs
            obtain ⟨y, r0, g1, g2, g3⟩ := hvrs
            have hy : rowVal cols true (rowOr cols (rfind kz l)) = y := by
              simp only [rowVal, if_true, g3, List.headD_cons]
            rw [hy] at hrun
            refine ⟨_, hrun, ?_⟩
            cases ok with
            | true => simp only [if_true, VR]; exact ⟨_, VRs.cons g1 (VRs.cons hhas VRs.nil), rfl⟩
            | false => simp only [Bool.false_eq_true, if_false]; exact g1
          · rename_i r1
            obtain rfl := Option.some.inj hv
            have hagg : VR E (.agg r) (rowVal cols false (rowOr cols (rfind kz l))) := by
              simp only [VR, rowVal, Bool.false_eq_true, if_false]
              exact ⟨_, hvrs, rfl⟩
            refine ⟨_, hrun, ?_⟩
            cases ok with
            | true => simp only [if_true, VR]; exact ⟨_, VRs.cons hagg (VRs.cons hhas VRs.nil), rfl⟩
            | false => simp only [Bool.false_eq_true, if_false]; exact hagg
          · cases hv
        · cases hv
      · cases hv
    · cases hv
  · cases hv

/-- How many a map has. -/
def alenS (P : Program) (G : Glb) (S : St) (b : Builtin) (ats : Array TypeId) (vs : List AVal) : Option AVal :=
  match b, ats.toList, vs with
  | .len, [t], [.tm .any h] => match P.underlying t, mapOf G h S.x.objs 0 with
    | some (.map _ _), some (_, _, _, _, _, g) => some (.tm (.raw .i64) (.un .len g))
    | _, _ => none
  | _, _, _ => none

theorem alenS_sound {bi : Builtin} {ats : Array TypeId} {type : TypeId} {consts : Array Bool} {vs : List AVal} {xs : List Value} (hx : XOk K E S.x w) (hs : VRs E vs xs)
    (hv : alenS P K S bi ats vs = some v) : ∃ y, (builtin bi ats type consts xs.toArray).run P w = .ok (.value y) w ∧ VR E v y := by
  unfold alenS at hv
  split at hv
  · rename_i t h hats
    have hats : ats = #[t] := by rw [← hats]
    subst hats
    split at hv
    · rename_i kt et j κ q cols sg g hu hmo
      obtain rfl := Option.some.inj hv
      obtain ⟨h1, h2, l, m, p, e1, e2, e3, e4, e5, e6, e7, e8⟩ := mapOf_open hx hmo
      simp only [VRs, VR] at hs
      obtain ⟨x, r, hp, rfl, rfl⟩ := hs
      have hxe := hp.1
      rw [e1] at hxe
      simp only [Option.some.injEq, U.val.injEq] at hxe
      subst hxe
      obtain ⟨ms, ck, k1, k2, k3⟩ := e4
      have hlen : ms.length = l.length := by
        rw [ents_length k2, e6.length_eq, List.length_map]
      refine ⟨goInt ms.length, by simp [builtin, Builtin.len_, run_underlying' hu, run_getObj_map k1], ?_⟩
      simp only [VR]
      exact ⟨l.length, by simp only [Tm.den, e2, TUn.den], by rw [hlen]; rfl⟩
    · cases hv
  · cases hv

/-- A value's cells, as terms of these kinds. -/
def rowTs : List TK → List AVal → Option (List Tm)
  | [], [] => some []
  | .int k :: qs, a :: l => match tmInt a, rowTs qs l with
    | some (k', t), some ts => if k = k' then some (t :: ts) else none
    | _, _ => none
  | .bool :: qs, a :: l => match tmBool a, rowTs qs l with
    | some t, some ts => some (t :: ts)
    | _, _ => none
  | _, _ => none

theorem rowTs_sound : ∀ {qs : List TK} {l : List AVal} {ts : List Tm} {xs : List Value}, rowTs qs l = some ts → VRs E l xs →
    ∃ (us : List U) (zs : List Int), dens E ts = some us ∧ uInts us = some zs ∧ colWfs qs zs = true ∧ colVs qs zs = xs
  | [], [], ts, xs, h, hv => by
    simp only [rowTs, Option.some.injEq] at h; subst h
    simp only [VRs] at hv; subst hv
    exact ⟨[], [], rfl, rfl, rfl, rfl⟩
  | .int k :: qs, a :: l, ts, xs, h, hv => by
    simp only [rowTs] at h
    split at h
    · rename_i k' t us h1 h2
      split at h
      · rename_i hk
        subst hk
        obtain rfl := Option.some.inj h
        simp only [VRs] at hv
        obtain ⟨x, r, g1, g2, rfl⟩ := hv
        obtain ⟨z, e1, e2, rfl⟩ := tmInt_sound g1 h1
        obtain ⟨us', zs, f1, f2, f3, f4⟩ := rowTs_sound h2 g2
        exact ⟨.int z :: us', z :: zs, by simp only [dens, e1, f1], by simp only [uInts, f2, Option.map_some], by simp only [colWfs, colWf, e2, f3, Bool.and_self], by simp only [colVs, colV, Option.getD_some, f4]⟩
      · cases h
    · cases h
  | .bool :: qs, a :: l, ts, xs, h, hv => by
    simp only [rowTs] at h
    split at h
    · rename_i t us h1 h2
      obtain rfl := Option.some.inj h
      simp only [VRs] at hv
      obtain ⟨x, r, g1, g2, rfl⟩ := hv
      obtain ⟨z, e1, rfl⟩ := tmBool_sound g1 h1
      obtain ⟨us', zs, f1, f2, f3, f4⟩ := rowTs_sound h2 g2
      refine ⟨.bool z :: us', (if z then 1 else 0) :: zs, by simp only [dens, e1, f1], by simp only [uInts, f2, Option.map_some], ?_, ?_⟩
      · simp only [colWfs, colWf, f3, Bool.and_true, decide_eq_true_eq]
        cases z <;> simp
      · simp only [colVs, colV, Option.getD_some, f4]
        cases z <;> simp
    · cases h
  | [], _ :: _, _, _, h, _ => by simp [rowTs] at h
  | .int _ :: _, [], _, _, h, _ => by simp [rowTs] at h
  | .bool :: _, [], _, _, h, _ => by simp [rowTs] at h
  | .str :: _, _, _, _, h, _ => by simp [rowTs] at h
  | .ptr :: _, _, _, _, h, _ => by simp [rowTs] at h
  | .any :: _, _, _, _, h, _ => by simp [rowTs] at h

/-- An object turns, in a block of its own. -/
theorem Ok.objSet {i m : Nat} {o o' : AOb} {u : Obj} (h : Ok K E S X w) (ho : S.x.objs[i]? = some o) (hm : E.fp i m)
    (hnew : ∃ v gs, o'.h.den E = some (.val v) ∧ dens E o'.gs = some gs ∧ K.ob.obj o'.kind v gs { w with heap := w.heap.setIfInBounds m u } (E.fp i) (E.pp i)) :
    Ok K E { S with x := { S.x with objs := S.x.objs.set i o' } } X { w with heap := w.heap.setIfInBounds m u } := by
  have hi := (List.getElem?_eq_some_iff.1 ho).1
  have hget : ∀ c, c ≠ m → (w.heap.setIfInBounds m u)[c]? = w.heap[c]? := fun c hc => by
    rw [Array.getElem?_setIfInBounds, if_neg (Ne.symm hc)]
  have hbn := (h.x.obnd i m hi hm).1
  refine ⟨h.dom, fun b o ho => ?_, h.inj, h.kdom, h.lb, ?_, by simpa using h.base, h.stk, ⟨h.x.fn, fun j p hp => ?_, ?_, ?_, ?_, ?_, ?_, h.x.conds, h.x.vars, h.x.base⟩⟩
  · obtain ⟨c, x, h1, h2, h3, h4⟩ := h.obj b o ho
    refine ⟨c, x, h1, h2, ?_, h4⟩
    rw [hget c (by rintro rfl; exact (h.x.onam i b c hi h1).1 hm)]
    exact h3
  · refine ⟨h.below.os, h.below.tape, h.below.output, by simpa using h.below.size, fun k hk => ?_⟩
    rw [hget k (by omega)]
    exact h.below.block k hk
  · by_cases e : i = j
    · subst e
      simp only [List.getElem?_set_self hi, Option.some.injEq] at hp
      subst hp
      exact hnew
    · simp only [List.getElem?_set_ne e] at hp
      have hj := (List.getElem?_eq_some_iff.1 hp).1
      obtain ⟨v, gs, h1, h2, h3⟩ := h.x.objs j p hp
      refine ⟨v, gs, h1, h2, K.ob.frame _ _ _ _ _ _ _ h3 fun c hc => hget c ?_⟩
      rintro rfl
      rcases hc with hc | hc
      · exact h.x.odis i j hi hj e c hm hc
      · exact h.x.opp j i hj hi c hc hm
  · simpa only [List.length_set] using h.x.odis
  · simpa only [List.length_set] using h.x.opp
  · simpa only [List.length_set] using h.x.onam
  · simpa only [List.length_set, Array.size_setIfInBounds] using h.x.obnd
  · simpa only [List.length_set, Array.size_setIfInBounds] using h.x.pbnd

def aupdateS (P : Program) (G : Glb) (S : St) (t : TypeId) (a k v : AVal) : Option St :=
  match a, tmInt k, P.underlying t with
  | .tm .any h, some (q', kt), some (.map kty _) =>
    match mapOf G h S.x.objs 0, P.underlying kty with
    | some (i, κ, q, cols, sg, g), some (.int _) =>
      if q = q' then
        match (match sg, v with
          | true, v => rowTs cols [v]
          | false, .agg l => rowTs cols l
          | false, .lit (.agg vs) => rowTs cols (vs.toList.map .lit)
          | false, _ => none) with
        | some ts => some { S with x := { S.x with objs := S.x.objs.set i ⟨κ, h, [.app 0 (g :: kt :: ts)]⟩ } }
        | none => none
      else none
    | _, _ => none
  | _, _, _ => none

theorem aupdateS_sound {k : AVal} {p0 q0 : Value} (h : Ok K E S X w) (ha : VR E a p0) (hk : VR E k q0) (hx : VR E v x) (hs : aupdateS P K S t a k v = some S') :
    ∃ w', (Instr.mapUpdate t p0 q0 x).run P w = .ok () w' ∧ Ok K E S' X w' := by
  unfold aupdateS at hs
  split at hs
  · rename_i hh q' kt kty et hkt hu
    split at hs
    · rename_i i κ q cols sg g kq hmo hkty
      split at hs
      · rename_i hq
        subst hq
        split at hs
        · rename_i ts hts
          obtain rfl := Option.some.inj hs
          obtain ⟨h1, h2, l, m, p, e1, e2, e3, e4, e5, e6, e7, e8⟩ := mapOf_open h.x hmo
          obtain ⟨kz, f1, f2, rfl⟩ := tmInt_sound hk hkt
          simp only [VR] at ha
          have hxe := ha.1
          rw [e1] at hxe
          simp only [Option.some.injEq, U.val.injEq] at hxe
          subst hxe
          have hrow : ∃ us zs, dens E ts = some us ∧ uInts us = some zs ∧ colWfs cols zs = true ∧ rowVal cols sg zs = x := by
            split at hts
            · obtain ⟨us, zs, g1, g2, g3, g4⟩ := rowTs_sound hts (VRs.cons hx VRs.nil)
              refine ⟨us, zs, g1, g2, g3, ?_⟩
              simp only [rowVal, if_true, g4, List.headD_cons]
            · simp only [VR] at hx
              obtain ⟨xs, hxs, rfl⟩ := hx
              obtain ⟨us, zs, g1, g2, g3, g4⟩ := rowTs_sound hts hxs
              refine ⟨us, zs, g1, g2, g3, ?_⟩
              simp only [rowVal, Bool.false_eq_true, if_false, g4]
            · simp only [VR] at hx; subst hx
              obtain ⟨us, zs, g1, g2, g3, g4⟩ := rowTs_sound hts (VRs.lits _)
              refine ⟨us, zs, g1, g2, g3, ?_⟩
              simp only [rowVal, Bool.false_eq_true, if_false, g4]
            · cases hts
          obtain ⟨us, zs, g1, g2, g3, rfl⟩ := hrow
          obtain ⟨ms, c, k1, k2, k3⟩ := run_mapUpdate_st (P := P) (q := kq) hu hkty e4 kz zs
          refine ⟨_, k1, h.objSet h1 e3 ⟨.map (some m), [.rows (rput kz zs l)], e1, ?_, ?_⟩⟩
          · simp only [dens, Tm.den, e2, f1, g1, appF, g2, Option.map_some]
          · unfold Objs.obj
            simp only [h2]
            refine MapR.mk e3 (MapSt.put e4.lt k2 k3) ?_ (rput_sorted _ _ e7) fun r hr => ?_
            · refine perm_of_aget (e5.put _ _) (keys1_rows (rput_sorted _ _ e7)) fun j => ?_
              rw [aget_aput', aget_rput, aget_perm e5 e6]
            · rcases rput_head _ _ hr with rfl | hr
              · simp only [colWfs, colWf, f2, g3, Bool.and_self]
              · exact e8 r hr
        · cases hs
      · cases hs
    · cases hs
  · cases hs

def adeleteS (P : Program) (G : Glb) (S : St) (t : TypeId) (a k : AVal) : Option St :=
  match a, tmInt k, P.underlying t with
  | .tm .any h, some (q', kt), some (.map kty _) =>
    match mapOf G h S.x.objs 0, P.underlying kty with
    | some (i, κ, q, _, _, g), some (.int _) =>
      if q = q' then some { S with x := { S.x with objs := S.x.objs.set i ⟨κ, h, [.app 1 [g, kt]]⟩ } } else none
    | _, _ => none
  | _, _, _ => none

theorem adeleteS_sound {k : AVal} {p0 q0 : Value} {ty : TypeId} (h : Ok K E S X w) (ha : VR E a p0) (hk : VR E k q0) (hs : adeleteS P K S t a k = some S') :
    ∃ w', (Builtin.delete_ #[t, s] ty #[p0, q0]).run P w = .ok (.tuple #[]) w' ∧ Ok K E S' X w' := by
  unfold adeleteS at hs
  split at hs
  · rename_i hh q' kt kty et hkt hu
    split at hs
    · rename_i i κ q cols sg g kq hmo hkty
      split at hs
      · rename_i hq
        subst hq
        obtain rfl := Option.some.inj hs
        obtain ⟨h1, h2, l, m, p, e1, e2, e3, e4, e5, e6, e7, e8⟩ := mapOf_open h.x hmo
        obtain ⟨kz, f1, f2, rfl⟩ := tmInt_sound hk hkt
        simp only [VR] at ha
        have hxe := ha.1
        rw [e1] at hxe
        simp only [Option.some.injEq, U.val.injEq] at hxe
        subst hxe
        obtain ⟨ms, c, k1, k2, k3⟩ := run_delete_st (P := P) (q := kq) (s := s) (ty := ty) hu hkty e4 kz
        refine ⟨_, k1, h.objSet h1 e3 ⟨.map (some m), [.rows (rdel kz l)], e1, ?_, ?_⟩⟩
        · simp only [dens, Tm.den, e2, f1, appF]
        · unfold Objs.obj
          simp only [h2]
          have hs' : SortedR (rdel kz l) := e7.sublist (rdel_sub _ _)
          refine MapR.mk e3 (MapSt.put e4.lt k2 k3) ?_ hs' fun r hr => e8 r ((rdel_sub _ _).subset hr)
          refine perm_of_aget (e5.del _) (keys1_rows hs') fun j => ?_
          rw [aget_adel e5, aget_rdel _ _ e7, aget_perm e5 e6]
      · cases hs
    · cases hs
  · cases hs

end Go.Eng

namespace Go.Eng
open Go.RowKit

variable {P : Program} {K : Fix} {E F : Env} {S S' : St} {X : List (List Value)} {w w' : World} {a b v : AVal} {x y : Value} {t s : TypeId} {l r : List AVal} {xs : List Value} {i j n off f : Nat}

/-- What an operand is. -/
def EvR (E : Env) (A : Operand → Option AVal) (ρ : Operand → Value) : Prop := ∀ o v, A o = some v → VR E v (ρ o)

def aargs (A : Operand → Option AVal) : List Operand → Option (List AVal)
  | [] => some []
  | o :: l => match A o, aargs A l with
    | some v, some vs => some (v :: vs)
    | _, _ => none

theorem aargs_sound {A : Operand → Option AVal} {ρ : Operand → Value} (h : EvR E A ρ) : ∀ {l : List Operand} {vs : List AVal}, aargs A l = some vs → VRs E vs (l.map ρ)
  | [], vs, hv => by simp only [aargs, Option.some.injEq] at hv; subst hv; exact VRs.nil
  | o :: l, vs, hv => by
    simp only [aargs] at hv
    split at hv
    · rename_i v us h1 h2
      simp only [Option.some.injEq] at hv; subst hv
      exact VRs.cons (h _ _ h1) (aargs_sound h h2)
    · simp at hv

/-- Is it nil (by '=='), of a value that isn't, or one known? -/
def anotNil (d : TypeDesc) (a b : AVal) : Bool :=
  match d, a, b with
  | .pointer _, .ptr .., .lit (.pointer none) => true
  | .pointer _, .lit (.pointer none), .ptr .. => true
  | .pointer _, .tm .ptr _, .lit (.pointer none) => true
  | .pointer _, .lit (.pointer none), .tm .ptr _ => true
  | .map .., .map _, .lit (.map none) => true
  | .map .., .lit (.map none), .map _ => true
  | .slice _, .slice .., .lit (.slice none _ _) => true
  | .func .., .func .., .lit .nilFunc => true
  | .interface _, .iface .., .lit .nilIface => true
  | .interface _, .lit .nilIface, .iface .. => true
  | _, _, _ => false

theorem run_equal_notNil {d : TypeDesc} {p q : AVal} (hd : P.underlying t = some d) (hp : VR E p x) (hq : VR E q y) (h : anotNil d p q = true) :
    (Op.equal t x y).run P w = .ok false w := by
  have key : ∀ n, (Op.equalIn (n + 1) t x y).run P w = .ok false w := by
    intro n
    unfold anotNil at h
    split at h <;> (try simp only [VR] at hp hq)
    · obtain ⟨c, hc, rfl⟩ := hp; subst hq
      simp [Op.equalIn, run_underlying' hd]
    · obtain ⟨c, hc, rfl⟩ := hq; subst hp
      simp [Op.equalIn, run_underlying' hd]
    · obtain ⟨c, hc, rfl⟩ := hp; subst hq
      simp [Op.equalIn, run_underlying' hd]
    · obtain ⟨c, hc, rfl⟩ := hq; subst hp
      simp [Op.equalIn, run_underlying' hd]
    · obtain ⟨c, hc, rfl⟩ := hp; subst hq
      simp [Op.equalIn, run_underlying' hd]
    · obtain ⟨c, hc, rfl⟩ := hq; subst hp
      simp [Op.equalIn, run_underlying' hd]
    · obtain ⟨c, k, hc, _, rfl⟩ := hp; subst hq
      simp [Op.equalIn, run_underlying' hd]
    · obtain ⟨fs, gs, hc, _, rfl⟩ := hp; subst hq
      simp [Op.equalIn, run_underlying' hd]
    · obtain ⟨u, hc, rfl⟩ := hp; subst hq
      simp [Op.equalIn, run_underlying' hd]
    · obtain ⟨u, hc, rfl⟩ := hq; subst hp
      simp [Op.equalIn, run_underlying' hd]
    · cases h
  exact key 9999

theorem run_binOp_notNil {d : TypeDesc} {p q : AVal} {px qx : Operand} (hd : P.underlying t = some d) (hp : VR E p x) (hq : VR E q y) (h : anotNil d p q = true) :
    (do eqGuard .eql t px qx x y; binOp .eql t x y : Sem Value).run P w = .ok (.bool false) w ∧ (do eqGuard .neq t px qx x y; binOp .neq t x y : Sem Value).run P w = .ok (.bool true) w := by
  have he := run_equal_notNil (w := w) hd hp hq h
  have h1 : (eqGuard .eql t px qx x y).run P w = .ok () w ∧ (eqGuard .neq t px qx x y).run P w = .ok () w ∧
      binOp .eql t x y = (do pure (.bool (← Op.equal t x y))) ∧ binOp .neq t x y = (do pure (.bool (!(← Op.equal t x y)))) := by
    unfold anotNil at h
    split at h <;> (try simp only [VR] at hp hq)
    · obtain ⟨c, hc, rfl⟩ := hp; subst hq
      exact ⟨rfl, rfl, rfl, rfl⟩
    · obtain ⟨c, hc, rfl⟩ := hq; subst hp
      exact ⟨rfl, rfl, rfl, rfl⟩
    · obtain ⟨c, hc, rfl⟩ := hp; subst hq
      exact ⟨rfl, rfl, rfl, rfl⟩
    · obtain ⟨c, hc, rfl⟩ := hq; subst hp
      exact ⟨rfl, rfl, rfl, rfl⟩
    · obtain ⟨c, hc, rfl⟩ := hp; subst hq
      exact ⟨rfl, rfl, rfl, rfl⟩
    · obtain ⟨c, hc, rfl⟩ := hq; subst hp
      exact ⟨rfl, rfl, rfl, rfl⟩
    · obtain ⟨c, k, hc, _, rfl⟩ := hp; subst hq
      exact ⟨rfl, rfl, rfl, rfl⟩
    · obtain ⟨fs, gs, hc, _, rfl⟩ := hp; subst hq
      exact ⟨rfl, rfl, rfl, rfl⟩
    · obtain ⟨u, hc, rfl⟩ := hp; subst hq
      exact ⟨rfl, rfl, rfl, rfl⟩
    · obtain ⟨u, hc, rfl⟩ := hq; subst hp
      exact ⟨rfl, rfl, rfl, rfl⟩
    · cases h
  obtain ⟨g1, g2, g3, g4⟩ := h1
  simp only [Sem.run_bind, g1, g2, g3, g4, Result.andThen_ok, he, Sem.run_pure, Bool.not_false, and_self]

def abin (P : Program) (cs : Conds) (op : BinOp) (t : TypeId) (px qx : Operand) (p q : AVal) : Option AVal :=
  match p.toLit, q.toLit with
  | some u, some v => (still P (do eqGuard op t px qx u v; binOp op t u v)).map .lit
  | _, _ =>
    match P.underlying t with
    | none => none
    | some d =>
      if anotNil d p q then (match op with
        | .eql => some (.lit (.bool false))
        | .neq => some (.lit (.bool true))
        | _ => none)
      else asym P cs op t p q

theorem abin_sound {cs : Conds} {op : BinOp} {px qx : Operand} {p q : AVal} (hc : CondsOk E cs) (hp : VR E p x) (hq : VR E q y) (hv : abin P cs op t px qx p q = some v) :
    ∃ z, (do eqGuard op t px qx x y; binOp op t x y : Sem Value).run P w = .ok z w ∧ VR E v z := by
  unfold abin at hv
  split at hv
  · rename_i u u' h1 h2
    have e1 := toLit_eq h1 hp
    have e2 := toLit_eq h2 hq
    subst e1; subst e2
    simp only [Option.map_eq_some_iff] at hv
    obtain ⟨z, hz, rfl⟩ := hv
    exact ⟨z, still_run hz w, by simp only [VR]⟩
  · split at hv
    · simp at hv
    · rename_i d hd
      split at hv
      · rename_i hn
        have := run_binOp_notNil (w := w) (px := px) (qx := qx) hd hp hq hn
        split at hv
        · simp only [Option.some.injEq] at hv; subst hv; exact ⟨_, this.1, by simp only [VR]⟩
        · simp only [Option.some.injEq] at hv; subst hv; exact ⟨_, this.2, by simp only [VR]⟩
        · simp at hv
      · exact asym_sound hc hp hq hv

def anil : AVal → Option AVal
  | .tm .ptr t => some (.tm .ptr t)
  | .ptr b off => some (.ptr b off)
  | .map b => some (.map b)
  | .slice b o l m c => some (.slice b o l m c)
  | .func (.func f) x y => some (.func (.func f) x y)
  | .lit (.pointer (some a)) => some (.lit (.pointer (some a)))
  | .lit (.func (.func f) x y) => some (.lit (.func (.func f) x y))
  | .iface t v => some (.iface t v)
  | _ => none

def lits1 (P : Program) (a : AVal) (k : Value → Sem Value) : Option AVal :=
  match a.toLit with
  | some v => (still P (k v)).map .lit
  | none => none

theorem lits1_sound {k : Value → Sem Value} (h : VR E a x) (hv : lits1 P a k = some v) : ∃ y, (k x).run P w = .ok y w ∧ VR E v y := by
  unfold lits1 at hv
  split at hv
  · rename_i u hu
    have e := toLit_eq hu h
    subst e
    simp only [Option.map_eq_some_iff] at hv
    obtain ⟨z, hz, rfl⟩ := hv
    exact ⟨z, still_run hz w, by simp only [VR]⟩
  · simp at hv

def aiface (P : Program) (t : TypeId) (a : AVal) : Option AVal :=
  match P.underlying t with
  | some (.interface _) => none
  | some _ => some (.iface t a)
  | none => none

theorem aiface_sound (h : VR E a x) (hv : aiface P t a = some v) : ∃ y, (Instr.makeInterface t x).run P w = .ok y w ∧ VR E v y := by
  unfold aiface at hv
  split at hv
  · simp at hv
  · rename_i d hne hd
    simp only [Option.some.injEq] at hv; subst hv
    refine ⟨.iface t x, ?_, by simp only [VR]; exact ⟨x, h, rfl⟩⟩
    simp only [Instr.makeInterface, Sem.run_bind, run_underlying' hd, Result.andThen_ok, Sem.run_pure]
  · simp at hv

def aassert (P : Program) (a : AVal) (xt t : TypeId) (ok : Bool) : Option AVal :=
  match a with
  | .iface u v =>
    match P.underlying t with
    | some (.interface _) => none
    | some _ => if u = t then some (if ok then .tuple [v, .lit (.bool true)] else v)
      else if ok then (still P (zeroValue t)).map (fun z => .tuple [.lit z, .lit (.bool false)]) else none
    | none => none
  | .lit v => (still P (Instr.typeAssert v xt t ok)).map .lit
  | _ => none

theorem aassert_sound {xt : TypeId} {ok : Bool} (h : VR E a x) (hv : aassert P a xt t ok = some v) : ∃ y, (Instr.typeAssert x xt t ok).run P w = .ok y w ∧ VR E v y := by
  unfold aassert at hv
  split at hv
  · rename_i u v'
    simp only [VR] at h; obtain ⟨y, hy, rfl⟩ := h
    split at hv
    · simp at hv
    · rename_i d hne hd
      split at hv
      · rename_i hu
        subst hu
        simp only [Option.some.injEq] at hv; subst hv
        refine ⟨if ok then .tuple #[y, .bool true] else y, ?_, ?_⟩
        · simp only [Instr.typeAssert, Sem.run_bind, run_underlying' hd, Result.andThen_ok, if_true]
          cases ok <;> rfl
        · cases ok
          · simp only [Bool.false_eq_true, if_false]; exact hy
          · simp only [if_true]; exact VRs.two hy (by simp only [VR])
      · rename_i hu
        split at hv
        · rename_i hok
          subst hok
          simp only [Option.map_eq_some_iff] at hv
          obtain ⟨z, hz, rfl⟩ := hv
          refine ⟨.tuple #[z, .bool false], ?_, VRs.two (by simp only [VR]) (by simp only [VR])⟩
          simp only [Instr.typeAssert, Sem.run_bind, run_underlying' hd, Result.andThen_ok, if_neg hu, still_run hz, if_true, Sem.run_pure]
        · simp at hv
    · simp at hv
  · simp only [VR] at h; subst h
    simp only [Option.map_eq_some_iff] at hv
    obtain ⟨z, hz, rfl⟩ := hv
    exact ⟨z, still_run hz w, by simp only [VR]⟩
  · simp at hv

/-- A struct's fields' places. -/
def aplaces (P : Program) : List Field → Option (List (Nat × Nat))
  | [] => some []
  | fd :: l => match P.info? fd.type, aplaces P l with
    | some i, some r => some ((fd.offset, i.size) :: r)
    | _, _ => none

theorem mapM_eq {α β : Type} {f : α → Sem β} {g : List β} : ∀ {l : List α}, (l.mapM f).run P w = .ok g w → (l.toArray.mapM f).run P w = .ok g.toArray w := by
  intro l h
  rw [List.mapM_toArray]
  simp [h]

theorem aplaces_sound : ∀ {l : List Field} {r : List (Nat × Nat)}, aplaces P l = some r →
    (l.mapM (fun fd => do pure (fd.offset, ← sizeOf fd.type) : Field → Sem (Nat × Nat))).run P w = .ok r w
  | [], r, h => by simp only [aplaces, Option.some.injEq] at h; subst h; simp
  | fd :: l, r, h => by
    simp only [aplaces] at h
    split at h
    · rename_i i s h1 h2
      simp only [Option.some.injEq] at h; subst h
      simp only [List.mapM_cons, Sem.run_bind, run_sizeOf' h1, Result.andThen_ok, Sem.run_pure, aplaces_sound h2]
    · simp at h

def aparts (A : Operand → Option AVal) : List (Nat × Operand) → Option (List (Nat × AVal))
  | [] => some []
  | p :: l => match A p.2, aparts A l with
    | some v, some vs => some ((p.1, v) :: vs)
    | _, _ => none

theorem aparts_sound {A : Operand → Option AVal} {ρ : Operand → Value} (h : EvR E A ρ) : ∀ {l : List (Nat × Operand)} {vs : List (Nat × AVal)}, aparts A l = some vs → PR E vs (l.map fun p => (p.1, ρ p.2))
  | [], vs, hv => by simp only [aparts, Option.some.injEq] at hv; subst hv; simp [PR]
  | o :: l, vs, hv => by
    simp only [aparts] at hv
    split at hv
    · rename_i v us h1 h2
      simp only [Option.some.injEq] at hv; subst hv
      simp only [PR, List.map_cons]; exact ⟨_, _, h _ _ h1, aparts_sound h h2, rfl⟩
    · simp at hv

def abuild (P : Program) (t : TypeId) (ps : List (Nat × AVal)) : Option AVal :=
  match P.underlying t, still P (zeroValue t) with
  | some (.struct fields), some z =>
    match aplaces P fields.toList with
    | some pl => (afill (fun i => pl[i]?) (AVal.lit z).cells ps).map .agg
    | none => none
  | some (.array _ e), some z =>
    match P.info? e with
    | some i => (afill (fun k => some (k * i.size, i.size)) (AVal.lit z).cells ps).map .agg
    | none => none
  | _, _ => none

theorem abuild_sound {ps : List (Nat × AVal)} {qs : List (Nat × Value)} (h : PR E ps qs) (hv : abuild P t ps = some v) :
    ∃ y, (Instr.build t qs.toArray).run P w = .ok y w ∧ VR E v y := by
  unfold abuild at hv
  split at hv
  · rename_i fields z hd hz
    split at hv
    · rename_i pl hpl
      simp only [Option.map_eq_some_iff] at hv
      obtain ⟨cs, hcs, rfl⟩ := hv
      have hzc : VRs E (AVal.lit z).cells z.cells.toList := VR.cells (by simp only [VR]) (by simp)
      obtain ⟨ys, h1, h2⟩ := afill_sound h hzc hcs
      refine ⟨.agg ys.toArray, ?_, by simp only [VR]; exact ⟨ys, h2, rfl⟩⟩
      have hm := mapM_eq (aplaces_sound (w := w) hpl)
      simp only [Array.toArray_toList] at hm h1
      simp only [Instr.build, Sem.run_bind, still_run hz, Result.andThen_ok, run_underlying' hd, hm]
      simp only [List.getElem?_toArray, h1]
      rfl
    · simp at hv
  · rename_i n e z hd hz
    split at hv
    · rename_i i hi
      simp only [Option.map_eq_some_iff] at hv
      obtain ⟨cs, hcs, rfl⟩ := hv
      have hzc : VRs E (AVal.lit z).cells z.cells.toList := VR.cells (by simp only [VR]) (by simp)
      obtain ⟨ys, h1, h2⟩ := afill_sound h hzc hcs
      refine ⟨.agg ys.toArray, ?_, by simp only [VR]; exact ⟨ys, h2, rfl⟩⟩
      simp only [Array.toArray_toList] at h1
      simp only [Instr.build, Sem.run_bind, still_run hz, Result.andThen_ok, run_underlying' hd, run_sizeOf' hi, h1]
      rfl
    · simp at hv
  · simp at hv

end Go.Eng

namespace Go.Eng
open Go.RowKit

variable {P : Program} {K : Fix} {E F : Env} {S S' : St} {X : List (List Value)} {w w' : World} {a b v : AVal} {x y : Value} {t s : TypeId} {l r : List AVal} {xs : List Value} {i j n off f : Nat}

theorem run_sliceBound {k : IntKind} {m : Int} {c : Nat} {code : BoundsCode} (h0 : 0 ≤ m) (h1 : m.toNat ≤ c) : (Instr.sliceBound (.int k m) c code).run P w = .ok m.toNat w := by
  have : m ≤ (c : Int) := by omega
  simp [Instr.sliceBound, asIntOf, h0, this]

/-- A bound that is a number known, or none. -/
def abound : Option AVal → Option (Option Nat)
  | none => some none
  | some (.lit (.int _ m)) => if 0 ≤ m then some (some m.toNat) else none
  | _ => none

inductive OptR (E : Env) : Option AVal → Option Value → Prop
  | none : OptR E none none
  | some {a : AVal} {x : Value} (h : VR E a x) : OptR E (some a) (some x)

theorem abound_sound {o : Option AVal} {u : Option Value} {r : Option Nat} (h : OptR E o u) (hb : abound o = some r) :
    (r = none ∧ u = none) ∨ ∃ k m, 0 ≤ m ∧ r = some (Int.toNat m) ∧ u = some (.int k m) := by
  cases h with
  | none => simp only [abound, Option.some.injEq] at hb; exact .inl ⟨hb.symm, rfl⟩
  | some h =>
    unfold abound at hb
    split at hb
    · rename_i heq; simp at heq
    · rename_i k m heq
      simp only [Option.some.injEq] at heq; subst heq
      simp only [VR] at h; subst h
      split at hb
      · rename_i h0; simp only [Option.some.injEq] at hb; exact .inr ⟨k, m, h0, hb.symm, rfl⟩
      · simp at hb
    · simp at hb

def capGe (S : St) (m : Nat) (c : Option Nat) (k : Nat) : Bool :=
  match c with
  | none => decide (k ≤ m)
  | some q => match S.caps[q]? with
    | some l => decide (k + m ≤ l)
    | none => false

theorem capGe_sound {m k cap : Nat} {c : Option Nat} (h : Ok K E S X w) (hc : CapR E m c cap) (hg : capGe S m c k = true) : k ≤ cap := by
  cases c with
  | none => simp only [CapR] at hc; simp only [capGe, decide_eq_true_eq] at hg; omega
  | some q =>
    obtain ⟨nn, h1, h2, h3⟩ := hc
    simp only [capGe] at hg
    split at hg
    · rename_i l hl
      simp only [decide_eq_true_eq] at hg
      obtain ⟨n', g1, g2, _⟩ := h.lb q l hl
      rw [h1] at g1; obtain rfl := Option.some.inj g1
      omega
    · cases hg

/-- The bounds of a slice of a slice: the low one, the high one, and the new capacity's own (none: as it was). -/
def abounds (S : St) (len m : Nat) (c : Option Nat) (lo hi mx : Option AVal) : Option (Nat × Nat × Option Nat) :=
  match abound lo, abound hi, abound mx with
  | some lo, some (some u), some (some v) => if capGe S m c v && decide (u ≤ v) && decide (lo.getD 0 ≤ u) then some (lo.getD 0, u, some v) else none
  | some lo, some (some u), some none => if capGe S m c u && decide (lo.getD 0 ≤ u) then some (lo.getD 0, u, none) else none
  | some lo, some none, some none => if decide (lo.getD 0 ≤ len) then some (lo.getD 0, len, none) else none
  | _, _, _ => none

theorem abounds_sound {isSlice : Bool} {len m cap : Nat} {c : Option Nat} {lo hi mx : Option AVal} {lo' hi' mx' : Option Value} {l u : Nat} {q : Option Nat} (h : Ok K E S X w) (hc : CapR E m c cap)
    (h1 : OptR E lo lo') (h2 : OptR E hi hi') (h3 : OptR E mx mx') (hb : abounds S len m c lo hi mx = some (l, u, q)) :
    (Instr.sliceBounds isSlice len cap lo' hi' mx').run P w = .ok (l, u, q.getD cap) w ∧ l ≤ u := by
  unfold abounds at hb
  split at hb
  · rename_i lo2 uu vv e1 e2 e3
    split at hb
    · rename_i hh
      simp only [Bool.and_eq_true, decide_eq_true_eq] at hh
      obtain ⟨⟨g1, g2⟩, g3⟩ := hh
      simp only [Option.some.injEq, Prod.mk.injEq] at hb; obtain ⟨rfl, rfl, rfl⟩ := hb
      have g4 := capGe_sound h hc g1
      rcases abound_sound h2 e2 with ⟨hx, _⟩ | ⟨k2, m2, p2, q2, rfl⟩
      · simp at hx
      rcases abound_sound h3 e3 with ⟨hx, _⟩ | ⟨k3, m3, p3, q3, rfl⟩
      · simp at hx
      simp only [Option.some.injEq] at q2 q3; subst q2; subst q3
      rcases abound_sound h1 e1 with ⟨rfl, rfl⟩ | ⟨k1, m1, p1, rfl, rfl⟩
      · refine ⟨?_, g3⟩
        simp [Instr.sliceBounds, run_sliceBound p3 g4, run_sliceBound p2 g2]
      · refine ⟨?_, g3⟩
        simp only [Option.getD_some] at g3
        simp [Instr.sliceBounds, run_sliceBound p3 g4, run_sliceBound p2 g2, run_sliceBound p1 g3]
    · simp at hb
  · rename_i lo2 uu e1 e2 e3
    split at hb
    · rename_i hh
      simp only [Bool.and_eq_true, decide_eq_true_eq] at hh
      obtain ⟨g1, g3⟩ := hh
      simp only [Option.some.injEq, Prod.mk.injEq] at hb; obtain ⟨rfl, rfl, rfl⟩ := hb
      have g4 := capGe_sound h hc g1
      rcases abound_sound h2 e2 with ⟨hx, _⟩ | ⟨k2, m2, p2, q2, rfl⟩
      · simp at hx
      rcases abound_sound h3 e3 with ⟨_, rfl⟩ | ⟨k3, m3, p3, q3, _⟩
      rotate_left
      · simp at q3
      simp only [Option.some.injEq] at q2; subst q2
      rcases abound_sound h1 e1 with ⟨rfl, rfl⟩ | ⟨k1, m1, p1, rfl, rfl⟩
      · refine ⟨?_, g3⟩
        simp [Instr.sliceBounds, run_sliceBound p2 g4]
      · refine ⟨?_, g3⟩
        simp only [Option.getD_some] at g3
        simp [Instr.sliceBounds, run_sliceBound p2 g4, run_sliceBound p1 g3]
    · simp at hb
  · rename_i lo2 e1 e2 e3
    split at hb
    · rename_i g3
      simp only [decide_eq_true_eq] at g3
      simp only [Option.some.injEq, Prod.mk.injEq] at hb; obtain ⟨rfl, rfl, rfl⟩ := hb
      rcases abound_sound h2 e2 with ⟨_, rfl⟩ | ⟨k2, m2, p2, q2, _⟩
      rotate_left
      · simp at q2
      rcases abound_sound h3 e3 with ⟨_, rfl⟩ | ⟨k3, m3, p3, q3, _⟩
      rotate_left
      · simp at q3
      rcases abound_sound h1 e1 with ⟨rfl, rfl⟩ | ⟨k1, m1, p1, rfl, rfl⟩
      · refine ⟨?_, g3⟩
        simp [Instr.sliceBounds]
      · refine ⟨?_, g3⟩
        simp only [Option.getD_some] at g3
        simp [Instr.sliceBounds, run_sliceBound p1 g3]
    · simp at hb
  · simp at hb

def litOpt : Option AVal → Option (Option Value)
  | none => some none
  | some a => a.toLit.map some

theorem litOpt_sound {o : Option AVal} {u v : Option Value} (h : OptR E o u) (hb : litOpt o = some v) : u = v := by
  cases h with
  | none => simpa [litOpt] using hb
  | some h =>
    simp only [litOpt, Option.map_eq_some_iff] at hb
    obtain ⟨z, hz, rfl⟩ := hb
    rw [toLit_eq hz h]

def aslice (P : Program) (S : St) (t : TypeId) (a : AVal) (lo hi mx : Option AVal) : Option AVal :=
  match a with
  | .slice b off len m c =>
    match P.underlying t with
    | some (.slice e) =>
      match P.info? e, abounds S len m c lo hi mx with
      | some inf, some (l, u, some v) => some (.slice b (if v = l then off else off + l * inf.size) (u - l) (v - l) none)
      | some inf, some (l, u, none) =>
        match c with
        | none => some (.slice b (if m = l then off else off + l * inf.size) (u - l) (m - l) none)
        | some q => if l = 0 then some (.slice b off u m (some q)) else if capGe S m c (l + 1) then some (.slice b (off + l * inf.size) (u - l) (m + l) (some q)) else none
      | _, _ => none
    | _ => none
  | .ptr b off =>
    match P.underlying t with
    | some (.array n e) =>
      match P.info? e, abounds S n n none lo hi mx with
      | some inf, some (l, u, q) => some (.slice b (if q.getD n = l then off else off + l * inf.size) (u - l) (q.getD n - l) none)
      | _, _ => none
    | _ => none
  | .lit v =>
    match litOpt lo, litOpt hi, litOpt mx with
    | some lo, some hi, some mx => (still P (Instr.sliceAt t v lo hi mx)).map .lit
    | _, _, _ => none
  | _ => none

theorem ite_addr (c : Prop) [Decidable c] (d off k : Nat) : (if c then some (⟨d, off, none⟩ : Addr) else some (⟨d, off + k, none⟩ : Addr)) = some ⟨d, if c then off else off + k, none⟩ := by
  split <;> rfl

theorem aslice_sound {lo hi mx : Option AVal} {lo' hi' mx' : Option Value} (h : Ok K E S X w) (ha : VR E a x) (h1 : OptR E lo lo') (h2 : OptR E hi hi') (h3 : OptR E mx mx')
    (hv : aslice P S t a lo hi mx = some v) : ∃ y, (Instr.sliceAt t x lo' hi' mx').run P w = .ok y w ∧ VR E v y := by
  unfold aslice at hv
  split at hv
  · rename_i b off len m c
    simp only [VR] at ha; obtain ⟨d, cap, hd, hcap, rfl⟩ := ha
    split at hv
    · rename_i e hu
      split at hv
      · rename_i inf l u vv hinf hb
        obtain ⟨hr, hle⟩ := abounds_sound (P := P) (isSlice := true) h hcap h1 h2 h3 hb
        simp only [Option.some.injEq] at hv; subst hv
        refine ⟨.slice (some ⟨d, if vv = l then off else off + l * inf.size, none⟩) (u - l) (vv - l), ?_, by simp only [VR]; exact ⟨d, _, hd, rfl, rfl⟩⟩
        simp [Instr.sliceAt, run_underlying' hu, Instr.slice, hr, run_sizeOf' hinf, add_plain, ite_addr]
      · rename_i inf l u hinf hb
        obtain ⟨hr, hle⟩ := abounds_sound (P := P) (isSlice := true) h hcap h1 h2 h3 hb
        split at hv
        · simp only [CapR] at hcap; subst hcap
          simp only [Option.some.injEq] at hv; subst hv
          refine ⟨.slice (some ⟨d, if cap = l then off else off + l * inf.size, none⟩) (u - l) (cap - l), ?_, by simp only [VR]; exact ⟨d, _, hd, rfl, rfl⟩⟩
          simp [Instr.sliceAt, run_underlying' hu, Instr.slice, hr, run_sizeOf' hinf, add_plain, ite_addr]
        · rename_i q
          split at hv
          · rename_i hl0
            subst hl0
            simp only [Option.some.injEq] at hv; subst hv
            refine ⟨.slice (some ⟨d, off, none⟩) u cap, ?_, by simp only [VR]; exact ⟨d, cap, hd, hcap, rfl⟩⟩
            simp [Instr.sliceAt, run_underlying' hu, Instr.slice, hr, run_sizeOf' hinf, add_plain]
          · rename_i hl0
            split at hv
            · rename_i hg
              have hcg := capGe_sound h hcap hg
              simp only [Option.some.injEq] at hv; subst hv
              refine ⟨.slice (some ⟨d, off + l * inf.size, none⟩) (u - l) (cap - l), ?_, ?_⟩
              · have : ¬ cap = l := by omega
                simp [Instr.sliceAt, run_underlying' hu, Instr.slice, hr, run_sizeOf' hinf, add_plain, this]
              · simp only [VR]
                obtain ⟨nn, e1, e2, e3⟩ := hcap
                exact ⟨d, _, hd, ⟨nn, e1, by omega, by omega⟩, rfl⟩
            · simp at hv
      · simp at hv
    · simp at hv
  · rename_i b off
    simp only [VR] at ha; obtain ⟨d, hd, rfl⟩ := ha
    split at hv
    · rename_i nn e hu
      split at hv
      · rename_i inf l u q hinf hb
        obtain ⟨hr, hle⟩ := abounds_sound (P := P) (isSlice := false) (E := E) (c := none) (m := nn) (cap := nn) h (by simp only [CapR]) h1 h2 h3 hb
        simp only [Option.some.injEq] at hv; subst hv
        refine ⟨.slice (some ⟨d, if q.getD nn = l then off else off + l * inf.size, none⟩) (u - l) (q.getD nn - l), ?_, by simp only [VR]; exact ⟨d, _, hd, rfl, rfl⟩⟩
        simp [Instr.sliceAt, run_underlying' hu, Instr.sureAddr, hr, run_sizeOf' hinf, add_plain]
        split <;> simp_all
      · simp at hv
    · simp at hv
  · simp only [VR] at ha; subst ha
    split at hv
    · rename_i e1 e2 e3
      have := litOpt_sound h1 e1; subst this
      have := litOpt_sound h2 e2; subst this
      have := litOpt_sound h3 e3; subst this
      simp only [Option.map_eq_some_iff] at hv
      obtain ⟨z, hz, rfl⟩ := hv
      exact ⟨z, still_run hz w, by simp only [VR]⟩
    · simp at hv
  · simp at hv

/-- A builtin that changes nothing. -/
def abuiltin (P : Program) (S : St) (bi : Builtin) (ats : Array TypeId) (type : TypeId) (consts : Array Bool) (vs : List AVal) : Option AVal :=
  match toLits vs with
  | some us => match still P (builtin bi ats type consts us.toArray) with
    | some (.value v) => some (.lit v)
    | _ => none
  | none =>
    match bi, vs, ats.toList with
    | .len, [.slice _ _ len _ _], [t] => match P.underlying t with
      | some (.slice _) => some (.lit (goInt len))
      | _ => none
    | .len, [.map b], [t] => match P.underlying t, S.heap[b]? with
      | some (.map _ _), some (.map es _) => some (.lit (goInt es.length))
      | _, _ => none
    | .cap, [.slice _ _ _ m none], [t] => match P.underlying t with
      | some (.slice _) => some (.lit (goInt m))
      | _ => none
    | _, _, _ => none

theorem VRs.one (h : VRs E [a] xs) : ∃ x, xs = [x] ∧ VR E a x := by
  simp only [VRs] at h; obtain ⟨x, r, h1, rfl, rfl⟩ := h; exact ⟨x, rfl, h1⟩

theorem abuiltin_sound {bi : Builtin} {ats : Array TypeId} {type : TypeId} {consts : Array Bool} {vs : List AVal} (h : Ok K E S X w) (hs : VRs E vs xs)
    (hv : abuiltin P S bi ats type consts vs = some v) : ∃ y, (builtin bi ats type consts xs.toArray).run P w = .ok (.value y) w ∧ VR E v y := by
  unfold abuiltin at hv
  split at hv
  · rename_i us hus
    have := toLits_eq hus hs; subst this
    split at hv
    · rename_i z hz
      simp only [Option.some.injEq] at hv; subst hv
      exact ⟨z, still_run hz w, by simp only [VR]⟩
    · simp at hv
  · split at hv
    · rename_i bb oo len mm cc t hats _
      have hats : ats = #[t] := by rw [← hats]
      subst hats
      obtain ⟨x, rfl, hx⟩ := hs.one
      simp only [VR] at hx; obtain ⟨d, k, hd, _, rfl⟩ := hx
      split at hv
      · rename_i e hu
        simp only [Option.some.injEq] at hv; subst hv
        exact ⟨goInt len, by simp [builtin, Builtin.len_, run_underlying' hu], by simp only [VR]⟩
      · simp at hv
    · rename_i bb t hats _
      have hats : ats = #[t] := by rw [← hats]
      subst hats
      obtain ⟨x, rfl, hx⟩ := hs.one
      simp only [VR] at hx; obtain ⟨d, hd, rfl⟩ := hx
      split at hv
      · rename_i e1 e2 es clock hu ho
        simp only [Option.some.injEq] at hv; subst hv
        obtain ⟨c', o, g1, _, g3, g4⟩ := h.obj _ _ ho
        rw [hd] at g1; obtain rfl := Option.some.inj g1
        obtain ⟨ms, hes, rfl⟩ := g4
        refine ⟨goInt es.length, ?_, by simp only [VR]⟩
        simp [builtin, Builtin.len_, run_underlying' hu, run_getObj_map g3, hes.length]
      · simp at hv
    · rename_i bb oo len mm t hats _
      have hats : ats = #[t] := by rw [← hats]
      subst hats
      obtain ⟨x, rfl, hx⟩ := hs.one
      simp only [VR] at hx; obtain ⟨d, k, hd, hk, rfl⟩ := hx
      simp only [CapR] at hk; subst hk
      split at hv
      · rename_i e hu
        simp only [Option.some.injEq] at hv; subst hv
        exact ⟨goInt k, by simp [builtin, Builtin.cap_, run_underlying' hu], by simp only [VR]⟩
      · simp at hv
    · simp at hv

def constArg : Operand → Bool
  | .const _ => true
  | _ => false

def aopt (A : Operand → Option AVal) : Option Operand → Option (Option AVal)
  | none => some none
  | some o => (A o).map some

theorem aopt_sound {A : Operand → Option AVal} {ρ : Operand → Value} {o : Option Operand} {u : Option AVal} (h : EvR E A ρ) (ho : aopt A o = some u) : OptR E u (o.map ρ) := by
  cases o with
  | none => simp only [aopt, Option.some.injEq] at ho; subst ho; exact .none
  | some o =>
    simp only [aopt, Option.map_eq_some_iff] at ho
    obtain ⟨z, hz, rfl⟩ := ho
    exact .some (h _ _ hz)

/-- What an operation that changes nothing gives. -/
def byteLits : List AVal → Option (List Int)
  | [] => some []
  | .lit (.int .u8 n) :: l => (byteLits l).map (n :: ·)
  | _ => none

theorem byteLits_sound : ∀ {l : List AVal} {ns : List Int} {xs : List Value}, byteLits l = some ns → VRs E l xs → xs = ns.map (Value.int .u8)
  | [], ns, xs, hv, h => by
    simp only [byteLits, Option.some.injEq] at hv; subst hv
    simp only [VRs] at h; subst h; rfl
  | a :: l, ns, xs, hv, h => by
    simp only [VRs] at h
    obtain ⟨x, r, h1, h2, rfl⟩ := h
    unfold byteLits at hv
    split at hv
    · rename_i heq; cases heq
    · rename_i n l' heq
      simp only [List.cons.injEq] at heq
      obtain ⟨rfl, rfl⟩ := heq
      simp only [Option.map_eq_some_iff] at hv
      obtain ⟨ms, hm, rfl⟩ := hv
      simp only [VR] at h1
      rw [byteLits_sound hm h2, h1]; rfl
    · simp at hv

/-- A conversion: of what names no block, or of bytes to a string. -/
def aconvert (P : Program) (S : St) (s d : TypeId) (a : AVal) : Option AVal :=
  match a with
  | .slice b off len _ _ =>
    match P.underlying s, P.underlying d with
    | some (.slice e), some .string =>
      match P.underlying e with
      | some (.int .u8) => do
        let l ← cellsOf (← S.heap[b]?)
        let r ← sub l off len
        let ns ← byteLits r
        return .lit (.string (strOfNums ns))
      | _ => none
    | _, _ => none
  | a => lits1 P a (convert s d)

theorem aconvert_sound {d : TypeId} (h : Ok K E S X w) (ha : VR E a x) (hv : aconvert P S s d a = some v) : ∃ y, (convert s d x).run P w = .ok y w ∧ VR E v y := by
  unfold aconvert at hv
  split at hv
  · rename_i b off len m q
    split at hv
    · rename_i e hs hd
      split at hv
      · rename_i he
        simp only [Option.bind_eq_bind, Option.bind_eq_some_iff] at hv
        obtain ⟨o, ho, l, hl, r, hr, ns, hn, hv⟩ := hv
        simp only [Option.pure_def, Option.some.injEq] at hv; subst hv
        simp only [VR] at ha; obtain ⟨c, k, hc, _, rfl⟩ := ha
        obtain ⟨xs, hx, hcell⟩ := h.cells hc ho hl
        obtain ⟨r1, r2⟩ := sub_rel hx hr
        have hns := byteLits_sound hn r1
        have hlen : ns.length = len := by
          have := congrArg List.length hns
          simp at this; omega
        refine ⟨_, run_convert_bytes_arg w s e hs he c off len k ns hlen (fun i hi => ?_) d hd, by simp only [VR]⟩
        rw [hcell _ (by omega)]
        have h1 : ((xs.drop off).take len)[i]? = (ns.map (Value.int .u8))[i]? := by rw [hns]
        rw [List.getElem?_take_of_lt hi, List.getElem?_drop] at h1
        rw [h1, List.getElem?_map]
        have : i < ns.length := by omega
        simp [List.getD, List.getElem?_eq_getElem this]
      · simp at hv
    · simp at hv
  · exact lits1_sound ha hv

/-- A length is asked of a slice. -/
def lenOk (P : Program) (b : Builtin) (ats : Array TypeId) : Bool :=
  match b with
  | .len => match ats.toList with
    | [t] => match P.underlying t with
      | some (.slice _) => true
      | _ => false
    | _ => false
  | _ => true

theorem lenOk_sound {b : Builtin} {ats : Array TypeId} (h : lenOk P b ats = true) : b = .len → ∃ t e, ats = #[t] ∧ P.underlying t = some (.slice e) := by
  rintro rfl
  unfold lenOk at h
  simp only at h
  split at h
  · rename_i t ht
    split at h
    · rename_i e hu
      exact ⟨t, e, by rw [← ht], hu⟩
    · cases h
  · cases h

def aread0 (P : Program) (K : Glb) (S : St) (A : Operand → Option AVal) (o : Oper) : Option AVal :=
  match o.op with
  | .move x => A x
  | .assign x => A x
  | .pick c p q => match (A c).map (norm S.x.conds) with
    | some (.lit (.bool true)) => A p
    | some (.lit (.bool false)) => A q
    | _ => none
  | .build t parts => (aparts A parts.toList).bind (abuild P t)
  | .load t x => (A x).bind fun a => match aload P K S t a with
    | some v => some v
    | none => aloadS P K S t a
  | .nilCheck x => (A x).bind anil
  | .binOp op t x y _ => match A x, A y with
    | some p, some q => abin P S.x.conds op t x y p q
    | _, _ => none
  | .unOp op _ x => (A x).bind fun a => match lits1 P a (Op.unary op) with
    | some v => some v
    | none => aunS S.x.conds op a
  | .convert s d x => (A x).bind fun a => match aconvert P S s d a with
    | some v => some v
    | none => aconvS P s d a
  | .makeInterface t x => (A x).bind (aiface P t)
  | .makeFunc fn p q => match aargs A p.toList, aargs A q.toList with
    | some p, some q => some (.func fn p q)
    | _, _ => none
  | .slice t x lo hi mx => match A x, aopt A lo, aopt A hi, aopt A mx with
    | some a, some lo, some hi, some mx => aslice P S t a lo hi mx
    | _, _, _, _ => none
  | .fieldAddr s x f => (A x).bind fun a => match afieldAt P s a f with
    | some v => some v
    | none => afieldAtS P s a f
  | .field t x f => (A x).bind fun a => afield P t a f
  | .indexAddr t x i => match A x, A i with
    | some p, some q => match aindexAt P t p q with
      | some v => some v
      | none => aindexAtS P K S t p q
    | _, _ => none
  | .index t x i => match A x, A i with
    | some p, some q => aindex P t p q
    | _, _ => none
  | .lookup t x i ok => match A x, A i with
    | some p, some q => match alookup P S t p q ok with
      | some v => some v
      | none => alookupS P K S t p q ok
    | _, _ => none
  | .typeAssert x xt t ok => (A x).bind fun a => aassert P a xt t ok
  | .extract x i => (A x).bind fun a => aextract P a i
  | .call { callee := .builtin b, args, argTypes } => (aargs A args.toList).bind fun vs => match abuiltin P S b argTypes o.type (args.map constArg) vs with
    | some v => some v
    | none => match (if lenOk P b argTypes = true then abuiltinS S K.nils b vs else none) with
      | some v => some v
      | none => alenS P K S b argTypes vs
  | _ => none

theorem aread0_sound {A : Operand → Option AVal} {ρ : Operand → Value} {o : Oper} (h : Ok K E S X w) (hA : EvR E A ρ) (hv : aread0 P K S A o = some v) :
    ∃ y, (execOp ρ o).run P w = .ok (.value y) w ∧ VR E v y := by
  obtain ⟨dst, op, type, pos, after, guard⟩ := o
  unfold aread0 at hv
  simp only at hv
  split at hv
  · exact ⟨_, by simp [execOp], hA _ _ hv⟩
  · exact ⟨_, by simp [execOp], hA _ _ hv⟩
  · rename_i c p q
    split at hv
    · rename_i hc
      simp only [Option.map_eq_some_iff] at hc
      obtain ⟨u, hc, hn⟩ := hc
      have := norm_sound h.x.conds (hA _ _ hc); rw [hn] at this; simp only [VR] at this
      exact ⟨_, by simp [execOp, this, asBool], hA _ _ hv⟩
    · rename_i hc
      simp only [Option.map_eq_some_iff] at hc
      obtain ⟨u, hc, hn⟩ := hc
      have := norm_sound h.x.conds (hA _ _ hc); rw [hn] at this; simp only [VR] at this
      exact ⟨_, by simp [execOp, this, asBool], hA _ _ hv⟩
    · simp at hv
  · rename_i t parts
    simp only [Option.bind_eq_some_iff] at hv
    obtain ⟨ps, hps, hv⟩ := hv
    obtain ⟨y, h1, h2⟩ := abuild_sound (w := w) (aparts_sound hA hps) hv
    refine ⟨y, ?_, h2⟩
    have e : (parts.map fun x => match x with | (i, x) => (i, ρ x)) = (parts.toList.map fun p => (p.1, ρ p.2)).toArray := by simp [← Array.toList_map]
    simp [execOp, e, h1]
  · simp only [Option.bind_eq_some_iff] at hv
    obtain ⟨p, hp, hv⟩ := hv
    split at hv
    · rename_i v' hv'
      obtain rfl := Option.some.inj hv
      obtain ⟨y, h1, h2⟩ := aload_sound h (hA _ _ hp) hv'
      exact ⟨y, by simp [execOp, h1], h2⟩
    · obtain ⟨y, h1, h2⟩ := aloadS_sound h.x (hA _ _ hp) hv
      exact ⟨y, by simp [execOp, h1], h2⟩
  · rename_i x
    simp only [Option.bind_eq_some_iff] at hv
    obtain ⟨p, hp, hv⟩ := hv
    have hr := hA _ _ hp
    generalize hx : ρ x = z at hr
    unfold anil at hv
    split at hv <;> (try simp only [Option.some.injEq] at hv) <;> (try subst hv)
    · refine ⟨z, ?_, hr⟩
      simp only [VR] at hr; obtain ⟨c, _, rfl⟩ := hr; simp [execOp, hx]
    · refine ⟨z, ?_, hr⟩
      simp only [VR] at hr; obtain ⟨c, _, rfl⟩ := hr; simp [execOp, hx]
    · refine ⟨z, ?_, hr⟩
      simp only [VR] at hr; obtain ⟨c, _, rfl⟩ := hr; simp [execOp, hx]
    · refine ⟨z, ?_, hr⟩
      simp only [VR] at hr; obtain ⟨c, k, _, _, rfl⟩ := hr; simp [execOp, hx]
    · refine ⟨z, ?_, hr⟩
      simp only [VR] at hr; obtain ⟨c, k, _, _, rfl⟩ := hr; simp [execOp, hx]
    · refine ⟨z, ?_, hr⟩
      simp only [VR] at hr; subst hr; simp [execOp, hx]
    · refine ⟨z, ?_, hr⟩
      simp only [VR] at hr; subst hr; simp [execOp, hx]
    · refine ⟨z, ?_, hr⟩
      simp only [VR] at hr; obtain ⟨c, _, rfl⟩ := hr; simp [execOp, hx]
    · simp at hv
  · split at hv
    · rename_i p q hp hq
      obtain ⟨y, h1, h2⟩ := abin_sound (w := w) h.x.conds (hA _ _ hp) (hA _ _ hq) hv
      refine ⟨y, ?_, h2⟩
      simp only [execOp]
      rw [Sem.run_bind, h1]; rfl
    · simp at hv
  · simp only [Option.bind_eq_some_iff] at hv
    obtain ⟨p, hp, hv⟩ := hv
    split at hv
    · rename_i v' hv'
      obtain rfl := Option.some.inj hv
      obtain ⟨y, h1, h2⟩ := lits1_sound (w := w) (hA _ _ hp) hv'
      exact ⟨y, by simp [execOp, h1], h2⟩
    · obtain ⟨y, h1, h2⟩ := aunS_sound (P := P) (w := w) h.x.conds (hA _ _ hp) hv
      exact ⟨y, by simp [execOp, h1], h2⟩
  · simp only [Option.bind_eq_some_iff] at hv
    obtain ⟨p, hp, hv⟩ := hv
    split at hv
    · rename_i v' hv'
      obtain rfl := Option.some.inj hv
      obtain ⟨y, h1, h2⟩ := aconvert_sound h (hA _ _ hp) hv'
      exact ⟨y, by simp [execOp, h1], h2⟩
    · obtain ⟨y, h1, h2⟩ := aconvS_sound (P := P) (w := w) (hA _ _ hp) hv
      exact ⟨y, by simp [execOp, h1], h2⟩
  · simp only [Option.bind_eq_some_iff] at hv
    obtain ⟨p, hp, hv⟩ := hv
    obtain ⟨y, h1, h2⟩ := aiface_sound (w := w) (hA _ _ hp) hv
    exact ⟨y, by simp [execOp, h1], h2⟩
  · rename_i fn p q
    split at hv
    · rename_i us vs hp hq
      simp only [Option.some.injEq] at hv; subst hv
      refine ⟨.func fn (p.map ρ) (q.map ρ), by simp [execOp, Instr.makeFunc], ?_⟩
      simp only [VR]
      exact ⟨_, _, aargs_sound hA hp, aargs_sound hA hq, by simp [← Array.toList_map]⟩
    · simp at hv
  · split at hv
    · rename_i a lo hi mx h0 h1 h2 h3
      obtain ⟨y, g1, g2⟩ := aslice_sound h (hA _ _ h0) (aopt_sound hA h1) (aopt_sound hA h2) (aopt_sound hA h3) hv
      exact ⟨y, by simp [execOp, g1], g2⟩
    · simp at hv
  · simp only [Option.bind_eq_some_iff] at hv
    obtain ⟨p, hp, hv⟩ := hv
    split at hv
    · rename_i v' hv'
      obtain rfl := Option.some.inj hv
      obtain ⟨y, h1, h2⟩ := afieldAt_sound (w := w) (hA _ _ hp) hv'
      exact ⟨y, by simp [execOp, h1], h2⟩
    · obtain ⟨y, h1, h2⟩ := afieldAtS_sound (P := P) (w := w) (hA _ _ hp) hv
      exact ⟨y, by simp [execOp, h1], h2⟩
  · simp only [Option.bind_eq_some_iff] at hv
    obtain ⟨p, hp, hv⟩ := hv
    obtain ⟨y, h1, h2⟩ := afield_sound (w := w) (hA _ _ hp) hv
    exact ⟨y, by simp [execOp, h1], h2⟩
  · split at hv
    · rename_i p q hp hq
      split at hv
      · rename_i v' hv'
        obtain rfl := Option.some.inj hv
        obtain ⟨y, h1, h2⟩ := aindexAt_sound (w := w) (hA _ _ hp) (hA _ _ hq) hv'
        exact ⟨y, by simp [execOp, h1], h2⟩
      · obtain ⟨y, h1, h2⟩ := aindexAtS_sound h.x (hA _ _ hp) (hA _ _ hq) hv
        exact ⟨y, by simp [execOp, h1], h2⟩
    · simp at hv
  · split at hv
    · rename_i p q hp hq
      obtain ⟨y, h1, h2⟩ := aindex_sound (w := w) (hA _ _ hp) (hA _ _ hq) hv
      exact ⟨y, by simp [execOp, h1], h2⟩
    · simp at hv
  · split at hv
    · rename_i p q hp hq
      split at hv
      · rename_i v' hv'
        obtain rfl := Option.some.inj hv
        obtain ⟨y, h1, h2⟩ := alookup_sound h (hA _ _ hp) (hA _ _ hq) hv'
        exact ⟨y, by simp [execOp, h1], h2⟩
      · obtain ⟨y, h1, h2⟩ := alookupS_sound h.x (hA _ _ hp) (hA _ _ hq) hv
        exact ⟨y, by simp [execOp, h1], h2⟩
    · simp at hv
  · simp only [Option.bind_eq_some_iff] at hv
    obtain ⟨p, hp, hv⟩ := hv
    obtain ⟨y, h1, h2⟩ := aassert_sound (w := w) (hA _ _ hp) hv
    exact ⟨y, by simp [execOp, h1], h2⟩
  · simp only [Option.bind_eq_some_iff] at hv
    obtain ⟨p, hp, hv⟩ := hv
    obtain ⟨y, h1, h2⟩ := aextract_sound (w := w) (hA _ _ hp) hv
    exact ⟨y, by simp [execOp, h1], h2⟩
  · rename_i bi args ats
    simp only [Option.bind_eq_some_iff] at hv
    obtain ⟨vs, hvs, hv⟩ := hv
    have hb : ∃ y, (builtin bi ats type (args.map constArg) (args.toList.map ρ).toArray).run P w = .ok (.value y) w ∧ VR E v y := by
      split at hv
      · rename_i v' hv'
        obtain rfl := Option.some.inj hv
        exact abuiltin_sound h (aargs_sound hA hvs) hv'
      · split at hv
        · rename_i v' hv'
          obtain rfl := Option.some.inj hv
          split at hv'
          · rename_i hl
            exact abuiltinS_sound h.x (aargs_sound hA hvs) (lenOk_sound hl) hv'
          · cases hv'
        · exact alenS_sound h.x (aargs_sound hA hvs) hv
    obtain ⟨y, h1, h2⟩ := hb
    refine ⟨y, ?_, h2⟩
    have e : (args.toList.map ρ).toArray = args.map ρ := by simp [← Array.toList_map]
    rw [e] at h1
    simp [execOp, resolve, invoke]
    exact h1
  · simp at hv

def aread (P : Program) (K : Glb) (S : St) (A : Operand → Option AVal) (o : Oper) : Option AVal := (aread0 P K S A o).map (norm S.x.conds)

theorem aread_sound {A : Operand → Option AVal} {ρ : Operand → Value} {o : Oper} (h : Ok K E S X w) (hA : EvR E A ρ) (hv : aread P K S A o = some v) :
    ∃ y, (execOp ρ o).run P w = .ok (.value y) w ∧ VR E v y := by
  simp only [aread, Option.map_eq_some_iff] at hv
  obtain ⟨u, hu, rfl⟩ := hv
  obtain ⟨y, h1, h2⟩ := aread0_sound h hA hu
  exact ⟨y, h1, norm_sound h.x.conds h2⟩

end Go.Eng

namespace Go.Eng
open Go.RowKit

variable {P : Program} {K : Fix} {E F : Env} {S S' : St} {X : List (List Value)} {w w' : World} {a b v : AVal} {x y : Value} {t s : TypeId} {l r : List AVal} {xs : List Value} {i j n off f : Nat}

/-! ### What turns the memory -/

theorem Ok.alloc {o : AObj} {u : Obj} (h : Ok K E S X w) (ho : OR E o u) :
    ∃ E', E.Le E' ∧ E'.rho S.heap.length = some w.heap.size ∧ Ok K E' { S with heap := S.heap ++ [o] } X { w with heap := w.heap.push u } := by
  have hfr := h.x.fresh (Nat.le_refl w.heap.size)
  have hnone : E.rho S.heap.length = none := by
    cases hr : E.rho S.heap.length with
    | none => rfl
    | some c => have := h.dom S.heap.length (by simp [hr]); omega
  have hle : E.Le { E with rho := fun b => if b = S.heap.length then some w.heap.size else E.rho b } := by
    refine ⟨fun b c hb => ?_, fun _ _ hk => hk, fun _ _ hk => hk, rfl⟩
    have : b ≠ S.heap.length := by rintro rfl; rw [hnone] at hb; cases hb
    simpa [this] using hb
  refine ⟨_, hle, by simp, ?_⟩
  constructor
  · intro b hb
    simp only [List.length_append, List.length_singleton]
    simp only at hb
    split at hb
    · omega
    · have := h.dom b hb; omega
  · intro b o' hb
    by_cases hbl : b = S.heap.length
    · subst hbl
      simp at hb; subst hb
      exact ⟨w.heap.size, u, by simp, h.base, by simp, OR.mono hle _ _ ho⟩
    · have hb' : S.heap[b]? = some o' := by
        rw [List.getElem?_append] at hb
        split at hb
        · exact hb
        · rename_i hlt
          have : b - S.heap.length = (b - S.heap.length - 1) + 1 := by omega
          rw [this] at hb; simp at hb
      obtain ⟨c, x, h1, h2, h3, h4⟩ := h.obj b o' hb'
      refine ⟨c, x, by simp [hbl, h1], h2, ?_, OR.mono hle _ _ h4⟩
      have := (Array.getElem?_eq_some_iff.1 h3).1
      simp only [Array.getElem?_push]
      rw [if_neg (by omega)]; exact h3
  · intro b b' c hb hb'
    simp only at hb hb'
    split at hb
    · rename_i e1
      simp only [Option.some.injEq] at hb; subst hb
      split at hb'
      · rename_i e2; rw [e1, e2]
      · have := h.lt hb'; omega
    · split at hb'
      · simp only [Option.some.injEq] at hb'; subst hb'
        have := h.lt hb; omega
      · exact h.inj b b' c hb hb'
  · exact h.kdom
  · exact h.lb
  · exact ⟨h.below.os, h.below.tape, h.below.output, by have := h.below.size; simp; omega, fun k hk => by
      have hb := h.base
      simp only [Array.getElem?_push]
      rw [if_neg (by omega)]; exact h.below.block k hk⟩
  · have := h.base; simp; omega
  · exact SR.mono hle _ _ h.stk
  · refine h.x.move rfl rfl rfl rfl (fun b c hb => ?_) (by simp) fun c hc _ => ?_
    · simp only at hb
      split at hb
      · obtain rfl := Option.some.inj hb
        exact .inr hfr
      · exact .inl ⟨b, hb⟩
    · simp only [Array.getElem?_push]
      rw [if_neg (by omega)]

theorem Ok.put {b c : Nat} {o : AObj} {u : Obj} (h : Ok K E S X w) (hb : E.rho b = some c) (ho : OR E o u) :
    Ok K E { S with heap := S.heap.set b o } X { w with heap := w.heap.setIfInBounds c u } := by
  have hlt := h.dom b (by simp [hb])
  obtain ⟨c', x, h1, h2, h3, h4⟩ := h.obj b S.heap[b] (by simp [hlt])
  rw [hb] at h1; obtain rfl := Option.some.inj h1
  have hcl := h.lt hb
  constructor
  · intro b' hb'; simp only [List.length_set]; exact h.dom b' hb'
  · intro b' o' hb'
    by_cases e : b = b'
    · subst e
      simp [hlt] at hb'; subst hb'
      exact ⟨c, u, hb, h2, by simp [hcl], ho⟩
    · simp only at hb'
      rw [List.getElem?_set_ne e] at hb'
      obtain ⟨d, z, g1, g2, g3, g4⟩ := h.obj b' o' hb'
      refine ⟨d, z, g1, g2, ?_, g4⟩
      have : c ≠ d := by rintro rfl; exact e (h.inj _ _ _ hb g1)
      simp only [Array.getElem?_setIfInBounds]
      rw [if_neg this]; exact g3
  · exact h.inj
  · exact h.kdom
  · exact h.lb
  · exact ⟨h.below.os, h.below.tape, h.below.output, by have := h.below.size; simpa using this, fun k hk => by
      simp only [Array.getElem?_setIfInBounds]
      rw [if_neg (by omega)]; exact h.below.block k hk⟩
  · simpa using h.base
  · exact h.stk
  · refine h.x.move rfl rfl rfl rfl (fun b c hb => .inl ⟨b, hb⟩) (by simp) fun d hd hn => ?_
    have : c ≠ d := by rintro rfl; exact hn b hb
    simp only [Array.getElem?_setIfInBounds]
    rw [if_neg this]

/-- A draw turns nothing. -/
theorem Ok.drawn (h : Ok K E S X w) (d : Nat) : Ok K E S X { w with drawn := d } :=
  ⟨h.dom, h.obj, h.inj, h.kdom, h.lb, ⟨h.below.os, h.below.tape, h.below.output, h.below.size, h.below.block⟩, h.base, h.stk, h.x.move rfl rfl rfl rfl (fun b _ hb => .inl ⟨b, hb⟩) (Nat.le_refl _) fun _ _ _ => rfl⟩

/-- A capacity of its own. -/
theorem Ok.newcap' {m k : Nat} (h : Ok K E S X w) (hm : m ≤ k) (hk : k ≤ 9223372036854775807) :
    ∃ E', E.Le E' ∧ E'.kap S.caps.length = some k ∧ (∀ b, E'.rho b = E.rho b) ∧ (E'.fp = E.fp ∧ E'.pp = E.pp) ∧ Ok K E' { S with caps := S.caps ++ [m] } X w := by
  have hnone : E.kap S.caps.length = none := by
    cases hr : E.kap S.caps.length with
    | none => rfl
    | some c => have := h.kdom S.caps.length (by simp [hr]); omega
  have hle : E.Le { E with kap := fun q => if q = S.caps.length then some k else E.kap q } := by
    refine ⟨fun _ _ hk => hk, fun b c hb => ?_, fun _ _ hk => hk, rfl⟩
    have : b ≠ S.caps.length := by rintro rfl; rw [hnone] at hb; cases hb
    simpa [this] using hb
  refine ⟨_, hle, by simp, fun _ => rfl, ⟨rfl, rfl⟩, ?_⟩
  constructor
  · exact h.dom
  · intro b o hb
    obtain ⟨c, x, h1, h2, h3, h4⟩ := h.obj b o hb
    exact ⟨c, x, h1, h2, h3, OR.mono hle _ _ h4⟩
  · exact h.inj
  · intro q hq
    simp only [List.length_append, List.length_singleton]
    simp only at hq
    split at hq
    · omega
    · have := h.kdom q hq; omega
  · intro q l hq
    by_cases e : q = S.caps.length
    · subst e
      simp at hq; subst hq
      exact ⟨k, by simp, hm, hk⟩
    · have hq' : S.caps[q]? = some l := by
        simp only at hq
        rw [List.getElem?_append] at hq
        split at hq
        · exact hq
        · have : q - S.caps.length = (q - S.caps.length - 1) + 1 := by omega
          rw [this] at hq; simp at hq
      obtain ⟨n, g1, g2⟩ := h.lb q l hq'
      exact ⟨n, by simpa [e] using g1, g2⟩
  · exact h.below
  · exact h.base
  · exact SR.mono hle _ _ h.stk
  · exact h.x.move rfl rfl rfl rfl (fun b _ hb => .inl ⟨b, hb⟩) (Nat.le_refl _) fun _ _ _ => rfl

theorem Ok.newcap {m k : Nat} (h : Ok K E S X w) (hm : m ≤ k) (hk : k ≤ 9223372036854775807) :
    ∃ E', E.Le E' ∧ E'.kap S.caps.length = some k ∧ (∀ b, E'.rho b = E.rho b) ∧ Ok K E' { S with caps := S.caps ++ [m] } X w := by
  obtain ⟨E', h1, h2, h3, _, h4⟩ := h.newcap' hm hk
  exact ⟨E', h1, h2, h3, h4⟩

/-- More is known of a capacity. -/
theorem Ok.raise {q m k : Nat} (h : Ok K E S X w) (hq : E.kap q = some k) (hm : m ≤ k) : Ok K E { S with caps := S.caps.set q m } X w := by
  refine ⟨h.dom, h.obj, h.inj, fun q' hq' => by simpa using h.kdom q' hq', fun q' l hl => ?_, h.below, h.base, h.stk, h.x⟩
  simp only at hl
  by_cases e : q = q'
  · subst e
    have := h.kdom q (by simp [hq])
    simp [this] at hl; subst hl
    obtain ⟨n, g1, _, g3⟩ := h.lb q S.caps[q] (by simp [this])
    rw [hq] at g1; obtain rfl := Option.some.inj g1
    exact ⟨k, hq, hm, g3⟩
  · rw [List.getElem?_set_ne e] at hl
    exact h.lb q' l hl

theorem setCell_cells {c i : Nat} {cs : Array Value} {e : TypeId} {fz : Nat × Nat} (h : w.heap[c]? = some (.cells cs e fz)) (x : Value) :
    w.setCell ⟨c, i, none⟩ x = { w with heap := w.heap.setIfInBounds c (.cells (cs.setIfInBounds i x) e fz) } := by
  have hlt := (Array.getElem?_eq_some_iff.1 h).1
  have hge := (Array.getElem?_eq_some_iff.1 h).2
  unfold World.setCell
  congr 1
  apply Array.ext_getElem?
  intro k
  rw [Array.getElem?_modify, Array.getElem?_setIfInBounds]
  by_cases e : c = k
  · subst e; simp [hlt, hge]
  · simp [e]

def AVal.one : AVal → Bool
  | .top => false
  | .lit v => v.oneCell'
  | .agg _ => false
  | .tuple _ => false
  | _ => true

theorem VR.one (h : VR E a x) (ho : a.one = true) : x.oneCell' = true := by
  cases a <;> simp only [AVal.one] at ho <;> simp only [VR] at h
  · cases ho
  · exact h.one
  · subst h; exact ho
  · obtain ⟨c, _, rfl⟩ := h; rfl
  · obtain ⟨c, k, _, _, rfl⟩ := h; rfl
  · obtain ⟨c, _, rfl⟩ := h; rfl
  · obtain ⟨c, k, _, _, rfl⟩ := h; rfl
  · obtain ⟨c, _, rfl⟩ := h; rfl
  · cases ho
  · cases ho

/-- One cell is stored. -/
def astore1 (S : St) (b off : Nat) (v : AVal) : Option St :=
  match S.heap[b]? with
  | some (.cells l e fz op) =>
    if off < l.length ∧ v.one = true ∧ (fz.1 ≤ off && off < fz.2) = false then some { S with heap := S.heap.set b (.cells (l.set off v) e fz op) } else none
  | _ => none

theorem astore1_sound {b c off : Nat} {m : Mode} (h : Ok K E S X w) (hb : E.rho b = some c) (hx : VR E v x) (hs : astore1 S b off v = some S') :
    ∃ w', (store ⟨c, off, none⟩ x m).run P w = .ok () w' ∧ Ok K E S' X w' := by
  unfold astore1 at hs
  split at hs
  · rename_i l e fz op ho
    split at hs
    · rename_i hh
      obtain ⟨g1, g2, g3⟩ := hh
      simp only [Option.some.injEq] at hs; subst hs
      obtain ⟨c', u, h1, h2, h3, h4⟩ := h.obj b _ ho
      rw [hb] at h1; obtain rfl := Option.some.inj h1
      have hone := hx.one g2
      match op, h4 with
      | none, h4 =>
        obtain ⟨xs, r, rfl⟩ := h4
        have hlen := r.length
        refine ⟨_, ?_, h.put (o := .cells (l.set off v) e fz none) (u := .cells (xs.set off x).toArray e fz) hb ⟨_, r.set hx, rfl⟩⟩
        have hc : w.cell? ⟨c, off, none⟩ = some xs[off] := by simp [World.cell?, h3]
        have hf : w.frozen? ⟨c, off, none⟩ = false := by simp only [World.frozen?, h3]; exact g3
        rw [run_store _ _ _ _ _ hone, hc]
        simp only [hf, setCell_cells h3]
        simp
      | some (q, sz), h4 =>
        obtain ⟨xs, tl, nn, r, k1, k2, rfl⟩ := h4
        have hlen := r.length
        refine ⟨_, ?_, h.put (o := .cells (l.set off v) e fz (some (q, sz))) (u := .cells (xs.set off x ++ tl).toArray e fz) hb ⟨_, tl, nn, r.set hx, k1, by simpa using k2, rfl⟩⟩
        have hlt : off < xs.length := by omega
        have hc : w.cell? ⟨c, off, none⟩ = some xs[off] := by simp [World.cell?, h3, List.getElem?_append_left hlt]
        have hf : w.frozen? ⟨c, off, none⟩ = false := by simp only [World.frozen?, h3]; exact g3
        rw [run_store _ _ _ _ _ hone, hc]
        simp only [hf, setCell_cells h3]
        simp [hlt]
    · simp at hs
  · simp at hs

def astores (S : St) (b off : Nat) : List AVal → Option St
  | [] => some S
  | v :: vs => (astore1 S b off v).bind fun S => astores S b (off + 1) vs

theorem astores_sound {b c : Nat} : ∀ {vs : List AVal} {xs : List Value} {off i : Nat} {S S' : St} {w : World}, Ok K E S X w → E.rho b = some c → VRs E vs xs → astores S b (off + i) vs = some S' →
    ∃ w', (storeCells ⟨c, off, none⟩ xs i).run P w = .ok () w' ∧ Ok K E S' X w'
  | [], xs, off, i, S, S', w, h, hb, hx, hs => by
    simp only [VRs] at hx; subst hx
    simp only [astores, Option.some.injEq] at hs; subst hs
    exact ⟨w, rfl, h⟩
  | v :: vs, xs, off, i, S, S', w, h, hb, hx, hs => by
    simp only [VRs] at hx; obtain ⟨x, r, h1, h2, rfl⟩ := hx
    simp only [astores, Option.bind_eq_some_iff] at hs
    obtain ⟨S1, e1, e2⟩ := hs
    obtain ⟨w1, g1, g2⟩ := astore1_sound (P := P) (m := .plain) h hb h1 e1
    obtain ⟨w2, k1, k2⟩ := astores_sound (i := i + 1) (off := off) g2 hb h2 (by rw [← Nat.add_assoc]; exact e2)
    refine ⟨w2, ?_, k2⟩
    simp only [storeCells, Sem.run_bind, add_plain, g1, Result.andThen_ok, k1]

theorem set_self {α : Type} : ∀ {l : List α} {i : Nat} {x : α}, l[i]? = some x → l.set i x = l
  | [], i, x, h => by simp at h
  | y :: l, 0, x, h => by simp at h; subst h; rfl
  | y :: l, i + 1, x, h => by simp only [List.getElem?_cons_succ] at h; simp only [List.set_cons_succ, set_self h]

/-- Stores in a row, at once. -/
theorem astores_row {b : Nat} {e : TypeId} {op : Option (Nat × Nat)} : ∀ {vs l : List AVal} {off : Nat} {S : St}, S.heap[b]? = some (.cells l e (0, 0) op) → off + vs.length ≤ l.length → vs.all AVal.one = true →
    astores S b off vs = some { S with heap := S.heap.set b (.cells (l.take off ++ (vs ++ l.drop (off + vs.length))) e (0, 0) op) }
  | [], l, off, S, h, hl, ho => by
    simp only [astores, List.nil_append, List.length_nil, Nat.add_zero, List.take_append_drop, set_self h]
  | v :: vs, l, off, S, h, hl, ho => by
    simp only [List.length_cons] at hl
    simp only [List.all_cons, Bool.and_eq_true] at ho
    have hb : b < S.heap.length := (List.getElem?_eq_some_iff.1 h).1
    have h1 : astore1 S b off v = some { S with heap := S.heap.set b (.cells (l.set off v) e (0, 0) op) } := by
      unfold astore1
      rw [h]
      simp only
      rw [if_pos ⟨by omega, ho.1, by simp⟩]
    simp only [astores, h1, Option.bind_some]
    rw [astores_row (e := e) (op := op) (S := { S with heap := S.heap.set b (.cells (l.set off v) e (0, 0) op) }) (l := l.set off v) (off := off + 1) (by simp [hb]) (by simp; omega) ho.2]
    have e1 : (l.set off v).take (off + 1) = l.take off ++ [v] := by
      rw [List.take_add_one, List.take_set_of_le (Nat.le_refl _), List.getElem?_set_self (by omega)]; rfl
    have e2 : (l.set off v).drop (off + 1 + vs.length) = l.drop (off + 1 + vs.length) := List.drop_set_of_lt (by omega)
    simp only [List.set_set, e1, e2, List.length_cons, List.append_assoc, List.cons_append, List.nil_append]
    rw [show off + 1 + vs.length = off + (vs.length + 1) by omega]

def astoresB (S : St) (b off : Nat) (vs : List AVal) : Option St :=
  match S.heap[b]? with
  | some (.cells l e (0, 0) op) => if off + vs.length ≤ l.length ∧ vs.all AVal.one = true then some { S with heap := S.heap.set b (.cells (l.take off ++ (vs ++ l.drop (off + vs.length))) e (0, 0) op) } else none
  | _ => astores S b off vs

theorem astoresB_eq {b off : Nat} {vs : List AVal} (h : astoresB S b off vs = some S') : astores S b off vs = some S' := by
  unfold astoresB at h
  split at h
  · rename_i l e op ho
    split at h
    · rename_i hc
      rw [astores_row ho hc.1 hc.2]; exact h
    · simp at h
  · exact h

/-- A variable is stored. -/
def astoreAt (P : Program) (S : St) (t : TypeId) (a v : AVal) : Option St :=
  match a, P.info? t with
  | .ptr b off, some i => if v.cells.length = i.size ∧ isTop v = false then astoresB S b off v.cells else none
  | _, _ => none

theorem astoreAt_sound {p : Value} (h : Ok K E S X w) (ha : VR E a p) (hx : VR E v x) (hs : astoreAt P S t a v = some S') :
    ∃ w', (Instr.storeAt t p x).run P w = .ok () w' ∧ Ok K E S' X w' := by
  unfold astoreAt at hs
  split at hs
  · rename_i b off i hi
    simp only [VR] at ha; obtain ⟨c, hc, rfl⟩ := ha
    split at hs
    · rename_i hl
      obtain ⟨hl, ht⟩ := hl
      have hcs := hx.cells (isTop_ne ht)
      have hlen := hcs.length
      obtain ⟨w', g1, g2⟩ := astores_sound (P := P) (off := off) (i := 0) h hc hcs (by simpa using astoresB_eq hs)
      refine ⟨w', ?_, g2⟩
      have : x.cells.size = i.size := by rw [← hl, hlen]; simp
      simp [Instr.storeAt, Instr.sureAddr, storeVar, run_sizeOf' hi, this, g1]
    · simp at hs
  · simp at hs

/-- A new block. -/
def anew (S : St) (o : AObj) : St := { S with heap := S.heap ++ [o] }

theorem anew_sound {o : AObj} {u : Obj} (h : Ok K E S X w) (ho : OR E o u) :
    ∃ E' w', (newObj u).run P w = .ok w.heap.size w' ∧ E.Le E' ∧ E'.rho S.heap.length = some w.heap.size ∧ Ok K E' (anew S o) X w' := by
  obtain ⟨E', g1, g2, g3⟩ := h.alloc ho
  exact ⟨E', _, rfl, g1, g2, g3⟩

end Go.Eng

namespace Go.Eng
open Go.RowKit

variable {P : Program} {K : Fix} {E F : Env} {S S' : St} {X : List (List Value)} {w w' : World} {a b v : AVal} {x y : Value} {t s : TypeId} {l r : List AVal} {xs : List Value} {i j n off f : Nat}

/-- One of the outcomes is what comes. -/
def Gives (P : Program) (K : Fix) (E : Env) (X : List (List Value)) (s : Sem Next) (w : World) (outs : List (AVal × St)) : Prop :=
  ∃ v S' y w' E', (v, S') ∈ outs ∧ (s.run P w = .ok (.value y) w' ∨ (y = undef ∧ s.run P w = .ok .skip w')) ∧ VR E' v y ∧ Ok K E' S' X w' ∧ E.Le E'

def uv : AVal := .lit undef

theorem Ok.mapAt {m c : Nat} {es : List AEnt} {clock : Nat} (h : Ok K E S X w) (hm : E.rho m = some c) (ho : S.heap[m]? = some (.map es clock)) :
    ∃ ms, ER E es ms ∧ w.heap[c]? = some (.map ms.toArray clock) := by
  obtain ⟨c', u, h1, _, h3, h4⟩ := h.obj m _ ho
  rw [hm] at h1; obtain rfl := Option.some.inj h1
  obtain ⟨ms, g1, rfl⟩ := h4
  exact ⟨ms, g1, h3⟩

theorem ER.push {es : List AEnt} {ms : List MapEntry} {k : AVal} {u z : Value} {bn : Nat} (h : ER E es ms) (hk : VR E k u) (hv : VR E v z) :
    ER E (es ++ [⟨k, v, bn⟩]) (ms ++ [{ key := u, val := z, born := bn }]) := by
  induction es generalizing ms with
  | nil => simp only [ER] at h; subst h; simp only [List.nil_append, ER]; exact ⟨_, _, hk, hv, rfl, rfl, rfl⟩
  | cons e es ih =>
    simp only [ER] at h; obtain ⟨m, r, h1, h2, h3, h4, rfl⟩ := h
    simp only [List.cons_append, ER]; exact ⟨m, _, h1, h2, h3, ih h4, rfl⟩

theorem ER.modify {es : List AEnt} {ms : List MapEntry} {k : AVal} {u z : Value} (h : ER E es ms) (hk : VR E k u) (hv : VR E v z) (i : Nat) :
    ER E (es.modify i fun e => { e with key := k, val := v }) (ms.modify i fun e => { e with key := u, val := z }) := by
  induction es generalizing ms i with
  | nil => simp only [ER] at h; subst h; simp [ER]
  | cons e es ih =>
    simp only [ER] at h; obtain ⟨m, r, h1, h2, h3, h4, rfl⟩ := h
    cases i with
    | zero => simp only [List.modify_zero_cons, ER]; exact ⟨{ m with key := u, val := z }, r, hk, hv, h3, h4, rfl⟩
    | succ i => simp only [List.modify_succ_cons, ER]; exact ⟨_, _, h1, h2, h3, ih h4 i, rfl⟩

theorem ER.erase {es : List AEnt} {ms : List MapEntry} (h : ER E es ms) (i : Nat) : ER E (es.eraseIdx i) (ms.eraseIdx i) := by
  induction es generalizing ms i with
  | nil => simp only [ER] at h; subst h; simp [ER]
  | cons e es ih =>
    simp only [ER] at h; obtain ⟨m, r, h1, h2, h3, h4, rfl⟩ := h
    cases i with
    | zero => simpa using h4
    | succ i => simp only [List.eraseIdx_cons_succ, ER]; exact ⟨_, _, h1, h2, h3, ih h4 i, rfl⟩

theorem ER.get {es : List AEnt} {ms : List MapEntry} {e : AEnt} {i : Nat} (h : ER E es ms) (he : es[i]? = some e) : ∃ m, ms[i]? = some m ∧ VR E e.key m.key ∧ VR E e.val m.val ∧ m.born = e.born := by
  induction es generalizing ms i with
  | nil => simp at he
  | cons d es ih =>
    simp only [ER] at h; obtain ⟨m, r, h1, h2, h3, h4, rfl⟩ := h
    cases i with
    | zero => simp at he; subst he; exact ⟨m, by simp, h1, h2, h3⟩
    | succ i => simp at he; simpa using ih h4 he

/-- Where a key stands in a map that has a name: none, where it can't be said. -/
def aseek (P : Program) (S : St) (t : TypeId) (m : Nat) (kv : Value) : Option (List AEnt × Nat × Option (Nat × AVal)) :=
  match P.underlying t, S.heap[m]? with
  | some (.map kt _), some (.map es clock) =>
    match P.underlying kt with
    | none => none
    | some d =>
      match still P (Instr.checkKey false 10000 kt kv), still P (Instr.checkKey es.isEmpty 10000 kt kv), afind d kv es 0 with
      | some _, some _, some r => some (es, clock, r)
      | _, _, _ => none
  | _, _ => none

theorem aseek_sound {m c : Nat} {kv : Value} {es : List AEnt} {clock : Nat} {r : Option (Nat × AVal)} (h : Ok K E S X w) (hm : E.rho m = some c) (hs : aseek P S t m kv = some (es, clock, r)) :
    ∃ kt et ms, P.underlying t = some (.map kt et) ∧ S.heap[m]? = some (.map es clock) ∧ ER E es ms ∧ w.heap[c]? = some (.map ms.toArray clock) ∧
      (∀ w', (Instr.checkKey false 10000 kt kv).run P w' = .ok () w') ∧ (∀ w', (Instr.checkKey ms.toArray.isEmpty 10000 kt kv).run P w' = .ok () w') ∧
      match r with
      | none => ∀ w', (Instr.findKey kt kv ms).run P w' = .ok none w'
      | some (j, v) => ∃ x, (∀ w', (Instr.findKey kt kv ms).run P w' = .ok (some (j, x)) w') ∧ VR E v x ∧ j < es.length := by
  unfold aseek at hs
  split at hs
  · rename_i kt et es' clock' hu ho
    split at hs
    · simp at hs
    · rename_i d hd
      split at hs
      · rename_i r1 r2 rr c1 c2 hf
        simp only [Option.some.injEq, Prod.mk.injEq] at hs
        obtain ⟨rfl, rfl, rfl⟩ := hs
        obtain ⟨ms, g1, g2⟩ := h.mapAt hm ho
        refine ⟨kt, et, ms, hu, ho, g1, g2, still_run c1, by rw [g1.isEmpty]; exact still_run c2, ?_⟩
        have := afind_sound g1 hf
        cases rr with
        | none => simp only at this ⊢; intro w'; simp only [Instr.findKey, Sem.run_bind, run_underlying' hd, Result.andThen_ok, this, Sem.run_pure]
        | some p =>
          obtain ⟨x, t1, t2, t3, t4⟩ := this
          exact ⟨x, fun w' => by simp only [Instr.findKey, Sem.run_bind, run_underlying' hd, Result.andThen_ok, t1, Sem.run_pure], t2, by omega⟩
      · simp at hs
  · simp at hs

def aupdate (P : Program) (S : St) (t : TypeId) (a k v : AVal) : Option St :=
  match a, k with
  | .map m, .lit kv =>
    match aseek P S t m kv with
    | some (es, clock, none) => some { S with heap := S.heap.set m (.map (es ++ [⟨.lit kv, v, clock⟩]) (clock + 1)) }
    | some (es, clock, some (i, _)) =>
      match es[i]? with
      | some ⟨.lit old, _, _⟩ => if Instr.sameBits 10000 old kv = true then some { S with heap := S.heap.set m (.map (es.modify i fun e => { e with key := .lit kv, val := v }) clock) } else none
      | _ => none
    | none => none
  | _, _ => none

theorem aupdate_sound {k : AVal} {p q : Value} (h : Ok K E S X w) (ha : VR E a p) (hk : VR E k q) (hv : VR E v x) (hs : aupdate P S t a k v = some S') :
    ∃ w', (Instr.mapUpdate t p q x).run P w = .ok () w' ∧ Ok K E S' X w' := by
  unfold aupdate at hs
  split at hs
  · rename_i m kv
    simp only [VR] at ha hk; obtain ⟨c, hc, rfl⟩ := ha; subst hk
    split at hs
    · rename_i es clock hsk
      simp only [Option.some.injEq] at hs; subst hs
      obtain ⟨kt, et, ms, hu, ho, g1, g2, g3, g4, g5⟩ := aseek_sound h hc hsk
      simp only at g5
      refine ⟨_, ?_, h.put (o := .map (es ++ [⟨.lit q, v, clock⟩]) (clock + 1)) (u := .map (ms ++ [(⟨q, x, clock⟩ : MapEntry)]).toArray (clock + 1)) hc ⟨_, g1.push (k := .lit q) (u := q) (by simp only [VR]) hv, rfl⟩⟩
      simp [Instr.mapUpdate, run_underlying' hu, run_getObj_map g2, g3, g5, run_setObj_map g2]
    · rename_i es clock i vv hsk
      obtain ⟨kt, et, ms, hu, ho, g1, g2, g3, g4, x', g5, g6, g7⟩ := aseek_sound h hc hsk
      split at hs
      · rename_i old v0 b0 he
        split at hs
        · rename_i hsame
          simp only [Option.some.injEq] at hs; subst hs
          obtain ⟨mm, k1, k2, k3, k4⟩ := g1.get he
          simp only [VR] at k2
          refine ⟨_, ?_, h.put (o := .map (es.modify i fun e => { e with key := .lit q, val := v }) clock) (u := .map (ms.modify i fun e => { e with key := q, val := x }).toArray clock) hc ⟨_, g1.modify (k := .lit q) (u := q) (by simp only [VR]) hv i, rfl⟩⟩
          simp [Instr.mapUpdate, run_underlying' hu, run_getObj_map g2, g3, g5, k1, k2, Instr.keyThatStays, hsame, run_setObj_map g2]
        · simp at hs
      · simp at hs
    · simp at hs
  · simp at hs

def adelete (P : Program) (S : St) (t : TypeId) (a k : AVal) : Option St :=
  match a, k with
  | .map m, .lit kv =>
    match aseek P S t m kv with
    | some (es, clock, none) => some { S with heap := S.heap.set m (.map es clock) }
    | some (es, clock, some (i, _)) => some { S with heap := S.heap.set m (.map (es.eraseIdx i) clock) }
    | none => none
  | _, _ => none

theorem adelete_sound {k : AVal} {p q : Value} {ty : TypeId} (h : Ok K E S X w) (ha : VR E a p) (hk : VR E k q) (hs : adelete P S t a k = some S') :
    ∃ w', (Builtin.delete_ #[t, s] ty #[p, q]).run P w = .ok (.tuple #[]) w' ∧ Ok K E S' X w' := by
  unfold adelete at hs
  split at hs
  · rename_i m kv
    simp only [VR] at ha hk; obtain ⟨c, hc, rfl⟩ := ha; subst hk
    split at hs
    · rename_i es clock hsk
      simp only [Option.some.injEq] at hs; subst hs
      obtain ⟨kt, et, ms, hu, ho, g1, g2, g3, g4, g5⟩ := aseek_sound h hc hsk
      simp only at g5
      refine ⟨_, ?_, h.put (o := .map es clock) (u := .map ms.toArray clock) hc ⟨_, g1, rfl⟩⟩
      simp only [List.isEmpty_toArray] at g4
      simp [Builtin.delete_, run_underlying' hu, run_getObj_map g2, g5, g4, run_setObj_map g2]
    · rename_i es clock i vv hsk
      simp only [Option.some.injEq] at hs; subst hs
      obtain ⟨kt, et, ms, hu, ho, g1, g2, g3, g4, x', g5, g6, g7⟩ := aseek_sound h hc hsk
      refine ⟨_, ?_, h.put (o := .map (es.eraseIdx i) clock) (u := .map (ms.eraseIdx i).toArray clock) hc ⟨_, g1.erase i, rfl⟩⟩
      simp only [List.isEmpty_toArray] at g4
      simp [Builtin.delete_, run_underlying' hu, run_getObj_map g2, g5, g4, run_setObj_map g2]
    · simp at hs
  · simp at hs

end Go.Eng

namespace Go.Eng
open Go.RowKit

variable {P : Program} {K : Fix} {E F : Env} {S S' : St} {X : List (List Value)} {w w' : World} {a b v : AVal} {x y : Value} {t s : TypeId} {l r : List AVal} {xs : List Value} {i j n off f : Nat}

/-! ### append, copy -/

/-- How many elements a source has, and their cells. -/
def asrc (S : St) (size : Nat) : AVal → Option (Nat × List AVal)
  | .slice b off n _ _ =>
    match S.heap[b]? with
    | some o => match cellsOf o with
      | some l => match sub l off (n * size) with
        | some cs => some (n, cs)
        | none => none
      | none => none
    | none => none
  | .lit (.slice none 0 _) => some (0, [])
  | .lit (.string s) => if size = 1 then some (s.size, s.data.toList.map fun b => .lit (.int .u8 b.toNat)) else none
  | _ => none

theorem asrc_sound {size : Nat} {cs : List AVal} (h : Ok K E S X w) (ha : VR E a x) (hs : asrc S size a = some (n, cs)) :
    ∃ xs, VRs E cs xs ∧ (∀ d, (Builtin.lenOf x).run P { w with drawn := d } = .ok n { w with drawn := d }) ∧
      (∀ d k, k ≤ n → (Builtin.firstCells size k x).run P { w with drawn := d } = .ok (xs.take (k * size)).toArray { w with drawn := d }) ∧ cs.length = n * size := by
  unfold asrc at hs
  split at hs
  · rename_i b off m q1 q2
    simp only [VR] at ha; obtain ⟨c, k, hc, _, rfl⟩ := ha
    split at hs
    · rename_i o ho
      split at hs
      · rename_i l hl
        split at hs
        · rename_i us hsub
          simp only [Option.some.injEq, Prod.mk.injEq] at hs; obtain ⟨rfl, rfl⟩ := hs
          obtain ⟨xs, hx, hcell⟩ := h.cells hc ho hl
          obtain ⟨r1, r2⟩ := sub_rel hx hsub
          refine ⟨_, r1, fun _ => rfl, fun d k hk => ?_, by rw [r1.length]; simp; omega⟩
          have hks : k * size ≤ m * size := Nat.mul_le_mul_right _ hk
          have e1 : ((xs.drop off).take (m * size)).take (k * size) = (xs.drop off).take (k * size) := by rw [List.take_take, Nat.min_eq_left hks]
          rw [e1]
          have hlen : ((xs.drop off).take (k * size)).length = k * size := by simp; omega
          have hlc := run_loadCells (P := P) (w := { w with drawn := d }) (a := ⟨c, off, none⟩) ((xs.drop off).take (k * size)) (fun j hj => by
            show w.cell? _ = _
            rw [add_plain, hcell _ (by omega)]
            rw [List.getElem?_take_of_lt (by omega), List.getElem?_drop])
          rw [hlen] at hlc
          simpa only [Builtin.firstCells] using hlc
        · simp at hs
      · simp at hs
    · simp at hs
  · simp only [VR] at ha; subst ha
    simp only [Option.some.injEq, Prod.mk.injEq] at hs; obtain ⟨rfl, rfl⟩ := hs
    exact ⟨[], VRs.nil, fun _ => rfl, fun _ k hk => by simp [Builtin.firstCells], by simp⟩
  · rename_i st
    simp only [VR] at ha; subst ha
    split at hs
    · rename_i h1
      subst h1
      simp only [Option.some.injEq, Prod.mk.injEq] at hs; obtain ⟨rfl, rfl⟩ := hs
      refine ⟨st.data.toList.map fun b => .int .u8 b.toNat, ?_, fun _ => rfl, fun _ k hk => ?_, by simp⟩
      · have := VRs.lits (E := E) (st.data.toList.map fun b => Value.int .u8 b.toNat)
        simpa [List.map_map, Function.comp_def] using this
      · simp only [Builtin.firstCells, Sem.run_pure, Nat.mul_one]
        congr 1
        have : (st.extract 0 k).data = (st.data.toList.take k).toArray := by
          rw [ByteArray.data_extract]
          apply Array.ext'
          simp
        rw [this]
        apply Array.ext'
        simp [List.map_take]
    · simp at hs
  · simp at hs

theorem growBy_le (m : Nat) : ∀ (r c : Nat), c ≤ m + m / 4 + 192 → Builtin.growBy m r c ≤ m + m / 4 + 192
  | 0, c, h => by simpa only [Builtin.growBy] using h
  | r + 1, c, h => by
    simp only [Builtin.growBy]
    split
    · exact h
    · rename_i hlt
      exact growBy_le m r _ (by omega)

theorem nextslicecap_le {m old : Nat} (h : old < m) : Builtin.nextslicecap m old ≤ 2 * m + 192 := by
  unfold Builtin.nextslicecap
  split
  · omega
  · split
    · omega
    · have := growBy_le m 4 old (by omega); omega

/-- What append's own operation is, where it grows. -/
theorem run_append_grow {t t' e ty : TypeId} {inf : TypeInfo} {z : Value} {base : Option Addr} {len cap m : Nat} {old new : Array Value} (hu : P.underlying t = some (.slice e))
    (hu' : (∃ e', P.underlying t' = some (.slice e')) ∨ P.underlying t' = some .string) (hi : P.info? e = some inf) (hz : ∀ w, (zeroValue e).run P w = .ok z w)
    (hl : ∀ d, (Builtin.lenOf y).run P { w with drawn := d } = .ok m { w with drawn := d }) (ho : ∀ d, (Builtin.firstCells inf.size len (.slice base len cap)).run P { w with drawn := d } = .ok old { w with drawn := d })
    (hn : ∀ d, (Builtin.firstCells inf.size m y).run P { w with drawn := d } = .ok new { w with drawn := d }) (hgt : cap < len + m) (hmax : len + m ≤ 1048576) (hb : (2 * (len + m) + 192) * inf.bytes ≤ 281474976710656) :
    ∃ k, len + m ≤ k ∧ k ≤ 9223372036854775807 ∧ (Builtin.append_ #[t, t'] ty #[.slice base len cap, y]).run P w =
      .ok (.slice (some ⟨w.heap.size, 0, none⟩) (len + m) k) { w with drawn := w.drawn + 1, heap := w.heap.push (.cells (old ++ new ++ Builtin.zeroCells z.cells (k - (len + m))) e) } := by
  refine ⟨(Question.appendCap (len + m) cap e).cut (w.tape w.drawn (Question.appendCap (len + m) cap e)), by simp only [Question.cut]; omega, by simp only [Question.cut]; have := Nat.mod_lt (w.tape w.drawn (Question.appendCap (len + m) cap e)) (show 0 < 2 ^ 63 - (len + m) by omega); omega, ?_⟩
  have hl0 : (Builtin.lenOf y).run P w = .ok m w := hl w.drawn
  have hcapb := nextslicecap_le hgt
  have hcb : ¬ (Builtin.nextslicecap (len + m) cap * inf.bytes > 2 ^ 48) := by
    have := Nat.mul_le_mul_right inf.bytes hcapb; omega
  have hne : ¬ (len + m ≤ cap) := by omega
  have hbig : ∀ b : Prop, ¬ (((len + m : Nat) : Int) > IntKind.i64.max ∧ b) := by
    have : IntKind.i64.max = 9223372036854775807 := by decide
    rw [this]; rintro b ⟨h1, _⟩; omega
  have hs : ∀ w, (sizeOf e).run P w = .ok inf.size w := fun _ => run_sizeOf' hi
  have hch : (choose (Question.appendCap (len + m) cap e)).run P w = .ok ((Question.appendCap (len + m) cap e).cut (w.tape w.drawn (Question.appendCap (len + m) cap e))) { w with drawn := w.drawn + 1 } := by
    simp [Question.forced]
  generalize (Question.appendCap (len + m) cap e).cut (w.tape w.drawn (Question.appendCap (len + m) cap e)) = k at hch ⊢
  have ho1 := ho (w.drawn + 1)
  have hn1 := hn (w.drawn + 1)
  rcases hu' with ⟨e', hu'⟩ | hu'
  all_goals
    simp only [Builtin.append_, List.getElem?_toArray, List.getElem?_cons_zero, List.getElem?_cons_succ, Sem.run_bind, run_underlying' hu, Result.andThen_ok, hs, run_underlying' hu', Sem.run_pure]
    simp only [Bool.false_eq_true, if_false, Sem.run_bind, hl0, Result.andThen_ok, hne, run_typeInfo' hi, hbig, hcb, hch, run_askRoom, ho1, Bool.not_false, if_true, hn1, hz, newRow, run_newObj, Sem.run_pure]

end Go.Eng

namespace Go.Eng
open Go.RowKit

variable {P : Program} {K : Fix} {E F : Env} {S S' : St} {X : List (List Value)} {w w' : World} {a b v : AVal} {x y : Value} {t s : TypeId} {l r : List AVal} {xs : List Value} {i j n off f : Nat}

theorem run_storeCells_row {c p : Nat} {e : TypeId} {fz : Nat × Nat} : ∀ (vs : List Value) (i : Nat) (cs : Array Value) (w : World), w.heap[c]? = some (.cells cs e fz) → p + i + vs.length ≤ cs.size →
    (∀ j, p + i ≤ j → j < p + i + vs.length → (fz.1 ≤ j && j < fz.2) = false) → (∀ v ∈ vs, v.oneCell' = true) →
    (storeCells ⟨c, p, none⟩ vs i).run P w = .ok () { w with heap := w.heap.setIfInBounds c (.cells (cs.toList.take (p + i) ++ vs ++ cs.toList.drop (p + i + vs.length)).toArray e fz) }
  | [], i, cs, w, hw, _, _, _ => by
    have hlt := (Array.getElem?_eq_some_iff.1 hw)
    obtain ⟨h1, h2⟩ := hlt
    have e1 : ((cs.toList.take (p + i) ++ [] ++ cs.toList.drop (p + i + ([] : List Value).length)).toArray) = cs := by simp
    rw [e1]
    have e2 : w.heap.setIfInBounds c (.cells cs e fz) = w.heap := by
      apply Array.ext_getElem?
      intro k
      rw [Array.getElem?_setIfInBounds]
      split
      · rename_i hk; subst hk; simp [h1, h2]
      · rfl
    rw [e2]; rfl
  | v :: vs, i, cs, w, hw, hl, hf, h1 => by
    simp only [List.length_cons] at hl hf
    have hc : w.cell? ⟨c, p + i, none⟩ = some cs[p + i] := by simp [World.cell?, hw, show p + i < cs.size by omega]
    have hfr : w.frozen? ⟨c, p + i, none⟩ = false := by simp only [World.frozen?, hw]; exact hf (p + i) (Nat.le_refl _) (by omega)
    have hst : (store ⟨c, p + i, none⟩ v).run P w = .ok () { w with heap := w.heap.setIfInBounds c (.cells (cs.setIfInBounds (p + i) v) e fz) } := by
      rw [run_store _ _ _ _ _ (h1 v (by simp)), hc]
      simp only [hfr, setCell_cells hw]
      simp
    have hlt := (Array.getElem?_eq_some_iff.1 hw).1
    simp only [storeCells, Sem.run_bind, add_plain, hst, Result.andThen_ok]
    rw [run_storeCells_row (e := e) (fz := fz) vs (i + 1) (cs.setIfInBounds (p + i) v) _ (by simp [hlt]) (by simp; omega) (fun j g1 g2 => hf j (by omega) (by omega)) (fun u hu => h1 u (by simp [hu]))]
    simp only [Array.setIfInBounds_setIfInBounds]
    congr 4
    simp only [Array.toList_setIfInBounds, List.length_cons]
    rw [← Nat.add_assoc p i 1, List.take_add_one, List.take_set_of_le (Nat.le_refl _), List.getElem?_set_self (by simp; omega), List.drop_set_of_lt (by omega)]
    simp only [Option.toList_some, List.append_assoc, List.cons_append, List.nil_append]
    rw [show p + i + (vs.length + 1) = p + i + 1 + vs.length by omega]

theorem run_append_fits {t t' e ty : TypeId} {inf : TypeInfo} {base : Option Addr} {len cap m : Nat} {new : Array Value} (hu : P.underlying t = some (.slice e))
    (hu' : (∃ e', P.underlying t' = some (.slice e')) ∨ P.underlying t' = some .string) (hi : P.info? e = some inf)
    (hl : (Builtin.lenOf y).run P w = .ok m w) (hn : (Builtin.firstCells inf.size m y).run P w = .ok new w) (hle : len + m ≤ cap)
    (hs : match base with | some a => (storeCells (a.add (len * inf.size)) new.toList).run P w = .ok () w' | none => w' = w) :
    (Builtin.append_ #[t, t'] ty #[.slice base len cap, y]).run P w = .ok (.slice base (len + m) cap) w' := by
  have hsz : ∀ w, (sizeOf e).run P w = .ok inf.size w := fun _ => run_sizeOf' hi
  rcases hu' with ⟨e', hu'⟩ | hu'
  all_goals
    simp only [Builtin.append_, List.getElem?_toArray, List.getElem?_cons_zero, List.getElem?_cons_succ, Sem.run_bind, run_underlying' hu, Result.andThen_ok, hsz, run_underlying' hu', Sem.run_pure]
    simp only [Bool.false_eq_true, if_false, Sem.run_bind, hl, Result.andThen_ok, hle, Bool.not_false, if_true, hn]
    cases base with
    | some a => simp only at hs; simp only [Sem.run_bind, hs, Result.andThen_ok, Sem.run_pure]
    | none => simp only at hs; subst hs; simp only [Sem.run_pure]

def srcOk (P : Program) (t : TypeId) : Bool :=
  match P.underlying t with
  | some (.slice _) => true
  | some .string => true
  | _ => false

theorem srcOk_sound (h : srcOk P t = true) : (∃ e', P.underlying t = some (.slice e')) ∨ P.underlying t = some .string := by
  unfold srcOk at h
  split at h
  · rename_i e he; exact .inl ⟨e, he⟩
  · rename_i he; exact .inr he
  · cases h

/-- append, where it grows. -/
def agrow (S : St) (e : TypeId) (inf : TypeInfo) (need : Nat) (cs : List AVal) : Option (AVal × St) :=
  if need ≤ 1048576 ∧ (2 * need + 192) * inf.bytes ≤ 281474976710656 then
    some (.slice S.heap.length 0 need 0 (some S.caps.length), { S with heap := S.heap ++ [.cells cs e (0, 0) (some (S.caps.length, inf.size))], caps := S.caps ++ [need] })
  else none

theorem agrow_sound {t t' e ty : TypeId} {inf : TypeInfo} {z : Value} {base : Option Addr} {len cap m : Nat} {old new : List Value} {ol nw : List AVal} (h : Ok K E S X w) (hu : P.underlying t = some (.slice e))
    (hu' : srcOk P t' = true) (hi : P.info? e = some inf) (hz : still P (zeroValue e) = some z) (hzs : z.cells.size = inf.size)
    (hl : ∀ d, (Builtin.lenOf y).run P { w with drawn := d } = .ok m { w with drawn := d }) (ho : ∀ d, (Builtin.firstCells inf.size len (.slice base len cap)).run P { w with drawn := d } = .ok old.toArray { w with drawn := d })
    (hn : ∀ d, (Builtin.firstCells inf.size m y).run P { w with drawn := d } = .ok new.toArray { w with drawn := d }) (hgt : cap < len + m) (rol : VRs E ol old) (rnw : VRs E nw new) (lol : ol.length = len * inf.size) (lnw : nw.length = m * inf.size)
    (hv : agrow S e inf (len + m) (ol ++ nw) = some (v, S')) :
    ∃ y' w' E', (Builtin.append_ #[t, t'] ty #[.slice base len cap, y]).run P w = .ok y' w' ∧ VR E' v y' ∧ Ok K E' S' X w' ∧ E.Le E' := by
  unfold agrow at hv
  split at hv
  · rename_i hh
    simp only [Option.some.injEq, Prod.mk.injEq] at hv; obtain ⟨rfl, rfl⟩ := hv
    obtain ⟨k, hk, hkm, hr⟩ := run_append_grow (P := P) (ty := ty) hu (srcOk_sound hu') hi (still_run hz) hl ho hn hgt hh.1 hh.2
    obtain ⟨E1, l1, c1, c2, o1⟩ := (h.drawn (w.drawn + 1)).newcap hk hkm
    have hob : OR E1 (.cells (ol ++ nw) e (0, 0) (some (S.caps.length, inf.size))) (.cells (old.toArray ++ new.toArray ++ Builtin.zeroCells z.cells (k - (len + m))) e) := by
      refine ⟨old ++ new, (Builtin.zeroCells z.cells (k - (len + m))).toList, k, (VRs.mono l1 _ _ rol).append (VRs.mono l1 _ _ rnw), c1, ?_, ?_⟩
      · have e1 := rol.length
        have e2 := rnw.length
        have e3 : (Builtin.zeroCells z.cells (k - (len + m))).size = (k - (len + m)) * inf.size := by simp [Builtin.zeroCells, hzs]
        simp only [List.length_append, Array.length_toList, e3, ← e1, ← e2, lol, lnw, ← Nat.add_mul]
        congr 1; omega
      · simp
    obtain ⟨E2, l2, b2, o2⟩ := o1.alloc hob
    refine ⟨_, _, E2, hr, ?_, o2, l1.trans l2⟩
    simp only [VR]
    exact ⟨w.heap.size, k, b2, ⟨k, l2.kap _ _ c1, by omega, rfl⟩, rfl⟩
  · simp at hv

/-- The row behind an append in place. -/
def arow (l : List AVal) (op : Option (Nat × Nat)) (size off len q : Nat) (c : Option Nat) (cs : List AVal) : Option (List AVal) :=
  if off + len * size + cs.length ≤ l.length then some (l.take (off + len * size) ++ cs ++ l.drop (off + len * size + cs.length))
  else match op, c with
    | some (qo, so), some qq => if qo = qq ∧ so = size ∧ off = q * size ∧ off + len * size ≤ l.length then some (l.take (off + len * size) ++ cs) else none
    | _, _ => none

/-- append, where there is room. -/
def afit (S : St) (size b off len q : Nat) (c : Option Nat) (m : Nat) (cs : List AVal) : Option (AVal × St) :=
  match S.heap[b]? with
  | some (.cells l e fz op) =>
    if cs.all AVal.one = true ∧ (fz.2 ≤ fz.1 ∨ off + len * size + cs.length ≤ fz.1 ∨ fz.2 ≤ off + len * size) then
      match arow l op size off len q c cs with
      | some l' =>
        match c with
        | none => some (.slice b off (len + m) q none, { S with heap := S.heap.set b (.cells l' e fz op) })
        | some qq =>
          match S.caps[qq]? with
          | some lo => some (.slice b off (len + m) q (some qq), { S with heap := S.heap.set b (.cells l' e fz op), caps := S.caps.set qq (max lo (len + m + q)) })
          | none => none
      | none => none
    else none
  | _ => none

theorem VRs.allOne {cs : List AVal} {vs : List Value} (h : VRs E cs vs) (ho : cs.all AVal.one = true) : ∀ v ∈ vs, v.oneCell' = true := by
  induction cs generalizing vs with
  | nil => simp only [VRs] at h; subst h; simp
  | cons c cs ih =>
    simp only [VRs] at h; obtain ⟨x, r, h1, h2, rfl⟩ := h
    simp only [List.all_cons, Bool.and_eq_true] at ho
    intro v hv
    rcases List.mem_cons.1 hv with rfl | hv
    · exact h1.one ho.1
    · exact ih h2 ho.2 v hv

theorem afit_sound {b d q cap m size len : Nat} {c : Option Nat} {cs : List AVal} {vs : List Value} (h : Ok K E S X w) (hd : E.rho b = some d) (hc : CapR E q c cap) (hle : len + m ≤ cap) (hcs : VRs E cs vs) (hlen : cs.length = m * size)
    (hv : afit S size b off len q c m cs = some (v, S')) :
    ∃ w', (storeCells ((⟨d, off, none⟩ : Addr).add (len * size)) vs).run P w = .ok () w' ∧ VR E v (.slice (some ⟨d, off, none⟩) (len + m) cap) ∧ Ok K E S' X w' := by
  unfold afit at hv
  split at hv
  · rename_i l e fz op ho
    split at hv
    · rename_i hh
      obtain ⟨hone, hfz⟩ := hh
      have hvl := hcs.length
      have hones := hcs.allOne hone
      obtain ⟨d', u, g1, g2, g3, g4⟩ := h.obj b _ ho
      rw [hd] at g1; obtain rfl := Option.some.inj g1
      have hstore : ∀ (cs0 : Array Value), u = .cells cs0 e fz → off + len * size + vs.length ≤ cs0.size →
          (storeCells ((⟨d, off, none⟩ : Addr).add (len * size)) vs).run P w = .ok () { w with heap := w.heap.setIfInBounds d (.cells (cs0.toList.take (off + len * size) ++ vs ++ cs0.toList.drop (off + len * size + vs.length)).toArray e fz) } := by
        intro cs0 hu hsz
        subst hu
        rw [add_plain]
        have := run_storeCells_row (P := P) (p := off + len * size) vs 0 cs0 w g3 (by simpa using hsz) (fun j j1 j2 => by
          rw [hvl] at hfz
          simp only [Nat.add_zero] at j1 j2
          have : ¬ (fz.1 ≤ j ∧ j < fz.2) := by omega
          simp only [Bool.and_eq_false_iff, decide_eq_false_iff_not]
          omega) hones
        simpa using this
      have hnew : ∀ l', arow l op size off len q c cs = some l' →
          ∃ w', (storeCells ((⟨d, off, none⟩ : Addr).add (len * size)) vs).run P w = .ok () w' ∧ Ok K E { S with heap := S.heap.set b (.cells l' e fz op) } X w' := by
        intro l' hl'
        unfold arow at hl'
        split at hl'
        · rename_i hin
          simp only [Option.some.injEq] at hl'; subst hl'
          cases op with
          | none =>
            obtain ⟨xs, r, hu⟩ := g4
            have e1 := r.length
            refine ⟨_, hstore xs.toArray hu (by simp; omega), h.put hd ⟨_, ((r.take _).append hcs).append (r.drop _), ?_⟩⟩
            simp [hvl]
          | some qs =>
            obtain ⟨qo, so⟩ := qs
            obtain ⟨xs, tl, nn, r, k1, k2, hu⟩ := g4
            have e1 := r.length
            refine ⟨_, hstore (xs ++ tl).toArray hu (by simp; omega), h.put hd ⟨_, tl, nn, ((r.take _).append hcs).append (r.drop _), k1, ?_, ?_⟩⟩
            · simp only [List.length_append, List.length_take, List.length_drop]; omega
            · have a1 : off + len * size ≤ xs.length := by omega
              have a2 : off + len * size + vs.length ≤ xs.length := by omega
              simp [hvl, List.take_append_of_le_length a1, List.drop_append_of_le_length a2]
        · rename_i hin
          split at hl'
          · rename_i qo so qq
            split at hl'
            · rename_i hq
              obtain ⟨rfl, rfl, hoff, hp⟩ := hq
              simp only [Option.some.injEq] at hl'; subst hl'
              obtain ⟨xs, tl, nn, r, k1, k2, hu⟩ := g4
              have e1 := r.length
              obtain ⟨n2, j1, j2, j3⟩ := hc
              rw [k1] at j1; obtain rfl := Option.some.inj j1
              have hmul : (q + len + m) * so ≤ nn * so := Nat.mul_le_mul_right _ (by omega)
              have hexp : (q + len + m) * so = q * so + len * so + m * so := by rw [Nat.add_mul, Nat.add_mul]
              have htot : off + len * so + vs.length ≤ xs.length + tl.length := by omega
              refine ⟨_, hstore (xs ++ tl).toArray hu (by simp; omega), h.put hd ⟨_, (xs ++ tl).drop (off + len * so + vs.length), nn, (r.take _).append hcs, k1, ?_, ?_⟩⟩
              · simp only [List.length_append, List.length_take, List.length_drop]; omega
              · have a1 : off + len * so ≤ xs.length := by omega
                simp [List.take_append_of_le_length a1]
            · simp at hl'
          · simp at hl'
      split at hv
      · rename_i l' hl'
        obtain ⟨w', s1, s2⟩ := hnew l' hl'
        split at hv
        · simp only [Option.some.injEq, Prod.mk.injEq] at hv; obtain ⟨rfl, rfl⟩ := hv
          exact ⟨w', s1, by simp only [VR]; exact ⟨d, cap, hd, hc, rfl⟩, s2⟩
        · rename_i qq
          split at hv
          · rename_i lo hlo
            simp only [Option.some.injEq, Prod.mk.injEq] at hv; obtain ⟨rfl, rfl⟩ := hv
            obtain ⟨n2, j1, j2, j3⟩ := hc
            obtain ⟨n3, i1, i2, _⟩ := h.lb _ _ hlo
            rw [j1] at i1; obtain rfl := Option.some.inj i1
            refine ⟨w', s1, by simp only [VR]; exact ⟨d, cap, hd, ⟨n2, j1, j2, j3⟩, rfl⟩, s2.raise j1 (by omega)⟩
          · simp at hv
      · simp at hv
    · simp at hv
  · simp at hv

/-- append. -/
def aappend (P : Program) (S : St) (ats : List TypeId) (s x : AVal) : Option (List (AVal × St)) :=
  match ats with
  | [t, t'] =>
    match P.underlying t with
    | some (.slice e) =>
      match P.info? e, still P (zeroValue e) with
      | some inf, some z =>
        if srcOk P t' = true ∧ z.cells.size = inf.size then
          match asrc S inf.size x with
          | none => none
          | some (m, cs) =>
            match s with
            | .lit (.slice none 0 0) => if m = 0 then some [(s, S)] else (agrow S e inf (0 + m) ([] ++ cs)).map fun o => [o]
            | .slice b off len q c =>
              match asrc S inf.size (.slice b off len q c) with
              | none => none
              | some (_, old) =>
                if capGe S q c (len + m) = true then (afit S inf.size b off len q c m cs).map fun o => [o]
                else match c with
                  | none => (agrow S e inf (len + m) (old ++ cs)).map fun o => [o]
                  | some _ => match afit S inf.size b off len q c m cs, agrow S e inf (len + m) (old ++ cs) with
                    | some o1, some o2 => some [o1, o2]
                    | _, _ => none
            | _ => none
        else none
      | _, _ => none
    | _ => none
  | _ => none

theorem aappend_sound {ats : Array TypeId} {ty : TypeId} {u : AVal} {p : Value} {outs : List (AVal × St)} (h : Ok K E S X w) (ha : VR E a p) (hu : VR E u x) (hv : aappend P S ats.toList a u = some outs) :
    ∃ v S' y' w' E', (v, S') ∈ outs ∧ (Builtin.append_ ats ty #[p, x]).run P w = .ok y' w' ∧ VR E' v y' ∧ Ok K E' S' X w' ∧ E.Le E' := by
  unfold aappend at hv
  split at hv
  · rename_i t t' hats
    have hats : ats = #[t, t'] := by rw [← hats]
    subst hats
    split at hv
    · rename_i e hut
      split at hv
      · rename_i inf z hi hz
        split at hv
        · rename_i hh
          obtain ⟨hsrc, hzs⟩ := hh
          split at hv
          · simp at hv
          · rename_i m cs hcs
            obtain ⟨vs, rvs, hl0, hn0, hlen⟩ := asrc_sound (P := P) h hu hcs
            have hvl : (vs.take (m * inf.size)) = vs := by rw [List.take_of_length_le]; rw [← rvs.length, hlen]; exact Nat.le_refl _
            have hnd : ∀ d, (Builtin.firstCells inf.size m x).run P { w with drawn := d } = .ok vs.toArray { w with drawn := d } := fun d => by
              have := hn0 d m (Nat.le_refl _); rwa [hvl] at this
            have hlw : (Builtin.lenOf x).run P w = .ok m w := hl0 w.drawn
            have hnw : (Builtin.firstCells inf.size m x).run P w = .ok vs.toArray w := hnd w.drawn
            split at hv
            · simp only [VR] at ha; subst ha
              split at hv
              · rename_i hm; subst hm
                simp only [Option.some.injEq] at hv; subst hv
                refine ⟨_, S, .slice none 0 0, w, E, List.mem_singleton.2 rfl, ?_, by simp only [VR], h, .refl E⟩
                exact run_append_fits (w' := w) hut (srcOk_sound hsrc) hi hlw hnw (Nat.le_refl _) rfl
              · rename_i hm
                simp only [Option.map_eq_some_iff] at hv
                obtain ⟨⟨v, S'⟩, hg, rfl⟩ := hv
                obtain ⟨y', w', E', g1, g2, g3, g4⟩ := agrow_sound (ty := ty) (len := 0) (cap := 0) (base := none) (old := []) (ol := []) h hut hsrc hi hz hzs hl0 (fun d => by simp [Builtin.firstCells]) hnd (by omega) VRs.nil rvs (by simp) hlen hg
                exact ⟨v, S', y', w', E', List.mem_singleton.2 rfl, g1, g2, g3, g4⟩
            · rename_i b off len q c
              simp only [VR] at ha; obtain ⟨d, cap, hd, hcap, rfl⟩ := ha
              split at hv
              · simp at hv
              · rename_i no old hold
                have hsv : VR E (.slice b off len q c) (.slice (some ⟨d, off, none⟩) len cap) := by simp only [VR]; exact ⟨d, cap, hd, hcap, rfl⟩
                obtain ⟨ovs, ro, hlo, hno, hleno⟩ := asrc_sound (P := P) h hsv hold
                have hnl : no = len := by
                  have := hlo w.drawn
                  simp [Builtin.lenOf] at this; exact this.symm
                subst hnl
                have hol : ∀ dd, (Builtin.firstCells inf.size no (.slice (some ⟨d, off, none⟩) no cap)).run P { w with drawn := dd } = .ok ovs.toArray { w with drawn := dd } := fun dd => by
                  have := hno dd no (Nat.le_refl _)
                  rwa [List.take_of_length_le (by rw [← ro.length, hleno]; exact Nat.le_refl _)] at this
                have hfit : ∀ {v : AVal} {S' : St}, no + m ≤ cap → afit S inf.size b off no q c m cs = some (v, S') →
                    ∃ y' w' E', (Builtin.append_ #[t, t'] ty #[.slice (some ⟨d, off, none⟩) no cap, x]).run P w = .ok y' w' ∧ VR E' v y' ∧ Ok K E' S' X w' ∧ E.Le E' := by
                  intro v S' hle hf
                  obtain ⟨w', s1, s2, s3⟩ := afit_sound (P := P) h hd hcap hle rvs hlen hf
                  exact ⟨_, w', E, run_append_fits hut (srcOk_sound hsrc) hi hlw hnw hle s1, s2, s3, .refl E⟩
                have hgr : ∀ {v : AVal} {S' : St}, cap < no + m → agrow S e inf (no + m) (old ++ cs) = some (v, S') →
                    ∃ y' w' E', (Builtin.append_ #[t, t'] ty #[.slice (some ⟨d, off, none⟩) no cap, x]).run P w = .ok y' w' ∧ VR E' v y' ∧ Ok K E' S' X w' ∧ E.Le E' := by
                  intro v S' hlt hg
                  exact agrow_sound (ty := ty) h hut hsrc hi hz hzs hl0 hol hnd hlt ro rvs hleno hlen hg
                split at hv
                · rename_i hc
                  simp only [Option.map_eq_some_iff] at hv
                  obtain ⟨⟨v, S'⟩, hf, rfl⟩ := hv
                  obtain ⟨y', w', E', g1, g2, g3, g4⟩ := hfit (capGe_sound h hcap hc) hf
                  exact ⟨v, S', y', w', E', List.mem_singleton.2 rfl, g1, g2, g3, g4⟩
                · rename_i hc
                  split at hv
                  · simp only [Option.map_eq_some_iff] at hv
                    obtain ⟨⟨v, S'⟩, hg, rfl⟩ := hv
                    have hlt : cap < no + m := by
                      simp only [capGe, decide_eq_true_eq] at hc
                      simp only [CapR] at hcap; omega
                    obtain ⟨y', w', E', g1, g2, g3, g4⟩ := hgr hlt hg
                    exact ⟨v, S', y', w', E', List.mem_singleton.2 rfl, g1, g2, g3, g4⟩
                  · split at hv
                    · rename_i o1 o2 hf hg
                      simp only [Option.some.injEq] at hv; subst hv
                      obtain ⟨v1, S1⟩ := o1
                      obtain ⟨v2, S2⟩ := o2
                      by_cases hle : no + m ≤ cap
                      · obtain ⟨y', w', E', g1, g2, g3, g4⟩ := hfit hle hf
                        exact ⟨v1, S1, y', w', E', by simp, g1, g2, g3, g4⟩
                      · obtain ⟨y', w', E', g1, g2, g3, g4⟩ := hgr (by omega) hg
                        exact ⟨v2, S2, y', w', E', by simp, g1, g2, g3, g4⟩
                    · simp at hv
            · simp at hv
        · simp at hv
      · simp at hv
    · simp at hv
  · simp at hv

end Go.Eng

namespace Go.Eng
open Go.RowKit

variable {P : Program} {K : Fix} {E F : Env} {S S' : St} {X : List (List Value)} {w w' : World} {a b v : AVal} {x y : Value} {t s : TypeId} {l r : List AVal} {xs : List Value} {i j n off f : Nat}

/-! ### what a step that is told by what it does with objects leaves -/

def Env.foot (E : Env) (fp pp : Nat → Nat → Prop) : Env := { E with fp := fp, pp := pp }
theorem den_foot {fp pp : Nat → Nat → Prop} (t : Tm) : Tm.den (E.foot fp pp) t = Tm.den E t := den_same (F := E.foot fp pp) (E := E) rfl rfl t
theorem dens_foot {fp pp : Nat → Nat → Prop} (t : List Tm) : dens (E.foot fp pp) t = dens E t := dens_same (F := E.foot fp pp) (E := E) rfl rfl t

def Env.ext (E : Env) (nv : Nat) (us : List U) : Env := { E with var := fun n => if n < nv then E.var n else us[n - nv]? }

/-- All that was there is as it was, but for the blocks that D names. -/
structure Upto0 (D : Nat → Prop) (w w' : World) : Prop where
  os : w'.os = w.os
  tape : w'.tape = w.tape
  output : w'.output = w.output
  size : w.heap.size ≤ w'.heap.size
  block : ∀ k, k < w.heap.size → ¬ D k → w'.heap[k]? = w.heap[k]?

theorem ext_le {nv : Nat} {us : List U} (h : ∀ n, (E.var n).isSome → n < nv) : E.Le (E.ext nv us) := by
  refine ⟨fun _ _ h => h, fun _ _ h => h, fun n u hu => ?_, rfl⟩
  have := h n (by simp [hu])
  simp only [Env.ext, this, if_true, hu]

theorem TR.same {k : TK} {t : Tm} (hv : F.var = E.var) (hf : F.fn = E.fn) (h : TR E k t x) : TR F k t x := by
  cases k <;> simp only [TR, den_same hv hf] at h ⊢ <;> exact h

mutual
theorem VR.same {E F : Env} (hr : F.rho = E.rho) (hk : F.kap = E.kap) (hv : F.var = E.var) (hf : F.fn = E.fn) : ∀ (a : AVal) (x : Value), VR E a x → VR F a x
  | .top, x, r => by simp only [VR]
  | .tm k t, x, r => by simp only [VR] at r ⊢; exact TR.same hv hf r
  | .lit v, x, r => by simpa only [VR] using r
  | .ptr b off, x, r => by simp only [VR, hr] at r ⊢; exact r
  | .slice b off len m q, x, r => by
    simp only [VR, hr] at r ⊢; obtain ⟨c, k, h1, h2, h3⟩ := r
    refine ⟨c, k, h1, ?_, h3⟩
    cases q with
    | none => exact h2
    | some q => obtain ⟨n, g1, g2⟩ := h2; exact ⟨n, by rw [hk]; exact g1, g2⟩
  | .map b, x, r => by simp only [VR, hr] at r ⊢; exact r
  | .func fn f g, x, r => by
    simp only [VR] at r ⊢; obtain ⟨fs, gs, h1, h2, h3⟩ := r; exact ⟨fs, gs, VRs.same hr hk hv hf f fs h1, VRs.same hr hk hv hf g gs h2, h3⟩
  | .iface t v, x, r => by
    simp only [VR] at r ⊢; obtain ⟨y, h1, h2⟩ := r; exact ⟨y, VR.same hr hk hv hf v y h1, h2⟩
  | .agg l, x, r => by
    simp only [VR] at r ⊢; obtain ⟨xs, h1, h2⟩ := r; exact ⟨xs, VRs.same hr hk hv hf l xs h1, h2⟩
  | .tuple l, x, r => by
    simp only [VR] at r ⊢; obtain ⟨xs, h1, h2⟩ := r; exact ⟨xs, VRs.same hr hk hv hf l xs h1, h2⟩
theorem VRs.same {E F : Env} (hr : F.rho = E.rho) (hk : F.kap = E.kap) (hv : F.var = E.var) (hf : F.fn = E.fn) : ∀ (l : List AVal) (xs : List Value), VRs E l xs → VRs F l xs
  | [], xs, r => by simpa only [VRs] using r
  | a :: l, xs, r => by
    simp only [VRs] at r ⊢; obtain ⟨x, s, h1, h2, h3⟩ := r; exact ⟨x, s, VR.same hr hk hv hf a x h1, VRs.same hr hk hv hf l s h2, h3⟩
end

theorem VR.foot {fp pp : Nat → Nat → Prop} (h : VR E a x) : VR (E.foot fp pp) a x := VR.same (F := E.foot fp pp) (E := E) rfl rfl rfl rfl _ _ h

/-- The world behind a call that is told by what it does with objects. -/
theorem Ok.after {D : Nat → Prop} {us : List U} {fp pp : Nat → Nat → Prop} {objs : List AOb} {nn : Nat} (h : Ok K E S X w) (hu : Upto0 D w w') (hn : ∀ c, D c → ∃ i, i < S.x.objs.length ∧ E.fp i c) (_hl : us.length = nn)
    (hx : XOk K ((E.ext S.x.nv us).foot fp pp) { S.x with objs := objs, nv := S.x.nv + nn } w') :
    Ok K ((E.ext S.x.nv us).foot fp pp) { S with x := { S.x with objs := objs, nv := S.x.nv + nn } } X w' := by
  have hle : E.Le ((E.ext S.x.nv us).foot fp pp) := by
    have := ext_le (us := us) h.x.vars
    exact ⟨this.rho, this.kap, this.var, this.fn⟩
  refine ⟨h.dom, fun b o ho => ?_, h.inj, h.kdom, fun q l hq => ?_, ?_, Nat.le_trans h.base hu.size, SR.mono hle _ _ h.stk, hx⟩
  · obtain ⟨c, x, h1, h2, h3, h4⟩ := h.obj b o ho
    refine ⟨c, x, h1, h2, ?_, OR.mono hle _ _ h4⟩
    rw [hu.block c (Array.getElem?_eq_some_iff.1 h3).1]
    · exact h3
    · intro hd
      obtain ⟨i, hi, hc⟩ := hn c hd
      exact (h.x.onam i b c hi h1).1 hc
  · obtain ⟨n, h1, h2⟩ := h.lb q l hq
    exact ⟨n, h1, h2⟩
  · refine ⟨hu.os.trans h.below.os, hu.tape.trans h.below.tape, hu.output.trans h.below.output, Nat.le_trans h.below.size hu.size, fun k hk => ?_⟩
    rw [hu.block k (Nat.lt_of_lt_of_le hk h.base)]
    · exact h.below.block k hk
    · intro hd
      obtain ⟨i, hi, hc⟩ := hn k hd
      have := (h.x.obnd i k hi hc).1
      omega

/-- What the objects are behind such a call. -/
theorem XOk.after {isI : Nat → Prop} [DecidablePred isI] {D RO D' R' : Nat → Prop} {Dn Rn : Nat → Nat → Prop} {us : List U} {objs news : List AOb} (h : XOk K E S.x w) (hb : K.n0 ≤ w.heap.size)
    (hu : Upto0 D w w') (hI : ∀ p, isI p → p < S.x.objs.length) (hI1 : ∀ p q, isI p → isI q → p = q)
    (hD : ∀ c, D c → ∃ p, isI p ∧ E.fp p c) (_hDI : ∀ p c, isI p → E.fp p c → D c) (hRO : ∀ c, RO c → ∃ p, p < S.x.objs.length ∧ E.pp p c)
    (dd : ∀ c, D' c → (D c ∨ w.heap.size ≤ c) ∧ c < w'.heap.size) (rr : ∀ c, R' c → (RO c ∨ w.heap.size ≤ c) ∧ c < w'.heap.size ∧ ¬ D' c)
    (dn : ∀ j c, Dn j c → w.heap.size ≤ c ∧ c < w'.heap.size ∧ ¬ D' c ∧ ¬ R' c ∧ ∀ k, k ≠ j → ¬ Dn k c)
    (rn : ∀ j c, Rn j c → (RO c ∨ w.heap.size ≤ c) ∧ c < w'.heap.size ∧ ¬ D' c ∧ ∀ k, ¬ Dn k c)
    (_hlen : objs.length = S.x.objs.length + news.length)
    (hold : ∀ p, p < S.x.objs.length → ¬ isI p → objs[p]? = S.x.objs[p]?)
    (hcur : ∀ p o, isI p → objs[p]? = some o → ∃ v gU, o.h.den (E.ext S.x.nv us) = some (.val v) ∧ dens (E.ext S.x.nv us) o.gs = some gU ∧ K.ob.obj o.kind v gU w' D' R')
    (hnew : ∀ p o, S.x.objs.length ≤ p → objs[p]? = some o → ∃ v gU, o.h.den (E.ext S.x.nv us) = some (.val v) ∧ dens (E.ext S.x.nv us) o.gs = some gU ∧ K.ob.obj o.kind v gU w' (Dn (p - S.x.objs.length)) (Rn (p - S.x.objs.length)))
    (hnam : ∀ b c, E.rho b = some c → c < w.heap.size) :
    XOk K ((E.ext S.x.nv us).foot (fun p => if isI p then D' else if p < S.x.objs.length then E.fp p else Dn (p - S.x.objs.length))
      (fun p => if isI p then R' else if p < S.x.objs.length then E.pp p else Rn (p - S.x.objs.length))) { S.x with objs := objs, nv := S.x.nv + us.length } w' := by
  have hle := ext_le (us := us) h.vars
  have hle' : ∀ t u, Tm.den E t = some u → Tm.den ((E.ext S.x.nv us).foot (fun p => if isI p then D' else if p < S.x.objs.length then E.fp p else Dn (p - S.x.objs.length))
      (fun p => if isI p then R' else if p < S.x.objs.length then E.pp p else Rn (p - S.x.objs.length))) t = some u := by
    intro t u ht
    rw [den_foot]
    exact Tm.den_mono hle _ _ ht
  have hles : ∀ t u, dens E t = some u → dens ((E.ext S.x.nv us).foot (fun p => if isI p then D' else if p < S.x.objs.length then E.fp p else Dn (p - S.x.objs.length))
      (fun p => if isI p then R' else if p < S.x.objs.length then E.pp p else Rn (p - S.x.objs.length))) t = some u := by
    intro t u ht
    rw [dens_foot]
    exact dens_mono hle _ _ ht
  have hDsz : ∀ c, D c → c < w.heap.size := fun c hc => by
    obtain ⟨p, hp, hc⟩ := hD c hc
    exact (h.obnd p c (hI p hp) hc).2
  have hROsz : ∀ c, RO c → c < w.heap.size := fun c hc => by
    obtain ⟨p, hp, hc⟩ := hRO c hc
    exact h.pbnd p c hp hc
  -- a written block of an older object
  have dOld : ∀ p c, p < S.x.objs.length → ¬ isI p → E.fp p c → ¬ D' c := fun p c hp hi hc hd => by
    rcases (dd c hd).1 with g | g
    · obtain ⟨q, hq, hqc⟩ := hD c g
      exact h.odis q p (hI q hq) hp (fun e => hi (e ▸ hq)) c hqc hc
    · have := (h.obnd p c hp hc).2; omega
  have roOld : ∀ p c, p < S.x.objs.length → E.fp p c → ¬ RO c := fun p c hp hc hr => by
    obtain ⟨q, hq, hqc⟩ := hRO c hr
    exact h.opp q p hq hp c hqc hc
  refine ⟨h.fn, fun p o ho => ?_, fun p q hp hq hpq c hc hc' => ?_, fun p q hp hq c hc hc' => ?_, fun p b c hp hbc => ?_, fun p c hp hc => ?_, fun p c hp hc => ?_, fun q hq => ?_, fun m hm => ?_, fun m u hm => ?_⟩
  · by_cases hi : isI p
    · obtain ⟨v, gU, h1, h2, h3⟩ := hcur p o hi ho
      refine ⟨v, gU, by rw [den_foot]; exact h1, by rw [dens_foot]; exact h2, ?_⟩
      dsimp only [Env.foot]; simp only [if_pos hi]; exact h3
    · by_cases hp : p < S.x.objs.length
      · rw [hold p hp hi] at ho
        obtain ⟨v, gU, h1, h2, h3⟩ := h.objs p o ho
        refine ⟨v, gU, hle' _ _ h1, hles _ _ h2, ?_⟩
        dsimp only [Env.foot]; simp only [if_neg hi, if_pos hp]
        refine K.ob.frame _ _ _ _ _ _ _ h3 fun c hc => hu.block c ?_ fun hd => ?_
        · rcases hc with hc | hc
          · exact (h.obnd p c hp hc).2
          · exact h.pbnd p c hp hc
        · obtain ⟨q, hq, hqc⟩ := hD c hd
          rcases hc with hc | hc
          · exact h.odis q p (hI q hq) hp (fun e => hi (e ▸ hq)) c hqc hc
          · exact h.opp p q hp (hI q hq) c hc hqc
      · obtain ⟨v, gU, h1, h2, h3⟩ := hnew p o (by omega) ho
        refine ⟨v, gU, by rw [den_foot]; exact h1, by rw [dens_foot]; exact h2, ?_⟩
        dsimp only [Env.foot]; simp only [if_neg hi, if_neg hp]; exact h3
  · dsimp only [Env.foot] at hp hq hc hc'
    by_cases hi : isI p
    · by_cases hj : isI q
      · exact hpq (hI1 p q hi hj)
      · simp only [if_pos hi] at hc
        simp only [if_neg hj] at hc'
        split at hc'
        · rename_i hq'; exact dOld q c hq' hj hc' hc
        · exact (dn _ c hc').2.2.1 hc
    · simp only [if_neg hi] at hc
      by_cases hj : isI q
      · simp only [if_pos hj] at hc'
        split at hc
        · rename_i hp'; exact dOld p c hp' hi hc hc'
        · exact (dn _ c hc).2.2.1 hc'
      · simp only [if_neg hj] at hc'
        split at hc <;> split at hc'
        · rename_i h1 h2; exact h.odis p q h1 h2 hpq c hc hc'
        · rename_i h1 h2
          have := (h.obnd p c h1 hc).2
          have := (dn _ c hc').1
          omega
        · rename_i h1 h2
          have := (h.obnd q c h2 hc').2
          have := (dn _ c hc).1
          omega
        · exact (dn _ c hc).2.2.2.2 _ (by omega) hc'
  · dsimp only [Env.foot] at hp hq hc hc'
    by_cases hj : isI q
    · simp only [if_pos hj] at hc'
      by_cases hi : isI p
      · simp only [if_pos hi] at hc
        exact (rr c hc).2.2 hc'
      · simp only [if_neg hi] at hc
        split at hc
        · rename_i h1
          rcases (dd c hc').1 with g | g
          · obtain ⟨q', hq', hqc⟩ := hD c g
            exact h.opp p q' h1 (hI q' hq') c hc hqc
          · have := h.pbnd p c h1 hc; omega
        · exact (rn _ c hc).2.2.1 hc'
    · simp only [if_neg hj] at hc'
      by_cases hi : isI p
      · simp only [if_pos hi] at hc
        split at hc'
        · rename_i h2
          rcases (rr c hc).1 with g | g
          · exact roOld q c h2 hc' g
          · have := (h.obnd q c h2 hc').2; omega
        · exact (dn _ c hc').2.2.2.1 hc
      · simp only [if_neg hi] at hc
        split at hc <;> split at hc'
        · rename_i h1 h2; exact h.opp p q h1 h2 c hc hc'
        · rename_i h1 h2
          have := h.pbnd p c h1 hc
          have := (dn _ c hc').1
          omega
        · rename_i h1 h2
          rcases (rn _ c hc).1 with g | g
          · exact roOld q c h2 hc' g
          · have := (h.obnd q c h2 hc').2; omega
        · exact (rn _ c hc).2.2.2 _ hc'
  · dsimp only at hp
    have hsz := hnam b c hbc
    refine ⟨fun hc => ?_, fun hc => ?_⟩
    · dsimp only [Env.foot] at hc
      split at hc
      · rcases (dd c hc).1 with g | g
        · obtain ⟨q, hq, hqc⟩ := hD c g
          exact (h.onam q b c (hI q hq) hbc).1 hqc
        · omega
      · split at hc
        · rename_i h1; exact (h.onam p b c h1 hbc).1 hc
        · have := (dn _ c hc).1; omega
    · dsimp only [Env.foot] at hc
      split at hc
      · rcases (rr c hc).1 with g | g
        · obtain ⟨q, hq, hqc⟩ := hRO c g
          exact (h.onam q b c hq hbc).2 hqc
        · omega
      · split at hc
        · rename_i h1; exact (h.onam p b c h1 hbc).2 hc
        · rcases (rn _ c hc).1 with g | g
          · obtain ⟨q, hq, hqc⟩ := hRO c g
            exact (h.onam q b c hq hbc).2 hqc
          · omega
  · dsimp only [Env.foot] at hp hc
    split at hc
    · refine ⟨?_, (dd c hc).2⟩
      rcases (dd c hc).1 with g | g
      · obtain ⟨q, hq, hqc⟩ := hD c g
        exact (h.obnd q c (hI q hq) hqc).1
      · omega
    · split at hc
      · rename_i h1
        have := h.obnd p c h1 hc
        have := hu.size
        omega
      · have := dn _ c hc
        omega
  · dsimp only [Env.foot] at hp hc
    split at hc
    · exact (rr c hc).2.1
    · split at hc
      · rename_i h1
        have := h.pbnd p c h1 hc
        have := hu.size
        omega
      · exact (rn _ c hc).2.1
  · exact hle' _ _ (h.conds q hq)
  · simp only [Env.foot, Env.ext] at hm
    split at hm
    · show m < S.x.nv + us.length
      omega
    · have : m - S.x.nv < us.length := by
        rcases Nat.lt_or_ge (m - S.x.nv) us.length with g | g
        · exact g
        · rw [List.getElem?_eq_none g] at hm; cases hm
      show m < S.x.nv + us.length
      omega
  · exact (ext_le h.vars).var _ _ (h.base _ _ hm)

theorem getElem?_set_append {α : Type} {l m : List α} {i p : Nat} {z : α} (hi : i < l.length) : (l.set i z ++ m)[p]? = if p = i then some z else if p < l.length then l[p]? else m[p - l.length]? := by
  by_cases h : p = i
  · subst h
    rw [if_pos rfl, List.getElem?_append_left (by simpa using hi)]
    simp [hi]
  · rw [if_neg h]
    by_cases hp : p < l.length
    · rw [if_pos hp, List.getElem?_append_left (by simpa using hp), List.getElem?_set_ne (by omega)]
    · rw [if_neg hp, List.getElem?_append_right (by simp; omega)]
      simp

end Go.Eng

namespace Go.Eng
open Go.RowKit

variable {P : Program} {K : Fix} {E F : Env} {S S' : St} {X : List (List Value)} {w w' : World} {a b v : AVal} {x y : Value} {t s : TypeId} {l r : List AVal} {xs : List Value} {i j n off f : Nat}

/-! ### the operations that change memory -/

def newVarA (S : St) (t : TypeId) (v : AVal) : AVal × St := (.ptr S.heap.length 0, anew S (.cells v.cells t (0, 0) none))

theorem newVarA_sound (h : Ok K E S X w) (hv : VR E v x) (ht : v ≠ .top) : ∃ y w' E', (do pure (.pointer (some (← newVar t x))) : Sem Value).run P w = .ok y w' ∧ VR E' (newVarA S t v).1 y ∧ Ok K E' (newVarA S t v).2 X w' ∧ E.Le E' := by
  obtain ⟨E', w', g1, g2, g3, g4⟩ := anew_sound (P := P) (o := .cells v.cells t (0, 0) none) (u := .cells x.cells t) h ⟨_, hv.cells ht, by simp⟩
  exact ⟨.pointer (some ⟨w.heap.size, 0, none⟩), w', E', by simp [newVar, newRow]; exact (Result.ok.inj g1).2, by simp only [VR, newVarA]; exact ⟨_, g3, rfl⟩, g4, g2⟩

/-- Zero cells, so many elements. -/
def azeros (z : Array Value) (k : Nat) : List AVal := ((Array.range k).map (z[· % z.size]!)).toList.map .lit

def abuildSlice (P : Program) (S : St) (t : TypeId) (len : Nat) (ps : List (Nat × AVal)) : Option (AVal × St) :=
  match P.underlying t with
  | some (.slice e) =>
    match P.info? e, still P (zeroValue e) with
    | some inf, some z =>
      if len * inf.size ≤ 65536 then
        match afill (fun i => some (i * inf.size, inf.size)) (azeros (if len * inf.size = 0 then #[] else z.cells) (len * inf.size)) ps with
        | some cs => some (.slice S.heap.length 0 len len none, anew S (.cells cs e (0, 0) none))
        | none => none
      else none
    | _, _ => none
  | _ => none

theorem abuildSlice_sound {len : Nat} {ps : List (Nat × AVal)} {qs : List (Nat × Value)} (h : Ok K E S X w) (hp : PR E ps qs) (hv : abuildSlice P S t len ps = some (v, S')) :
    ∃ y w' E', (Instr.buildSlice t len qs.toArray).run P w = .ok y w' ∧ VR E' v y ∧ Ok K E' S' X w' ∧ E.Le E' := by
  unfold abuildSlice at hv
  split at hv
  · rename_i e hu
    split at hv
    · rename_i inf z hi hz
      split at hv
      · rename_i hle
        split at hv
        · rename_i cs hcs
          simp only [Option.some.injEq, Prod.mk.injEq] at hv; obtain ⟨rfl, rfl⟩ := hv
          obtain ⟨ys, h1, h2⟩ := afill_sound hp (VRs.lits _) hcs
          obtain ⟨E', w', g1, g2, g3, g4⟩ := anew_sound (P := P) (o := .cells cs e (0, 0) none) (u := .cells ys.toArray e) h ⟨_, h2, rfl⟩
          refine ⟨.slice (some ⟨w.heap.size, 0, none⟩) len len, w', E', ?_, by simp only [VR]; exact ⟨_, len, g3, rfl, rfl⟩, g4, g2⟩
          have hng : ¬ (len * inf.size > 2 ^ 24) := by omega
          simp only [Array.toArray_toList] at h1
          simp only [Instr.buildSlice, Sem.run_bind, run_underlying' hu, Result.andThen_ok, run_sizeOf' hi, hng, if_false]
          by_cases h0 : len * inf.size = 0
          · simp only [if_pos h0] at h1 ⊢
            simp only [Sem.run_bind, Sem.run_pure, Result.andThen_ok, h1, newRow, g1]
          · simp only [if_neg h0] at h1 ⊢
            simp only [Sem.run_bind, still_run hz, Sem.run_pure, Result.andThen_ok, h1, newRow, g1]
        · simp at hv
      · simp at hv
    · simp at hv
  · simp at hv

def amakeMap (P : Program) (S : St) (t : TypeId) (r : Option AVal) : Option (AVal × St) :=
  match r with
  | none => some (.map S.heap.length, anew S (.map [] 0))
  | some (.lit (.int _ _)) =>
    match P.underlying t with
    | some (.map _ _) => some (.map S.heap.length, anew S (.map [] 0))
    | _ => none
  | _ => none

theorem amakeMap_sound {r : Option AVal} {u : Option Value} (h : Ok K E S X w) (hr : OptR E r u) (hv : amakeMap P S t r = some (v, S')) :
    ∃ y w' E', (Instr.makeMap t u).run P w = .ok y w' ∧ VR E' v y ∧ Ok K E' S' X w' ∧ E.Le E' := by
  obtain ⟨E', w', g1, g2, g3, g4⟩ := anew_sound (P := P) (o := .map [] 0) (u := .map #[] 0) h ⟨[], by simp only [ER], rfl⟩
  unfold amakeMap at hv
  split at hv
  · simp only [Option.some.injEq, Prod.mk.injEq] at hv; obtain ⟨rfl, rfl⟩ := hv
    cases hr
    exact ⟨.map (some w.heap.size), w', E', by simp [Instr.makeMap]; exact (Result.ok.inj g1).2, by simp only [VR]; exact ⟨_, g3, rfl⟩, g4, g2⟩
  · split at hv
    · rename_i hu
      simp only [Option.some.injEq, Prod.mk.injEq] at hv; obtain ⟨rfl, rfl⟩ := hv
      cases hr with
      | some hr =>
        simp only [VR] at hr; subst hr
        exact ⟨.map (some w.heap.size), w', E', by simp [Instr.makeMap, run_underlying' hu, asInt, asIntOf]; exact (Result.ok.inj g1).2, by simp only [VR]; exact ⟨_, g3, rfl⟩, g4, g2⟩
    · simp at hv
  · simp at hv

def amakeSlice (P : Program) (S : St) (t : TypeId) (l c : AVal) : Option (AVal × St) :=
  match l, c with
  | .lit (.int _ l), .lit (.int _ c) =>
    match P.underlying t with
    | some (.slice e) =>
      match P.info? e, still P (zeroValue e) with
      | some inf, some z =>
        if 0 ≤ IntKind.i64.wrap l ∧ IntKind.i64.wrap l ≤ IntKind.i64.wrap c ∧ (inf.bytes : Int) * IntKind.i64.wrap c ≤ 281474976710656 then
          some (.slice S.heap.length 0 (IntKind.i64.wrap l).toNat (IntKind.i64.wrap c).toNat none,
            anew S (.cells (azeros (if (IntKind.i64.wrap c).toNat * inf.size = 0 then #[] else z.cells) ((IntKind.i64.wrap c).toNat * inf.size)) e (0, 0) none))
        else none
      | _, _ => none
    | _ => none
  | _, _ => none

theorem amakeSlice_sound {p q : AVal} (h : Ok K E S X w) (hl : VR E p x) (hc : VR E q y) (hv : amakeSlice P S t p q = some (v, S')) :
    ∃ y' w' E', (Instr.makeSlice t x y).run P w = .ok y' w' ∧ VR E' v y' ∧ Ok K E' S' X w' ∧ E.Le E' := by
  unfold amakeSlice at hv
  split at hv
  · rename_i k1 l k2 c
    simp only [VR] at hl hc; subst hl; subst hc
    split at hv
    · rename_i e hu
      split at hv
      · rename_i inf z hi hz
        split at hv
        · rename_i hh
          obtain ⟨h1, h2, h3⟩ := hh
          simp only [Option.some.injEq, Prod.mk.injEq] at hv; obtain ⟨rfl, rfl⟩ := hv
          obtain ⟨E', w', g1, g2, g3, g4⟩ := anew_sound (P := P) (o := .cells (azeros (if (IntKind.i64.wrap c).toNat * inf.size = 0 then #[] else z.cells) ((IntKind.i64.wrap c).toNat * inf.size)) e (0, 0) none)
            (u := .cells ((Array.range ((IntKind.i64.wrap c).toNat * inf.size)).map ((if (IntKind.i64.wrap c).toNat * inf.size = 0 then #[] else z.cells)[· % (if (IntKind.i64.wrap c).toNat * inf.size = 0 then #[] else z.cells).size]!)) e) h ⟨_, VRs.lits _, by simp only [Array.toArray_toList]⟩
          refine ⟨.slice (some ⟨w.heap.size, 0, none⟩) _ _, w', E', ?_, by simp only [VR]; exact ⟨_, _, g3, rfl, rfl⟩, g4, g2⟩
          have c1 : ¬ (IntKind.i64.wrap c < 0) := by omega
          have c2 : ¬ ((inf.bytes : Int) * IntKind.i64.wrap c > 2 ^ 48) := by omega
          have c3 : ¬ (IntKind.i64.wrap l < 0) := by omega
          have c4 : ¬ (IntKind.i64.wrap l > IntKind.i64.wrap c) := by omega
          simp only [Instr.makeSlice, Sem.run_bind, run_underlying' hu, Result.andThen_ok, asInt, asIntOf, Sem.run_pure, run_typeInfo' hi, c1, c2, c3, c4, decide_false, Bool.or_self, Bool.false_eq_true, if_false, run_askRoom, run_sizeOf' hi]
          by_cases h0 : (IntKind.i64.wrap c).toNat * inf.size = 0
          · simp only [if_pos h0] at g1 ⊢
            simp only [Sem.run_bind, Sem.run_pure, Result.andThen_ok, newRow, g1]
          · simp only [if_neg h0] at g1 ⊢
            simp only [Sem.run_bind, still_run hz, Sem.run_pure, Result.andThen_ok, newRow, g1]
        · simp at hv
      · simp at hv
    · simp at hv
  · simp at hv

end Go.Eng

namespace Go.Eng
open Go.RowKit

variable {P : Program} {K : Fix} {E F : Env} {S S' : St} {X : List (List Value)} {w w' : World} {a b v : AVal} {x y : Value} {t s : TypeId} {l r : List AVal} {xs : List Value} {i j n off f : Nat}

/-! ### append, to a list that is an object -/

def snocs (g : Tm) : List (List Tm) → Tm
  | [] => g
  | r :: rs => snocs (.app 2 (g :: r)) rs

def chunks {α : Type} (sz : Nat) : Nat → List α → List (List α)
  | 0, _ => []
  | m + 1, l => l.take sz :: chunks sz m (l.drop sz)

def rowsTs (cols : List TK) : List (List AVal) → Option (List (List Tm))
  | [] => some []
  | c :: cs => match rowTs cols c, rowsTs cols cs with
    | some r, some rs => some (r :: rs)
    | _, _ => none

/-- Rows lie in a row. -/
def RowsAt (cols : List TK) (cs : Array Value) (off : Nat) (l : List (List Int)) : Prop :=
  ∀ (i : Nat) row, l[i]? = some row → colWfs cols row = true ∧ ∀ c, c < cols.length → cs[off + i * cols.length + c]? = (colVs cols row)[c]?

theorem rowsTs_sound {cols : List TK} : ∀ {m : Nat} {cs : List AVal} {vs : List Value} {rs : List (List Tm)} {g : Tm} {l : List (List Int)}, cs.length = m * cols.length → VRs E cs vs → rowsTs cols (chunks cols.length m cs) = some rs → g.den E = some (.rows l) →
    ∃ Z : List (List Int), Z.length = m ∧ (snocs g rs).den E = some (.rows (l ++ Z)) ∧ RowsAt cols vs.toArray 0 Z
  | 0, cs, vs, rs, g, l, hl, hv, h, hg => by
    simp only [chunks, rowsTs, Option.some.injEq] at h; subst h
    exact ⟨[], rfl, by simpa [snocs] using hg, fun i row hi => by simp at hi⟩
  | m + 1, cs, vs, rs, g, l, hl, hv, h, hg => by
    simp only [chunks, rowsTs] at h
    split at h
    · rename_i r rs' h1 h2
      obtain rfl := Option.some.inj h
      obtain ⟨us, zs, e1, e2, e3, e4⟩ := rowTs_sound h1 (hv.take cols.length)
      have hg' : (Tm.app 2 (g :: r)).den E = some (.rows (l ++ [zs])) := by
        simp only [Tm.den, dens, hg, e1, appF, e2, Option.map_some]
      have hl1 : (cs.drop cols.length).length = m * cols.length := by
        simp only [List.length_drop, hl, Nat.succ_mul]; omega
      obtain ⟨Z, k1, k2, k3⟩ := rowsTs_sound hl1 (hv.drop cols.length) h2 hg'
      refine ⟨zs :: Z, by simp [k1], by simpa [snocs] using k2, fun i row hi => ?_⟩
      have hvl : vs.length = (m + 1) * cols.length := by rw [← hv.length, hl]
      cases i with
      | zero =>
        simp at hi; subst hi
        refine ⟨e3, fun c hc => ?_⟩
        rw [e4]
        simp only [Nat.zero_mul, Nat.zero_add, List.getElem?_toArray]
        rw [List.getElem?_take_of_lt hc]
      | succ i =>
        simp at hi
        obtain ⟨g1, g2⟩ := k3 i row hi
        refine ⟨g1, fun c hc => ?_⟩
        rw [← g2 c hc]
        simp only [List.getElem?_toArray, List.getElem?_drop, Nat.zero_add]
        congr 1
        rw [Nat.succ_mul]; omega
    · cases h

/-- A list among the objects that may be written. -/
def ownOf (G : Glb) (h : Tm) : List AOb → Nat → Option (Nat × Nat × List TK × Tm)
  | [], _ => none
  | o :: l, i => match G.fmt o.kind, beqT o.h h, o.gs with
    | .list cols true, true, [g] => some (i, o.kind, cols, g)
    | _, _, _ => ownOf G h l (i + 1)

theorem ownOf_sound {G : Glb} {h : Tm} : ∀ {objs : List AOb} {i j κ : Nat} {cols : List TK} {g : Tm}, ownOf G h objs i = some (j, κ, cols, g) →
    i ≤ j ∧ objs[j - i]? = some ⟨κ, h, [g]⟩ ∧ G.fmt κ = .list cols true
  | [], i, j, κ, cols, g, hm => by simp [ownOf] at hm
  | o :: l, i, j, κ, cols, g, hm => by
    unfold ownOf at hm
    split at hm
    · rename_i cols' g' h1 h2 h3
      simp only [Option.some.injEq, Prod.mk.injEq] at hm
      obtain ⟨rfl, rfl, rfl, rfl⟩ := hm
      refine ⟨Nat.le_refl _, ?_, h1⟩
      have := beqT_eq _ _ h2
      cases o
      simp only at this h3
      simp [this, h3]
    · obtain ⟨g1, g2, g3⟩ := ownOf_sound hm
      refine ⟨by omega, ?_, g3⟩
      have : j - i = (j - (i + 1)) + 1 := by omega
      rw [this]; simpa using g2

def aappendS (P : Program) (G : Glb) (S : St) (ats : List TypeId) (s x : AVal) : Option (List (AVal × St)) :=
  if S.x.nv = 0 then none else
  match ats with
  | [t, t'] =>
    match P.underlying t with
    | some (.slice e) =>
      match P.info? e, still P (zeroValue e) with
      | some inf, some z =>
        if srcOk P t' = true ∧ z.cells.size = inf.size ∧ inf.bytes ≤ 1024 then
          match asrc S inf.size x with
          | none => none
          | some (m, cs) =>
            if 1 ≤ m ∧ m ≤ 1000 then
              match s with
              | .lit (.slice none 0 0) =>
                match G.lkind t with
                | some κ => match G.fmt κ with
                  | .list cols true => if cols.length = inf.size then
                      (match rowsTs cols (chunks cols.length m cs) with
                      | some rs => some [(.tm .any (.var S.x.nv), { S with x := { S.x with objs := S.x.objs ++ [⟨κ, .var S.x.nv, [snocs (.rows []) rs]⟩], nv := S.x.nv + 1 } })]
                      | none => none) else none
                  | _ => none
                | none => none
              | .tm .any h =>
                match ownOf G h S.x.objs 0 with
                | some (i, κ, cols, g) => if cols.length = inf.size ∧ known S.x.conds (.bin .lt (.un .len g) (.int 1000000)) = some true then
                    (match rowsTs cols (chunks cols.length m cs) with
                    | some rs => some [(.tm .any (.var S.x.nv), { S with x := { S.x with objs := S.x.objs.set i ⟨κ, .var S.x.nv, [snocs g rs]⟩, nv := S.x.nv + 1 } })]
                    | none => none) else none
                | none => none
              | _ => none
            else none
        else none
      | _, _ => none
    | _ => none
  | _ => none

theorem snocs_den {E F : Env} (h : E.Le F) : ∀ {rs : List (List Tm)} {g : Tm} {u : U}, (snocs g rs).den E = some u → (snocs g rs).den F = some u := fun hu => Tm.den_mono h _ _ hu

/-- Rows behind rows. -/
theorem RowsAt.app {cols : List TK} {l Z : List (List Int)} {A : Array Value} {off : Nat} (h1 : RowsAt cols A off l) (h2 : RowsAt cols A (off + l.length * cols.length) Z) : RowsAt cols A off (l ++ Z) := by
  intro i row hi
  by_cases h : i < l.length
  · rw [List.getElem?_append_left h] at hi
    exact h1 i row hi
  · rw [List.getElem?_append_right (by omega)] at hi
    obtain ⟨g1, g2⟩ := h2 _ row hi
    refine ⟨g1, fun c hc => ?_⟩
    rw [← g2 c hc]
    congr 1
    have : l.length * cols.length + (i - l.length) * cols.length = i * cols.length := by
      rw [← Nat.add_mul]; congr 1; omega
    omega

theorem RowsAt.congr {cols : List TK} {l : List (List Int)} {A B : Array Value} {off off' : Nat} (h : RowsAt cols A off l) (he : ∀ j, j < l.length * cols.length → B[off' + j]? = A[off + j]?) : RowsAt cols B off' l := by
  intro i row hi
  obtain ⟨g1, g2⟩ := h i row hi
  refine ⟨g1, fun c hc => ?_⟩
  have hil := (List.getElem?_eq_some_iff.1 hi).1
  have hlt : i * cols.length + c < l.length * cols.length := by
    have := Nat.mul_le_mul_right cols.length (show i + 1 ≤ l.length by omega)
    rw [Nat.succ_mul] at this; omega
  rw [← g2 c hc, Nat.add_assoc, Nat.add_assoc]
  exact he _ hlt

theorem aappendS_sound {ats : Array TypeId} {ty : TypeId} {u : AVal} {p : Value} {outs : List (AVal × St)} (h : Ok K E S X w) (ha : VR E a p) (hu : VR E u x) (hv : aappendS P K S ats.toList a u = some outs) :
    ∃ v S' y' w' E', (v, S') ∈ outs ∧ (Builtin.append_ ats ty #[p, x]).run P w = .ok y' w' ∧ VR E' v y' ∧ Ok K E' S' X w' ∧ E.Le E' := by
  unfold aappendS at hv
  split at hv
  · cases hv
  split at hv
  rotate_left
  · cases hv
  rename_i t t' hats
  have hats : ats = #[t, t'] := by rw [← hats]
  subst hats
  split at hv
  rotate_left
  · cases hv
  rename_i e hut
  split at hv
  rotate_left
  · cases hv
  rename_i inf z hi hz
  split at hv
  rotate_left
  · cases hv
  rename_i hh
  obtain ⟨hsrc, hzs, hbytes⟩ := hh
  split at hv
  · cases hv
  rename_i m cs hcs
  obtain ⟨vs, rvs, hl0, hn0, hlen⟩ := asrc_sound (P := P) h hu hcs
  have hvl : (vs.take (m * inf.size)) = vs := by rw [List.take_of_length_le]; rw [← rvs.length, hlen]; exact Nat.le_refl _
  have hnd : ∀ d, (Builtin.firstCells inf.size m x).run P { w with drawn := d } = .ok vs.toArray { w with drawn := d } := fun d => by
    have := hn0 d m (Nat.le_refl _); rwa [hvl] at this
  have hlw : (Builtin.lenOf x).run P w = .ok m w := hl0 w.drawn
  have hnw : (Builtin.firstCells inf.size m x).run P w = .ok vs.toArray w := hnd w.drawn
  have hvs : vs.length = m * inf.size := by rw [← rvs.length, hlen]
  split at hv
  rotate_left
  · cases hv
  rename_i hm
  -- what is left, where the list is known in memory
  have main : ∀ (base : Option Addr) (n cap : Nat) (old : List Value) (isI : Nat → Prop) [DecidablePred isI] (D : Nat → Prop) (κ : Nat) (cols : List TK) (objs' : List AOb) (g : Tm) (rs : List (List Tm)) (l : List (List Int)),
      n = l.length → old.length = n * inf.size → n ≤ 1000000 → cols.length = inf.size → K.ob.fmt κ = .list cols true → rowsTs cols (chunks cols.length m cs) = some rs → g.den E = some (.rows l) →
      (∀ d, (Builtin.firstCells inf.size n (.slice base n cap)).run P { w with drawn := d } = .ok old.toArray { w with drawn := d }) → RowsAt cols old.toArray 0 l →
      (n + m ≤ cap → ∃ b off cs' e', base = some ⟨b, off, none⟩ ∧ cap ≤ 9223372036854775807 ∧ w.heap[b]? = some (.cells cs' e' (0, 0)) ∧ off + cap * cols.length ≤ cs'.size ∧ D b ∧ RowsAt cols cs' off l) →
      (∀ p, isI p → p < S.x.objs.length) → (∀ p q, isI p → isI q → p = q) → (∀ c, D c → ∃ p, isI p ∧ E.fp p c) → (∀ p c, isI p → E.fp p c → D c) →
      (∀ p, p < S.x.objs.length → ¬ isI p → objs'[p]? = S.x.objs[p]?) →
      ((∃ p, isI p ∧ objs'.length = S.x.objs.length ∧ objs'[p]? = some ⟨κ, .var S.x.nv, [snocs g rs]⟩) ∨ ((∀ p, ¬ isI p) ∧ cap = 0 ∧ objs'.length = S.x.objs.length + 1 ∧ objs'[S.x.objs.length]? = some ⟨κ, .var S.x.nv, [snocs g rs]⟩)) →
      outs = [(.tm .any (.var S.x.nv), { S with x := { S.x with objs := objs', nv := S.x.nv + 1 } })] →
      ∃ v S' y' w' E', (v, S') ∈ outs ∧ (Builtin.append_ #[t, t'] ty #[.slice base n cap, x]).run P w = .ok y' w' ∧ VR E' v y' ∧ Ok K E' S' X w' ∧ E.Le E' := by
    intro base n cap old isI _ D κ cols objs' g rs l hnl hol hnb hcl hfmt hrs hg hof hro hroom hI hI1 hD hDI hold hobjs houts
    obtain ⟨Z, z1, z2, z3⟩ := rowsTs_sound (by rw [hlen, hcl]) rvs hrs hg
    -- the step, once the new block and the value are known
    have fin : ∀ (w' : World) (y' : Value) (D' : Nat → Prop), Upto0 D w w' → (∀ c, D' c → (D c ∨ w.heap.size ≤ c) ∧ c < w'.heap.size) → ((∀ p, ¬ isI p) → ∀ c, D' c → w.heap.size ≤ c) → ListR cols true y' [.rows (l ++ Z)] w' D' (fun _ => False) →
        (∃ ad nn cc, y' = .slice ad nn cc) → (Builtin.append_ #[t, t'] ty #[.slice base n cap, x]).run P w = .ok y' w' →
        ∃ v S' y' w' E', (v, S') ∈ outs ∧ (Builtin.append_ #[t, t'] ty #[.slice base n cap, x]).run P w = .ok y' w' ∧ VR E' v y' ∧ Ok K E' S' X w' ∧ E.Le E' := by
      intro w' y' D' hup hdd hdn hlist hsl hrun
      obtain ⟨ad, nn, cc, rfl⟩ := hsl
      have hle := ext_le (us := [U.val (.slice ad nn cc)]) h.x.vars
      have hvar : (Tm.var S.x.nv).den (E.ext S.x.nv [U.val (.slice ad nn cc)]) = some (.val (.slice ad nn cc)) := by
        simp [Tm.den, Env.ext]
      have hgs : dens (E.ext S.x.nv [U.val (.slice ad nn cc)]) [snocs g rs] = some [.rows (l ++ Z)] := by
        simp only [dens, snocs_den hle z2]
      have hobj : ∀ D0 R0, ListR cols true (.slice ad nn cc) [.rows (l ++ Z)] w' D0 R0 → K.ob.obj κ (.slice ad nn cc) [.rows (l ++ Z)] w' D0 R0 := by
        intro D0 R0 hh
        unfold Objs.obj
        rw [hfmt]; exact hh
      rcases hobjs with ⟨p, hp, hlen', hget⟩ | ⟨hno, hcap, hlen', hget⟩
      · have hx := h.x.after (isI := isI) (D := D) (RO := fun _ => False) (D' := D') (R' := fun _ => False) (Dn := fun _ _ => False) (Rn := fun _ _ => False) (us := [U.val (.slice ad nn cc)]) (objs := objs') (news := []) h.base hup hI hI1 hD hDI
          (fun c hc => hc.elim) hdd (fun c hc => hc.elim) (fun j c hc => hc.elim) (fun j c hc => hc.elim) (by simpa using hlen') hold
          (fun q o hq ho => by
            have := hI1 q p hq hp
            subst this
            rw [hget] at ho
            obtain rfl := Option.some.inj ho
            exact ⟨_, _, hvar, hgs, hobj _ _ hlist⟩)
          (fun q o hq ho => by
            have := (List.getElem?_eq_some_iff.1 ho).1
            omega)
          (fun b c hb => h.lt hb)
        have hres := h.after (D := D) (nn := 1) hup (fun c hc => by obtain ⟨q, h1, h2⟩ := hD c hc; exact ⟨q, hI q h1, h2⟩) rfl hx
        refine ⟨_, _, _, w', _, by rw [houts]; exact List.mem_singleton.2 rfl, hrun, ?_, hres, ⟨hle.rho, hle.kap, hle.var, hle.fn⟩⟩
        refine VR.foot ?_
        simp only [VR]
        exact ⟨hvar, rfl, rfl⟩
      · have hx := h.x.after (isI := isI) (D := D) (RO := fun _ => False) (D' := fun _ => False) (R' := fun _ => False) (Dn := fun j c => j = 0 ∧ D' c) (Rn := fun _ _ => False) (us := [U.val (.slice ad nn cc)]) (objs := objs') (news := [⟨κ, .var S.x.nv, [snocs g rs]⟩]) h.base hup hI hI1 hD hDI
          (fun c hc => hc.elim) (fun c hc => hc.elim) (fun c hc => hc.elim) (fun j c hc => ⟨hdn hno c hc.2, (hdd c hc.2).2, fun h => h, fun h => h, fun k hk hc' => hk (hc'.1.trans hc.1.symm)⟩) (fun j c hc => hc.elim) (by simpa using hlen') hold
          (fun q o hq ho => (hno q hq).elim)
          (fun q o hq ho => by
            have hql := (List.getElem?_eq_some_iff.1 ho).1
            have : q = S.x.objs.length := by omega
            subst this
            rw [hget] at ho
            obtain rfl := Option.some.inj ho
            refine ⟨_, _, hvar, hgs, ?_⟩
            have hD0 : (fun c => S.x.objs.length - S.x.objs.length = 0 ∧ D' c) = D' := by
              funext c; simp
            rw [hD0]
            exact hobj _ _ hlist)
          (fun b c hb => h.lt hb)
        have hres := h.after (D := D) (nn := 1) hup (fun c hc => by obtain ⟨q, h1, h2⟩ := hD c hc; exact ⟨q, hI q h1, h2⟩) rfl hx
        refine ⟨_, _, _, w', _, by rw [houts]; exact List.mem_singleton.2 rfl, hrun, ?_, hres, ⟨hle.rho, hle.kap, hle.var, hle.fn⟩⟩
        refine VR.foot ?_
        simp only [VR]
        exact ⟨hvar, rfl, rfl⟩
    have hZl : (l ++ Z).length = n + m := by simp [z1, hnl]
    by_cases hle : n + m ≤ cap
    · obtain ⟨b, off, cs', e', rfl, k1, k2, k3, k4, k5⟩ := hroom hle
      have hb := (Array.getElem?_eq_some_iff.1 k2).1
      have hsp : off + n * inf.size + 0 + vs.length ≤ cs'.size := by
        have : (n + m) * cols.length ≤ cap * cols.length := Nat.mul_le_mul_right _ hle
        rw [Nat.add_mul, hcl] at this
        rw [hcl] at k3
        omega
      have hone : ∀ v ∈ vs, v.oneCell' = true := by
        intro v hv
        obtain ⟨j, hj⟩ := List.getElem?_of_mem hv
        have hjl := (List.getElem?_eq_some_iff.1 hj).1
        have hcp : 0 < cols.length := by
          rcases Nat.eq_zero_or_pos cols.length with h0 | h0
          · rw [hvs, ← hcl, h0, Nat.mul_zero] at hjl; omega
          · exact h0
        have hdiv : j / cols.length < Z.length := by
          rw [z1, Nat.div_lt_iff_lt_mul hcp, hcl, ← hvs]; exact hjl
        obtain ⟨g1, g2⟩ := z3 (j / cols.length) _ (List.getElem?_eq_getElem hdiv)
        have hmod := Nat.mod_lt j hcp
        have hj2 := g2 (j % cols.length) hmod
        rw [Nat.zero_add, show j / cols.length * cols.length + j % cols.length = j by rw [Nat.mul_comm]; exact Nat.div_add_mod ..] at hj2
        simp only [List.getElem?_toArray] at hj2
        rw [hj] at hj2
        obtain ⟨zz, q1, q2, q3⟩ := colWfs_get g1 (List.getElem?_eq_getElem hmod)
        rw [← hj2] at q3
        cases hq : cols[j % cols.length] with
        | int k => rw [hq] at q3; simp only [colV, Option.some.injEq] at q3; rw [q3]; rfl
        | bool => rw [hq] at q3; simp only [colV, Option.some.injEq] at q3; rw [q3]; rfl
        | raw k => rw [hq] at q2; simp [colWf] at q2
        | str => rw [hq] at q2; simp [colWf] at q2
        | ptr => rw [hq] at q2; simp [colWf] at q2
        | any => rw [hq] at q2; simp [colWf] at q2
      have hst := run_storeCells_row (P := P) (c := b) (p := off + n * inf.size) (e := e') (fz := (0, 0)) vs 0 cs' w k2 hsp (fun j _ _ => by simp) hone
      have hrun := run_append_fits (P := P) (ty := ty) (base := some ⟨b, off, none⟩) (w' := _) hut (srcOk_sound hsrc) hi hlw hnw hle (by simp only [add_plain]; exact hst)
      refine fin { w with heap := w.heap.setIfInBounds b (.cells (cs'.toList.take (off + n * inf.size + 0) ++ vs ++ cs'.toList.drop (off + n * inf.size + 0 + vs.length)).toArray e' (0, 0)) } _ D ⟨rfl, rfl, rfl, by simp, fun k hk hd => ?_⟩ (fun c hc => ⟨.inl hc, ?_⟩) (fun hno c hc => ?_) ?_ ⟨_, _, _, rfl⟩ hrun
      · have : b ≠ k := by rintro rfl; exact hd k4
        simp only [Array.getElem?_setIfInBounds]
        rw [if_neg this]
      · obtain ⟨p, h1, h2⟩ := hD c hc
        have := (h.x.obnd p c (hI p h1) h2).2
        simpa using this
      · obtain ⟨p, h1, _⟩ := hD c hc
        exact (hno p h1).elim
      · refine ⟨l ++ Z, rfl, .inr ⟨b, off, cap, _, e', by rw [hZl], by rw [hZl]; exact hle, k1, by rw [Array.getElem?_setIfInBounds, if_pos rfl, if_pos hb], ?_, .inl ⟨rfl, k4⟩, ?_⟩⟩
        · simp only [List.size_toArray, List.length_append, List.length_take, List.length_drop, Array.length_toList]
          omega
        · have hT : (cs'.toList.take (off + n * inf.size + 0)).length = off + n * inf.size := by
            rw [List.length_take, Array.length_toList]; omega
          have hTv : (cs'.toList.take (off + n * inf.size + 0) ++ vs).length = off + n * inf.size + vs.length := by
            rw [List.length_append, hT]
          refine RowsAt.app (RowsAt.congr k5 fun j hj => ?_) (RowsAt.congr z3 fun j hj => ?_)
          · rw [← hnl, hcl] at hj
            rw [List.getElem?_toArray, List.getElem?_append_left (by rw [hTv]; omega), List.getElem?_append_left (by rw [hT]; omega), List.getElem?_take_of_lt (by omega), Array.getElem?_toList]
          · rw [z1, hcl, ← hvs] at hj
            rw [← hnl, hcl]
            rw [List.getElem?_toArray, List.getElem?_append_left (by rw [hTv]; omega), List.getElem?_append_right (by rw [hT]; omega), hT]
            simp only [List.getElem?_toArray, Nat.zero_add]
            congr 1
            omega
    · obtain ⟨k, hk, hkm, hrun⟩ := run_append_grow (P := P) (ty := ty) (base := base) (old := old.toArray) (new := vs.toArray) hut (srcOk_sound hsrc) hi (still_run hz) hl0 hof hnd (by omega) (by omega) (by
        have : (2 * (n + m) + 192) * inf.bytes ≤ (2 * (1000000 + 1000) + 192) * 1024 := Nat.mul_le_mul (by omega) hbytes
        omega)
      refine fin { w with drawn := w.drawn + 1, heap := w.heap.push (.cells (old.toArray ++ vs.toArray ++ Builtin.zeroCells z.cells (k - (n + m))) e) } _ (fun c => c = w.heap.size) ⟨rfl, rfl, rfl, by simp, fun q hq _ => ?_⟩ (fun c hc => ⟨.inr (by omega), by show c < (w.heap.push _).size; rw [Array.size_push]; omega⟩) (fun _ c hc => by omega) ?_ ⟨_, _, _, rfl⟩ hrun
      · simp only [Array.getElem?_push]
        rw [if_neg (by omega)]
      · refine ⟨l ++ Z, rfl, .inr ⟨w.heap.size, 0, k, _, e, by rw [hZl], by rw [hZl]; exact hk, hkm, by rw [Array.getElem?_push, if_pos rfl], ?_, .inl ⟨rfl, rfl⟩, ?_⟩⟩
        · have e3 : (Builtin.zeroCells z.cells (k - (n + m))).size = (k - (n + m)) * inf.size := by simp [Builtin.zeroCells, hzs]
          simp only [Array.size_append, List.size_toArray, e3, hol, hvs, hcl, Nat.zero_add]
          rw [← Nat.add_mul, ← Nat.add_mul]
          exact Nat.mul_le_mul_right _ (by omega)
        · have hsz : (old.toArray ++ vs.toArray).size = (n + m) * inf.size := by simp [hol, hvs, Nat.add_mul]
          refine RowsAt.app (RowsAt.congr hro fun j hj => ?_) (RowsAt.congr z3 fun j hj => ?_)
          · rw [← hnl, hcl] at hj
            simp only [Nat.zero_add]
            rw [Array.getElem?_append_left (by rw [hsz, Nat.add_mul]; omega), Array.getElem?_append_left (by simp; omega)]
          · rw [z1, hcl] at hj
            simp only [Nat.zero_add]
            rw [← hnl, hcl]
            rw [Array.getElem?_append_left (by rw [hsz, Nat.add_mul]; omega), Array.getElem?_append_right (by simp; omega)]
            congr 1
            simp; omega
  split at hv
  · simp only [VR] at ha; subst ha
    split at hv
    rotate_left
    · cases hv
    rename_i κ hκ
    split at hv
    rotate_left
    · cases hv
    rename_i cols hfmt
    split at hv
    rotate_left
    · cases hv
    rename_i hcl
    split at hv
    rotate_left
    · cases hv
    rename_i rs hrs
    refine main none 0 0 [] (fun _ => False) (fun _ => False) κ cols _ (.rows []) rs [] rfl (by simp) (by omega) hcl hfmt hrs rfl (fun d => by simp [Builtin.firstCells]) (fun i row hi => by simp at hi) (fun hle => by omega)
      (fun p hp => hp.elim) (fun p q hp => hp.elim) (fun c hc => hc.elim) (fun p c hp => hp.elim) (fun p hp _ => ?_) (.inr ⟨fun p hp => hp, rfl, by simp, ?_⟩) (Option.some.inj hv).symm
    · rw [List.getElem?_append_left hp]
    · rw [List.getElem?_append_right (Nat.le_refl _)]; simp
  · rename_i hh
    split at hv
    rotate_left
    · cases hv
    rename_i i κ cols g hown
    split at hv
    rotate_left
    · cases hv
    rename_i hc
    obtain ⟨hcl, hkn⟩ := hc
    split at hv
    rotate_left
    · cases hv
    rename_i rs hrs
    obtain ⟨_, h1, hfmt⟩ := ownOf_sound hown
    simp only [Nat.sub_zero] at h1
    have hi' := (List.getElem?_eq_some_iff.1 h1).1
    obtain ⟨v0, gs, e1, e2, e3⟩ := h.x.objs i _ h1
    have hfmt' : K.ob.fmt κ = .list cols true := hfmt
    unfold Objs.obj at e3
    simp only [hfmt'] at e3
    simp only [VR] at ha
    have hpe := ha.1
    rw [e1] at hpe
    simp only [Option.some.injEq, U.val.injEq] at hpe
    subst hpe
    obtain ⟨l, rfl, hl⟩ := e3
    have hg : g.den E = some (.rows l) := by
      simp only [dens] at e2
      split at e2
      · rename_i x1 x2 hx1 hx2
        simp only [Option.some.injEq, List.cons.injEq] at e2
        rw [e2.1] at hx1; exact hx1
      · cases e2
    have hlb : l.length ≤ 1000000 := by
      have := known_sound (r := decide ((l.length : Int) < 1000000)) h.x.conds hkn (by simp only [Tm.den, hg, TUn.den, TOp.den])
      have := of_decide_eq_true this
      omega
    rcases hl with ⟨rfl, rfl⟩ | ⟨b, off, cap, cs', e', rfl, k1, k2, k3, k4, k5, k6⟩
    · refine main none 0 0 [] (fun p => p = i) (E.fp i) κ cols _ g rs [] rfl (by simp) (by omega) hcl hfmt' hrs hg (fun d => by simp [Builtin.firstCells]) (fun i row hi => by simp at hi) (fun hle => by omega)
        (fun p hp => by rw [hp]; exact hi') (fun p q hp hq => by rw [hp, hq]) (fun c hc => ⟨i, rfl, hc⟩) (fun p c hp hc => by rw [hp] at hc; exact hc) (fun p hp hne => ?_) (.inl ⟨i, rfl, by simp, by simp [hi']⟩) (Option.some.inj hv).symm
      rw [List.getElem?_set_ne (fun h => hne h.symm)]
    · have hDb : E.fp i b := by
        rcases k5 with ⟨_, k5⟩ | ⟨k5, _⟩
        · exact k5
        · cases k5
      have hfit : l.length * inf.size ≤ cap * cols.length := by rw [hcl]; exact Nat.mul_le_mul_right _ k1
      have hold : ∀ d, (Builtin.firstCells inf.size l.length (.slice (some ⟨b, off, none⟩) l.length cap)).run P { w with drawn := d } = .ok ((cs'.toList.drop off).take (l.length * inf.size)).toArray { w with drawn := d } := by
        intro d
        have hlen1 : ((cs'.toList.drop off).take (l.length * inf.size)).length = l.length * inf.size := by simp; omega
        have hlc := run_loadCells (P := P) (w := { w with drawn := d }) (a := ⟨b, off, none⟩) ((cs'.toList.drop off).take (l.length * inf.size)) (fun j hj => by
          show w.cell? _ = _
          rw [add_plain]
          simp only [World.cell?, k3]
          rw [List.getElem?_take_of_lt (by omega), List.getElem?_drop, Array.getElem?_toList]
          rfl)
        rw [hlen1] at hlc
        exact hlc
      refine main (some ⟨b, off, none⟩) l.length cap ((cs'.toList.drop off).take (l.length * inf.size)) (fun p => p = i) (E.fp i) κ cols _ g rs l rfl (by simp; omega) hlb hcl hfmt' hrs hg hold ?_ (fun _ => ⟨b, off, cs', e', rfl, k2, k3, k4, hDb, k6⟩)
        (fun p hp => by rw [hp]; exact hi') (fun p q hp hq => by rw [hp, hq]) (fun c hc => ⟨i, rfl, hc⟩) (fun p c hp hc => by rw [hp] at hc; exact hc) (fun p hp hne => ?_) (.inl ⟨i, rfl, by simp, by simp [hi']⟩) (Option.some.inj hv).symm
      · refine RowsAt.congr k6 fun j hj => ?_
        rw [hcl] at hj
        rw [List.getElem?_toArray, Nat.zero_add, List.getElem?_take_of_lt hj, List.getElem?_drop, Array.getElem?_toList]
      · rw [List.getElem?_set_ne (fun h => hne h.symm)]
  · cases hv

end Go.Eng

namespace Go.Eng
open Go.RowKit

variable {P : Program} {K : Fix} {E F : Env} {S S' : St} {X : List (List Value)} {w w' : World} {a b v : AVal} {x y : Value} {t s : TypeId} {l r : List AVal} {xs : List Value} {i j n off f : Nat}

/-! ### a map that is made, as an object; a cell of a list's element that is stored -/

def amakeMapS (P : Program) (G : Glb) (S : St) (t : TypeId) (r : Option AVal) : Option (AVal × St) :=
  if S.x.nv = 0 then none else
  match G.mkind t with
  | none => none
  | some κ => match G.fmt κ with
    | .map _ _ _ =>
      (match r with
      | none => some (.tm .any (.var S.x.nv), { S with x := { S.x with objs := S.x.objs ++ [⟨κ, .var S.x.nv, [.rows []]⟩], nv := S.x.nv + 1 } })
      | some (.lit (.int _ _)) => match P.underlying t with
        | some (.map _ _) => some (.tm .any (.var S.x.nv), { S with x := { S.x with objs := S.x.objs ++ [⟨κ, .var S.x.nv, [.rows []]⟩], nv := S.x.nv + 1 } })
        | _ => none
      | _ => none)
    | _ => none

theorem newMap_ok {κ : Nat} {q : IntKind} {cols : List TK} {sg : Bool} (h : Ok K E S X w) (hf : K.ob.fmt κ = .map q cols sg) :
    ∃ E', VR E' (.tm .any (.var S.x.nv)) (.map (some w.heap.size)) ∧ Ok K E' { S with x := { S.x with objs := S.x.objs ++ [⟨κ, .var S.x.nv, [.rows []]⟩], nv := S.x.nv + 1 } } X { w with heap := w.heap.push (.map #[] 0) } ∧ E.Le E' := by
  have hle := ext_le (us := [U.val (.map (some w.heap.size))]) h.x.vars
  have hvar : (Tm.var S.x.nv).den (E.ext S.x.nv [U.val (.map (some w.heap.size))]) = some (.val (.map (some w.heap.size))) := by
    simp [Tm.den, Env.ext]
  have hup : Upto0 (fun _ => False) w { w with heap := w.heap.push (.map #[] 0) } := ⟨rfl, rfl, rfl, by simp, fun k hk _ => by
    simp only [Array.getElem?_push]; rw [if_neg (by omega)]⟩
  have hx := h.x.after (isI := fun _ => False) (D := fun _ => False) (RO := fun _ => False) (D' := fun _ => False) (R' := fun _ => False) (Dn := fun j c => j = 0 ∧ c = w.heap.size) (Rn := fun _ _ => False) (us := [U.val (.map (some w.heap.size))])
    (objs := S.x.objs ++ [⟨κ, .var S.x.nv, [.rows []]⟩]) (news := [⟨κ, .var S.x.nv, [.rows []]⟩]) h.base hup (fun p hp => hp.elim) (fun p q hp => hp.elim) (fun c hc => hc.elim) (fun p c hp => hp.elim)
    (fun c hc => hc.elim) (fun c hc => hc.elim) (fun c hc => hc.elim) (fun j c hc => ⟨by omega, by show c < (w.heap.push _).size; rw [Array.size_push]; omega, fun h => h, fun h => h, fun k hk hc' => hk (hc'.1.trans hc.1.symm)⟩) (fun j c hc => hc.elim) (by simp)
    (fun p hp _ => by rw [List.getElem?_append_left hp]) (fun p o hp => hp.elim)
    (fun q' o hq ho => by
      have hql := (List.getElem?_eq_some_iff.1 ho).1
      have : q' = S.x.objs.length := by simp at hql; omega
      subst this
      rw [List.getElem?_append_right (Nat.le_refl _)] at ho
      simp only [Nat.sub_self, List.getElem?_cons_zero, Option.some.injEq] at ho
      subst ho
      refine ⟨_, [.rows []], hvar, rfl, ?_⟩
      unfold Objs.obj
      simp only [hf]
      exact ⟨[], w.heap.size, [], 0, [], rfl, rfl, ⟨by omega, rfl⟩, by simp, List.Perm.refl _, rfl, List.Pairwise.nil, by simp, List.Pairwise.nil, by simp⟩)
    (fun b c hb => h.lt hb)
  have hres := h.after (D := fun _ => False) (nn := 1) hup (fun c hc => hc.elim) rfl hx
  refine ⟨_, ?_, hres, ⟨hle.rho, hle.kap, hle.var, hle.fn⟩⟩
  refine VR.foot ?_
  simp only [VR]
  exact ⟨hvar, rfl, rfl⟩

theorem amakeMapS_sound {r : Option AVal} {u : Option Value} (h : Ok K E S X w) (hr : OptR E r u) (hv : amakeMapS P K S t r = some (v, S')) :
    ∃ y w' E', (Instr.makeMap t u).run P w = .ok y w' ∧ VR E' v y ∧ Ok K E' S' X w' ∧ E.Le E' := by
  unfold amakeMapS at hv
  split at hv
  · cases hv
  split at hv
  · cases hv
  rename_i κ hκ
  split at hv
  rotate_left
  · cases hv
  rename_i q cols sg hf
  obtain ⟨E', g1, g2, g3⟩ := newMap_ok h hf
  split at hv
  · simp only [Option.some.injEq, Prod.mk.injEq] at hv; obtain ⟨rfl, rfl⟩ := hv
    cases hr
    exact ⟨.map (some w.heap.size), _, E', by simp [Instr.makeMap], g1, g2, g3⟩
  · split at hv
    · rename_i hu
      simp only [Option.some.injEq, Prod.mk.injEq] at hv; obtain ⟨rfl, rfl⟩ := hv
      cases hr with
      | some hr =>
        simp only [VR] at hr; subst hr
        exact ⟨.map (some w.heap.size), _, E', by simp [Instr.makeMap, run_underlying' hu, asInt, asIntOf], g1, g2, g3⟩
    · cases hv
  · cases hv

def astoreS (P : Program) (G : Glb) (S : St) (t : TypeId) (a v : AVal) : Option St :=
  match a, P.info? t with
  | .tm .ptr (.elem h ti sz o), some inf =>
    match ownOf G h S.x.objs 0 with
    | some (j, κ, cols, g) =>
      if sz = cols.length ∧ inf.size = 1 ∧ inList S.x.conds ti g = true then
        match cols[o]? with
        | some q => match rowTs [q] [v] with
          | some [tv] => some { S with x := { S.x with objs := S.x.objs.set j ⟨κ, h, [.app 3 [g, ti, .int o, tv]]⟩ } }
          | _ => none
        | none => none
      else none
    | none => none
  | _, _ => none

theorem colWfs_set : ∀ {qs : List TK} {zs : List Int} {c : Nat} {q : TK} {z : Int}, colWfs qs zs = true → qs[c]? = some q → colWf q z = true → colWfs qs (zs.set c z) = true ∧ colVs qs (zs.set c z) = (colVs qs zs).set c ((colV q z).getD undef)
  | [], [], c, q, z, _, h, _ => by simp at h
  | q' :: qs, y :: zs, c, q, z, h, hc, hz => by
    simp only [colWfs, Bool.and_eq_true] at h
    cases c with
    | zero => simp at hc; subst hc; exact ⟨by simp [colWfs, hz, h.2], by simp [colVs]⟩
    | succ c =>
      simp at hc
      obtain ⟨g1, g2⟩ := colWfs_set h.2 hc hz
      exact ⟨by simp [colWfs, h.1, g1], by simp [colVs, g2]⟩
  | [], _ :: _, _, _, _, h, _, _ => by simp [colWfs] at h
  | _ :: _, [], _, _, _, h, _, _ => by simp [colWfs] at h

theorem astoreS_sound {p : Value} (h : Ok K E S X w) (ha : VR E a p) (hx : VR E v x) (hs : astoreS P K S t a v = some S') :
    ∃ w', (Instr.storeAt t p x).run P w = .ok () w' ∧ Ok K E S' X w' := by
  unfold astoreS at hs
  split at hs
  rotate_left
  · cases hs
  rename_i hh ti sz o inf hinf
  split at hs
  rotate_left
  · cases hs
  rename_i j κ cols g hown
  split at hs
  rotate_left
  · cases hs
  rename_i hc
  obtain ⟨hsz, hi1, hin⟩ := hc
  split at hs
  rotate_left
  · cases hs
  rename_i q hq
  split at hs
  rotate_left
  · cases hs
  rename_i tv htv
  obtain rfl := Option.some.inj hs
  obtain ⟨_, h1, hfmt⟩ := ownOf_sound hown
  simp only [Nat.sub_zero] at h1
  have hfmt' : K.ob.fmt κ = .list cols true := hfmt
  simp only [VR] at ha
  obtain ⟨ad, e1, rfl⟩ := ha
  obtain ⟨b, off, n, cap, z, e2, e3, rfl⟩ := elem_den e1
  obtain ⟨v0, gs, f1, f2, f3⟩ := h.x.objs j _ h1
  unfold Objs.obj at f3
  simp only [hfmt'] at f3
  rw [e2] at f1
  simp only [Option.some.injEq, U.val.injEq] at f1
  subst f1
  obtain ⟨l, rfl, hl⟩ := f3
  have hg : g.den E = some (.rows l) := by
    simp only [dens] at f2
    split at f2
    · rename_i x1 x2 hx1 hx2
      simp only [Option.some.injEq, List.cons.injEq] at f2
      rw [f2.1] at hx1; exact hx1
    · cases f2
  obtain ⟨hz0, hzl⟩ := inList_sound h.x.conds e3 hg hin
  obtain ⟨us, zs, u1, u2, u3, u4⟩ := rowTs_sound htv (VRs.cons hx VRs.nil)
  -- the one number
  obtain ⟨zv, rfl⟩ : ∃ zv, zs = [zv] := by
    have := (colWfs_length u3).1
    match zs, this with
    | [zv], _ => exact ⟨zv, rfl⟩
  simp only [colWfs, Bool.and_true] at u3
  obtain ⟨y, hy⟩ := colWf_some u3
  simp only [colVs, hy, Option.getD_some, List.cons.injEq, and_true] at u4
  subst u4
  rcases hl with ⟨hh1, rfl⟩ | ⟨b', off', cap', cs, e', hv', k1, k2, k3, k4, k5, k6⟩
  · cases hh1
  simp only [Value.slice.injEq, Option.some.injEq, Addr.mk.injEq, and_true] at hv'
  obtain ⟨⟨rfl, rfl⟩, _, rfl⟩ := hv'
  have hDb : E.fp j b := by
    rcases k5 with ⟨_, k5⟩ | ⟨k5, _⟩
    · exact k5
    · cases k5
  have ho : o < cols.length := (List.getElem?_eq_some_iff.1 hq).1
  have hzt : z.toNat < l.length := by omega
  have hpos : z.toNat * cols.length + cols.length ≤ l.length * cols.length := by
    have := Nat.mul_le_mul_right cols.length (show z.toNat + 1 ≤ l.length by omega)
    rwa [Nat.succ_mul] at this
  have hcap : l.length * cols.length ≤ cap * cols.length := Nat.mul_le_mul_right _ k1
  have hone : y.oneCell' = true := by
    cases q with
    | int k => simp only [colV, Option.some.injEq] at hy; subst hy; rfl
    | bool => simp only [colV, Option.some.injEq] at hy; subst hy; rfl
    | raw k => simp [colV] at hy
    | str => simp [colV] at hy
    | ptr => simp [colV] at hy
    | any => simp [colV] at hy
  have hcells : y.cells = #[y] := by
    cases q with
    | int k => simp only [colV, Option.some.injEq] at hy; subst hy; rfl
    | bool => simp only [colV, Option.some.injEq] at hy; subst hy; rfl
    | raw k => simp [colV] at hy
    | str => simp [colV] at hy
    | ptr => simp [colV] at hy
    | any => simp [colV] at hy
  have hst := run_storeCells_row (P := P) (c := b) (p := off + z.toNat * sz + o) (e := e') (fz := (0, 0)) [y] 0 cs w k3 (by rw [hsz]; simp; omega) (fun _ _ _ => by simp) (by simpa using hone)
  simp only [Nat.add_zero, List.length_singleton] at hst
  have harr : (cs.toList.take (off + z.toNat * sz + o) ++ [y] ++ cs.toList.drop (off + z.toNat * sz + o + 1)).toArray = cs.setIfInBounds (off + z.toNat * sz + o) y := by
    apply Array.ext'
    simp only [Array.toList_setIfInBounds]
    rw [List.set_eq_take_append_cons_drop, if_pos (by rw [hsz]; simp; omega)]
    simp
  rw [harr] at hst
  refine ⟨{ w with heap := w.heap.setIfInBounds b (.cells (cs.setIfInBounds (off + z.toNat * sz + o) y) e' (0, 0)) }, ?_, ?_⟩
  · have hcs : y.cells.size = inf.size := by rw [hcells, hi1]; rfl
    have hst' : (storeCells ⟨b, off + z.toNat * sz + o, none⟩ y.cells.toList).run P w = .ok () { w with heap := w.heap.setIfInBounds b (.cells (cs.setIfInBounds (off + z.toNat * sz + o) y) e' (0, 0)) } := by rw [hcells]; exact hst
    simp [Instr.storeAt, Instr.sureAddr, storeVar, run_sizeOf' hinf, hcs, hst']
  · refine h.objSet h1 hDb ⟨_, [.rows (l.modify z.toNat fun r => r.set o zv)], e2, ?_, ?_⟩
    · simp only [dens] at u1
      split at u1
      · rename_i x1 x2 hx1 hx2
        obtain rfl := Option.some.inj u1
        simp only [Option.some.injEq] at hx2
        subst hx2
        simp only [dens, Tm.den, hg, e3, hx1, appF, u2, Option.bind_some, Int.toNat_natCast]
      · cases u1
    · unfold Objs.obj
      simp only [hfmt']
      have hb := (Array.getElem?_eq_some_iff.1 k3).1
      refine ⟨_, rfl, .inr ⟨b, off, cap, _, e', by simp; assumption, by simpa using k1, k2, by rw [Array.getElem?_setIfInBounds, if_pos rfl, if_pos hb], by simpa using k4, .inl ⟨rfl, hDb⟩, fun i row hi => ?_⟩⟩
      rw [List.getElem?_modify] at hi
      by_cases e : z.toNat = i
      · subst e
        rw [List.getElem?_eq_getElem hzt] at hi
        simp only [if_true, Option.map_eq_map, Option.map_some, Option.some.injEq] at hi
        subst hi
        obtain ⟨g1, g2⟩ := k6 z.toNat _ (List.getElem?_eq_getElem hzt)
        obtain ⟨m1, m2⟩ := colWfs_set g1 hq u3
        refine ⟨m1, fun c hc => ?_⟩
        rw [m2, hy, Option.getD_some]
        by_cases e2 : c = o
        · subst e2
          rw [hsz, Array.getElem?_setIfInBounds, if_pos rfl, if_pos (by omega)]
          rw [List.getElem?_set_self (by rw [(colWfs_length g1).2]; exact hc)]
        · rw [hsz, Array.getElem?_setIfInBounds, if_neg (by omega), List.getElem?_set_ne (Ne.symm e2)]
          exact g2 c hc
      · have hi' : l[i]? = some row := by simpa [e] using hi
        obtain ⟨g1, g2⟩ := k6 i row hi'
        refine ⟨g1, fun c hc => ?_⟩
        rw [← g2 c hc, hsz, Array.getElem?_setIfInBounds, if_neg]
        intro he
        have hcp : 0 < cols.length := by omega
        have h3 : (z.toNat * cols.length + o) / cols.length = z.toNat := by
          rw [Nat.mul_comm, Nat.mul_add_div hcp, Nat.div_eq_of_lt ho]; rfl
        have h4 : (i * cols.length + c) / cols.length = i := by
          rw [Nat.mul_comm, Nat.mul_add_div hcp, Nat.div_eq_of_lt hc]; rfl
        have h5 : z.toNat * cols.length + o = i * cols.length + c := by omega
        rw [h5, h4] at h3
        exact e h3.symm

end Go.Eng
