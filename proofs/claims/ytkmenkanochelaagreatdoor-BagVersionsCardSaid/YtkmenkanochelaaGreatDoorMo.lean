/- Maps from numbers: what a look-up and a store do; a slice of structs of five numbers, opened. Conditions: none. -/
import Derived.Test.YtkmenkanochelaaGreatDoorEngA
import Derived.Below
import Derived.ProofKit
import Derived.Deep.Slices
import Derived.Lib.SmallJoins
namespace Go.Eng
open Go.RowKit

/-! ### maps from numbers: what a look-up and a store do -/

variable {P : Program} {w : World} {β : Type} {V : β → Value} {k : IntKind}

def aget (id : Int) : List (Int × β) → Option β
  | [] => none
  | p :: l => if id = p.1 then some p.2 else aget id l

/-- The value of a key: where it is, in its place; else behind all. -/
def aput (id : Int) (v : β) : List (Int × β) → List (Int × β)
  | [] => [(id, v)]
  | p :: l => if id = p.1 then (id, v) :: l else p :: aput id v l

def EntR (k : IntKind) (V : β → Value) (e : MapEntry) (p : Int × β) : Prop := e.key = .int k p.1 ∧ e.val = V p.2

def EntsR (k : IntKind) (V : β → Value) : List MapEntry → List (Int × β) → Prop
  | [], [] => True
  | e :: l, p :: r => EntR k V e p ∧ EntsR k V l r
  | _, _ => False

/-- Block m is a map of these entries. -/
def MapIs (k : IntKind) (V : β → Value) (w : World) (m : Nat) (es : List (Int × β)) : Prop :=
  ∃ ms clock, w.heap[m]? = some (.map ms clock) ∧ EntsR k V ms.toList es

theorem MapIs.below {w' : World} {B m : Nat} {es : List (Int × β)} (h : MapIs k V w m es) (hb : Below B w w') (hm : m < B) : MapIs k V w' m es := by
  obtain ⟨ms, c, h1, h2⟩ := h
  exact ⟨ms, c, (hb.block m hm).trans h1, h2⟩
theorem MapIs.same {w' : World} {m : Nat} {es : List (Int × β)} (h : MapIs k V w m es) (hb : w'.heap[m]? = w.heap[m]?) : MapIs k V w' m es := by
  obtain ⟨ms, c, h1, h2⟩ := h
  exact ⟨ms, c, hb.trans h1, h2⟩
theorem MapIs.lt {m : Nat} {es : List (Int × β)} (h : MapIs k V w m es) : m < w.heap.size := by
  obtain ⟨ms, c, h1, _⟩ := h
  exact (Array.getElem?_eq_some_iff.1 h1).1

theorem findNow_ents {q : IntKind} {id : Int} : ∀ {ms : List MapEntry} {es : List (Int × β)} {i : Nat}, EntsR k V ms es →
    Instr.findNow (.int q) (.int k id) ms i = some (match aget id es with
      | some v => some (i + (es.findIdx (fun p => id == p.1)), V v)
      | none => none)
  | [], [], i, _ => by simp [Instr.findNow, aget]
  | e :: l, p :: r, i, h => by
    obtain ⟨⟨h1, h2⟩, h3⟩ := h
    unfold Instr.findNow aget
    rw [h1]
    simp only [Instr.sameNow, if_true]
    by_cases e1 : id = p.1
    · subst e1
      simp [h2, List.findIdx_cons]
    · have e2 : (id == p.1) = false := by simpa using e1
      simp only [e2, if_neg e1]
      rw [findNow_ents h3]
      simp only [List.findIdx_cons, e2, cond_false]
      cases aget id r with
      | none => rfl
      | some v => simp only [Option.some.injEq, Prod.mk.injEq, and_true]; omega
  | [], p :: r, i, h => by cases h
  | e :: l, [], i, h => by cases h

theorem run_checkKey_int {kt : TypeId} {q : IntKind} (hk : P.underlying kt = some (.int q)) (b : Bool) (id : Int) (w : World) : (Instr.checkKey b 10000 kt (.int k id)).run P w = .ok () w := by
  have h : ∀ n, (Instr.checkKey b (n + 1) kt (.int k id)).run P w = .ok () w := by
    intro n
    unfold Instr.checkKey
    simp only [Sem.run_bind, run_underlying' hk, Result.andThen_ok, Sem.run_pure]
  exact h 9999

theorem run_lookup_ents {t kt et : TypeId} {q : IntKind} {z : Value} {m : Nat} {es : List (Int × β)} (ht : P.underlying t = some (.map kt et)) (hk : P.underlying kt = some (.int q))
    (hz : ∀ w, (zeroValue et).run P w = .ok z w) (h : MapIs k V w m es) (id : Int) (ok : Bool) :
    (Instr.lookup t (.map (some m)) (.int k id) ok).run P w = .ok (if ok then .tuple #[((aget id es).map V).getD z, .bool (aget id es).isSome] else ((aget id es).map V).getD z) w := by
  obtain ⟨ms, c, h1, h2⟩ := h
  simp only [Instr.lookup, Sem.run_bind, run_underlying' ht, Result.andThen_ok, run_getObj_map h1, Sem.run_pure, run_checkKey_int hk, Instr.findKey, run_underlying' hk, findNow_ents h2]
  cases aget id es with
  | none => simp [hz]
  | some v => simp

theorem sameBits_int (n : Nat) (a : Int) : Instr.sameBits n (.int k a) (.int k a) = true := by
  unfold Instr.sameBits; simp

theorem ents_get {id : Int} {v : β} : ∀ {ms : List MapEntry} {es : List (Int × β)}, EntsR k V ms es → aget id es = some v →
    ∃ e, ms[es.findIdx (fun p => id == p.1)]? = some e ∧ e.key = .int k id
  | [], [], _, h => by simp [aget] at h
  | e :: l, p :: r, h, hv => by
    obtain ⟨⟨h1, h2⟩, h3⟩ := h
    unfold aget at hv
    by_cases e1 : id = p.1
    · subst e1
      exact ⟨e, by simp [List.findIdx_cons], h1⟩
    · have e2 : (id == p.1) = false := by simpa using e1
      rw [if_neg e1] at hv
      obtain ⟨x, g1, g2⟩ := ents_get h3 hv
      exact ⟨x, by simp only [List.findIdx_cons, e2, cond_false, List.getElem?_cons_succ]; exact g1, g2⟩
  | [], p :: r, h, _ => by cases h
  | e :: l, [], h, _ => by cases h

theorem ents_modify {id : Int} {v0 v : β} : ∀ {ms : List MapEntry} {es : List (Int × β)}, EntsR k V ms es → aget id es = some v0 →
    EntsR k V (ms.modify (es.findIdx (fun p => id == p.1)) fun e => { e with key := .int k id, val := V v }) (aput id v es)
  | [], [], _, h => by simp [aget] at h
  | e :: l, p :: r, h, hv => by
    obtain ⟨h1, h3⟩ := h
    unfold aget at hv
    unfold aput
    by_cases e1 : id = p.1
    · subst e1
      simp only [List.findIdx_cons, beq_self_eq_true, cond_true, List.modify_zero_cons, if_true]
      exact ⟨⟨rfl, rfl⟩, h3⟩
    · have e2 : (id == p.1) = false := by simpa using e1
      rw [if_neg e1] at hv ⊢
      simp only [List.findIdx_cons, e2, cond_false, List.modify_succ_cons]
      exact ⟨h1, ents_modify h3 hv⟩
  | [], p :: r, h, _ => by cases h
  | e :: l, [], h, _ => by cases h

theorem ents_push {id : Int} {v : β} {c : Nat} : ∀ {ms : List MapEntry} {es : List (Int × β)}, EntsR k V ms es → aget id es = none →
    EntsR k V (ms ++ [⟨.int k id, V v, c⟩]) (aput id v es)
  | [], [], _, _ => ⟨⟨rfl, rfl⟩, trivial⟩
  | e :: l, p :: r, h, hv => by
    obtain ⟨h1, h3⟩ := h
    unfold aget at hv
    unfold aput
    by_cases e1 : id = p.1
    · rw [if_pos e1] at hv; cases hv
    · rw [if_neg e1] at hv ⊢
      exact ⟨h1, ents_push h3 hv⟩
  | [], p :: r, h, _ => by cases h
  | e :: l, [], h, _ => by cases h

theorem run_mapUpdate_ents {t kt et : TypeId} {q : IntKind} {m : Nat} {es : List (Int × β)} (ht : P.underlying t = some (.map kt et)) (hk : P.underlying kt = some (.int q))
    (h : MapIs k V w m es) (id : Int) (v : β) :
    ∃ ms c, (Instr.mapUpdate t (.map (some m)) (.int k id) (V v)).run P w = .ok () { w with heap := w.heap.setIfInBounds m (.map ms c) } ∧ EntsR k V ms.toList (aput id v es) := by
  obtain ⟨ms, c, h1, h2⟩ := h
  simp only [Instr.mapUpdate, Sem.run_bind, run_underlying' ht, Result.andThen_ok, run_getObj_map h1, run_checkKey_int hk, Instr.findKey, run_underlying' hk, findNow_ents h2, Sem.run_pure]
  cases hv : aget id es with
  | none =>
    refine ⟨ms.push ⟨.int k id, V v, c⟩, c + 1, ?_, ?_⟩
    · simp only [run_setObj_map h1]
    · rw [Array.toList_push]; exact ents_push h2 hv
  | some v0 =>
    obtain ⟨e, g1, g2⟩ := ents_get h2 hv
    refine ⟨ms.modify (es.findIdx (fun p => id == p.1)) fun e => { e with key := .int k id, val := V v }, c, ?_, ?_⟩
    · rw [Array.getElem?_toList] at g1
      simp only [Nat.zero_add, g1, Option.map_some, Option.getD_some, g2, Instr.keyThatStays, sameBits_int, if_true, Sem.run_pure, Sem.run_bind, Result.andThen_ok, run_setObj_map h1]
    · rw [Array.toList_modify]; exact ents_modify h2 hv

theorem MapIs.put {m c : Nat} {ms : Array MapEntry} {es : List (Int × β)} (hm : m < w.heap.size) (h : EntsR k V ms.toList es) : MapIs k V { w with heap := w.heap.setIfInBounds m (.map ms c) } m es :=
  ⟨ms, c, by simp [hm], h⟩

end Go.Eng

namespace Go.Eng
open Go.ChangeShapes Go.WideShapes Go.RowKit Go.Deep

/-! ### a slice of structs of five numbers -/
variable {H : Type} {enc : TypeId × Value → H} {P : Program} {w : World} {base : Nat} {spare : Nat → Bool} {held : Bool}

theorem trod_struct5 {t : TypeId} {f0 f1 f2 f3 f4 : Field} {fuel : Nat} {cs : List Value} {x : DataW H × List MemPlace} (ht : P.underlying t = some (.struct #[f0, f1, f2, f3, f4])) (h : DataW.trod enc P w base spare held fuel t cs = some x) :
    ∃ y0 y1 y2 y3 y4 n, cs.length = P.cellsOf t ∧ DataW.trod enc P w base spare held n f0.type ((cs.drop f0.offset).take (P.cellsOf f0.type)) = some y0 ∧
      DataW.trod enc P w base spare held n f1.type ((cs.drop f1.offset).take (P.cellsOf f1.type)) = some y1 ∧ DataW.trod enc P w base spare held n f2.type ((cs.drop f2.offset).take (P.cellsOf f2.type)) = some y2 ∧
      DataW.trod enc P w base spare held n f3.type ((cs.drop f3.offset).take (P.cellsOf f3.type)) = some y3 ∧ DataW.trod enc P w base spare held n f4.type ((cs.drop f4.offset).take (P.cellsOf f4.type)) = some y4 := by
  obtain ⟨xs, n, _, rfl, hl, hlen, hf⟩ := DataW.trod_struct ht h
  match xs, hlen with
  | [y0, y1, y2, y3, y4], _ => exact ⟨y0, y1, y2, y3, y4, n, hl, by simpa using hf 0 f0 rfl, by simpa using hf 1 f1 rfl, by simpa using hf 2 f2 rfl, by simpa using hf 3 f3 rfl, by simpa using hf 4 f4 rfl⟩

structure Five (P : Program) (e : TypeId) (k0 k1 k2 k3 k4 : IntKind) : Prop where
  ex : ∃ f0 f1 f2 f3 f4, P.underlying e = some (.struct #[f0, f1, f2, f3, f4]) ∧ f0.offset = 0 ∧ f1.offset = 1 ∧ f2.offset = 2 ∧ f3.offset = 3 ∧ f4.offset = 4 ∧
    P.underlying f0.type = some (.int k0) ∧ P.underlying f1.type = some (.int k1) ∧ P.underlying f2.type = some (.int k2) ∧ P.underlying f3.type = some (.int k3) ∧ P.underlying f4.type = some (.int k4) ∧
    P.cellsOf f0.type = 1 ∧ P.cellsOf f1.type = 1 ∧ P.cellsOf f2.type = 1 ∧ P.cellsOf f3.type = 1 ∧ P.cellsOf f4.type = 1
  size : P.cellsOf e = 5

/-- Five numbers, each fitting its kind, lie at off. -/
def FiveAt (w : World) (b off : Nat) (k0 k1 k2 k3 k4 : IntKind) : Prop :=
  ∃ x0 x1 x2 x3 x4, (w.cell? ⟨b, off, none⟩ = some (.int k0 x0) ∧ w.cell? ⟨b, off + 1, none⟩ = some (.int k1 x1) ∧ w.cell? ⟨b, off + 2, none⟩ = some (.int k2 x2) ∧ w.cell? ⟨b, off + 3, none⟩ = some (.int k3 x3) ∧ w.cell? ⟨b, off + 4, none⟩ = some (.int k4 x4)) ∧
    (Lit.int k0 x0).wf = true ∧ (Lit.int k1 x1).wf = true ∧ (Lit.int k2 x2).wf = true ∧ (Lit.int k3 x3).wf = true ∧ (Lit.int k4 x4).wf = true

theorem one_int {t : TypeId} {k : IntKind} {n : Nat} {cs : List Value} {y : DataW H × List MemPlace} {i : Nat} {v : Value} (hu : P.underlying t = some (.int k)) (hc : P.cellsOf t = 1) (hv : cs[i]? = some v)
    (h : DataW.trod enc P w base spare held n t ((cs.drop i).take (P.cellsOf t)) = some y) : ∃ x, v = .int k x ∧ (Lit.int k x).wf = true := by
  have e : (cs.drop i).take 1 = [v] := by
    rw [List.take_one, List.head?_drop, hv]; rfl
  rw [hc, e] at h
  obtain ⟨a, e0, _, wa⟩ := DataW.trod_int hu h
  simp at e0
  exact ⟨a, e0, wa⟩

theorem open_fives {t e : TypeId} {k0 k1 k2 k3 k4 : IntKind} {fuel : Nat} {a0 : Option Addr} {len cap : Nat} {x : DataW H × List MemPlace} (ht : P.underlying t = some (.slice e)) (hF : Five P e k0 k1 k2 k3 k4)
    (h : DataW.trod enc P w base spare held fuel t [.slice a0 len cap] = some x) :
    len = 0 ∨ ∃ b off, a0 = some ⟨b, off, none⟩ ∧ b < w.heap.size ∧ ∀ i, i < len → FiveAt w b (off + i * 5) k0 k1 k2 k3 k4 := by
  rcases open_slice ht h with ⟨hn, _⟩ | ⟨a, len', cap', m, n, D, Pl, hcs, _, hl, hm, hmm, _, hx⟩
  · simp only [List.cons.injEq, Value.slice.injEq, and_true] at hn
    exact .inl hn.2.1
  · simp only [List.cons.injEq, Value.slice.injEq, and_true] at hcs
    obtain ⟨rfl, rfl, rfl⟩ := hcs
    rcases Nat.eq_zero_or_pos len with h0 | h0
    · exact .inl h0
    · right
      have hle : len ≤ m := by rw [hmm]; split <;> omega
      obtain ⟨b, off, spot⟩ := a
      have get : ∀ i, i < len → ∃ cs' y, w.cells? base ((⟨b, off, spot⟩ : Addr).add (i * 5)) 5 = some cs' ∧ DataW.trod enc P w base spare held n e cs' = some y := by
        intro i hi
        obtain ⟨cs', h1, h2⟩ := hx i (by omega)
        rw [hF.size] at h1
        exact ⟨cs', _, h1, h2⟩
      have hsp : spot = none := by
        obtain ⟨cs', y, h1, _⟩ := get 0 h0
        obtain ⟨_, h3, h4⟩ := World.cells?_some h1
        have := h4 0 (by omega)
        rw [List.getElem?_eq_getElem (by omega)] at this
        simpa [Addr.add] using World.cell?_spot this
      subst hsp
      have cell : ∀ i, i < len → FiveAt w b (off + i * 5) k0 k1 k2 k3 k4 := by
        intro i hi
        obtain ⟨cs', y, h1, h2⟩ := get i hi
        obtain ⟨_, h3, h4⟩ := World.cells?_some h1
        obtain ⟨f0, f1, f2, f3, f4, hu, o0, o1, o2, o3, o4, u0, u1, u2, u3, u4, c0, c1, c2, c3, c4⟩ := hF.ex
        obtain ⟨y0, y1, y2, y3, y4, nn, _, g0, g1, g2, g3, g4⟩ := trod_struct5 hu h2
        rw [o0] at g0; rw [o1] at g1; rw [o2] at g2; rw [o3] at g3; rw [o4] at g4
        match cs', h3, h4, g0, g1, g2, g3, g4 with
        | [v0, v1, v2, v3, v4], _, h4, g0, g1, g2, g3, g4 =>
          obtain ⟨x0, rfl, w0⟩ := one_int u0 c0 (v := v0) rfl g0
          obtain ⟨x1, rfl, w1⟩ := one_int u1 c1 (v := v1) rfl g1
          obtain ⟨x2, rfl, w2⟩ := one_int u2 c2 (v := v2) rfl g2
          obtain ⟨x3, rfl, w3⟩ := one_int u3 c3 (v := v3) rfl g3
          obtain ⟨x4, rfl, w4⟩ := one_int u4 c4 (v := v4) rfl g4
          have q : ∀ j, j < 5 → w.cell? ⟨b, off + i * 5 + j, none⟩ = ([Value.int k0 x0, .int k1 x1, .int k2 x2, .int k3 x3, .int k4 x4] : List Value)[j]? := by
            intro j hj
            have := h4 j hj
            rwa [add_plain, add_plain] at this
          exact ⟨x0, x1, x2, x3, x4, ⟨q 0 (by omega), q 1 (by omega), q 2 (by omega), q 3 (by omega), q 4 (by omega)⟩, w0, w1, w2, w3, w4⟩
      refine ⟨b, off, rfl, ?_, cell⟩
      obtain ⟨x0, _, _, _, _, ⟨h1, _⟩, _⟩ := cell 0 h0
      exact World.block_lt_of_cell? _ _ h1

end Go.Eng
